/- Cones: the specification's. -/
import Derived.Test.YtpccnjgeddjfjaaOClockCon
set_option maxRecDepth 100000
set_option maxHeartbeats 2000000
set_option linter.unusedVariables false
set_option linter.unusedSimpArgs false
namespace Go.Oct.Clock
open Go.Oct
noncomputable def coneV (T : List Int) (R : List Span) (a e : Span) (D : List Span) : List Span × Int := if askE T R a e D = 0 then (cones T R a e D D.length, 0) else ([], askE T R a e D)
theorem ask0 {T : List Int} {R : List Span} {a e : Span} {D : List Span} (h0 : askE T R a e D = 0) : okClk T R a e ∧ okDays T D := by
  unfold askE at h0
  split at h0
  · split at h0
    · exact ⟨by assumption, by assumption⟩
    · cases h0
  · cases h0
/-- One temperature more. -/
theorem dayF_step {T : List Int} {R : List Span} {a e : Span} {D : List Span} (h : okClk T R a e) (hd : okDays T D) {i : Nat} (hi : i < D.length) {m : Nat} (hm : (m : Int) + 1 ≤ (nth D i).hi - (nth D i).lo) :
    dayF T R a (nth D i) i (m + 1) = ⟨min (min (dayF T R a (nth D i) i m).lo (rateS T R a ((nth D i).lo + (m + 1 : Nat)) i).lo) (rateS T R a ((nth D i).lo + (m + 1 : Nat)) i).hi, max (max (dayF T R a (nth D i) i m).hi (rateS T R a ((nth D i).lo + (m + 1 : Nat)) i).lo) (rateS T R a ((nth D i).lo + (m + 1 : Nat)) i).hi⟩ := by
  have hdl := hd.1
  have hq := day_in hd hi (q := m + 1) (by omega)
  have h1 := (rateS_bd h hq.1 hq.2 (show i ≤ 59 by omega)).2.2
  simp only [dayF, minF, maxF, Span.mk.injEq]
  omega
noncomputable def cur (T : List Int) (R : List Span) (a d : Span) (i : Nat) : Nat → Span
  | 0 => ⟨0, 0⟩
  | m + 1 => dayF T R a d i m
theorem cur_step {T : List Int} {R : List Span} {a e : Span} {D : List Span} (h : okClk T R a e) (hd : okDays T D) {i : Nat} (hi : i < D.length) {m : Nat} (h0 : ¬ m = 0) (hm : (m : Int) ≤ (nth D i).hi - (nth D i).lo) :
    cur T R a (nth D i) i (m + 1) = ⟨min (min (cur T R a (nth D i) i m).lo (rateS T R a ((nth D i).lo + (m : Int)) i).lo) (rateS T R a ((nth D i).lo + (m : Int)) i).hi, max (max (cur T R a (nth D i) i m).hi (rateS T R a ((nth D i).lo + (m : Int)) i).lo) (rateS T R a ((nth D i).lo + (m : Int)) i).hi⟩ := by
  obtain ⟨n, rfl⟩ : ∃ n, m = n + 1 := ⟨m - 1, by omega⟩
  exact dayF_step h hd hi (by omega)
end Go.Oct.Clock
