/- FixGoes: it answers true at all arguments. -/
import Derived.Test.YtddclpecmjibkaaDoorOFixRefG
set_option maxRecDepth 100000
set_option maxHeartbeats 8000000
set_option linter.unusedVariables false
set_option linter.unusedSimpArgs false
namespace Go.Oct.Fix
open Go.Oct
theorem whereV_shape (E N : Span) (S : List Stp) : ∃ (nl : Bool) (l : List Span) (e : Int), whereV E N S = .tuple [vl eSpan nl l, .int .i64 e] ∧ l.length ≤ 3600 := by
  unfold whereV
  by_cases hok : okLog E N S
  · rw [if_pos hok]
    by_cases he : ptsL (canR E N S) = []
    · rw [if_pos he]; exact ⟨true, [], 4, rfl, by simp⟩
    · rw [if_neg he]; exact ⟨false, _, 0, rfl, ptsTo_len _ _⟩
  · rw [if_neg hok]; exact ⟨true, [], 80, rfl, by simp⟩
theorem wasV_shape (E N : Span) (S : List Stp) (run : Int) : ∃ (nl : Bool) (l : List Span) (e : Int), wasV E N S run = .tuple [vl eSpan nl l, .int .i64 e] ∧ l.length ≤ 3600 := by
  unfold wasV
  by_cases hok : okLog E N S
  · rw [if_pos hok]
    by_cases hr : 0 ≤ run ∧ run ≤ (rns S).length
    · rw [if_pos hr]
      by_cases he : ptsL (canR E N S) = []
      · rw [if_pos he]; exact ⟨true, [], 4, rfl, by simp⟩
      · rw [if_neg he]; exact ⟨false, _, 0, rfl, ptsTo_len _ _⟩
    · rw [if_neg hr]; exact ⟨true, [], 81, rfl, by simp⟩
  · rw [if_neg hok]; exact ⟨true, [], 80, rfl, by simp⟩
theorem trueV_shape (E N : Span) (S : List Stp) (t : List Span) : ∃ (b : Bool) (e : Int), trueV E N S t = .tuple [.bool b, .int .i64 e] := by
  unfold trueV
  by_cases hok : okLog E N S
  · rw [if_pos hok]; exact ⟨_, _, rfl⟩
  · rw [if_neg hok]; exact ⟨_, _, rfl⟩
theorem FixGoes_law (E N : Span) (nS : Bool) (S : List Stp) (nt : Bool) (t : List Span) (run : Int) (hz : szLog S) (ht : t.length < 2 ^ 62) : ans prog O 3 [eLog E N nS S, vl eSpan nt t, .int .i64 run] = some (.bool true) := by
  have h1 := True_ok E N nS S nt t hz ht
  have h2 := rTrue_ok E N nS S nt t hz ht
  have h3 := Check_ok E N nS S hz
  have h4 := rCheck_ok E N nS S hz
  have h5 := Where_ok E N nS S hz
  have h6 := rWhere_ok E N nS S hz
  have h7 := Was_ok E N nS S run hz
  have h8 := rWas_ok E N nS S run hz
  obtain ⟨b, e, hb⟩ := trueV_shape E N S t
  obtain ⟨n1, l1, e1, w1, w2⟩ := whereV_shape E N S
  obtain ⟨n2, l2, e2, w3, w4⟩ := wasV_shape E N S run
  rw [hb] at h1 h2
  rw [w1] at h5 h6
  rw [w3] at h7 h8
  have s1 := SamePts_ok n1 n1 l1 (by omega)
  have s2 := SamePts_ok n2 n2 l2 (by omega)
  generalize (if okLog E N S then (0 : Int) else 80) = ck at h3 h4
  unfold eLog at h1 h2 h3 h4 h5 h6 h7 h8
  refine fn_of' pl get3 (oo (by decide)) rfl rfl ?_
  simp (disch := omega) [eLog, h1, h2, h3, h4, h5, h6, h7, h8, s1, s2, Und, -Bool.exists_bool]
theorem FixGoes_ok (E N : Span) (nS : Bool) (S : List Stp) (nt : Bool) (t : List Span) (n : Int) (hs : Slice eStp stpOK (vl eStp nS S) nS S) (hE : i64 E.lo ∧ i64 E.hi) (hN : i64 N.lo ∧ i64 N.hi) (ht : Slice eSpan (fun s => i64 s.lo ∧ i64 s.hi) (vl eSpan nt t) nt t) (hn : i64 n) : ans prog O 3 [eLog E N nS S, vl eSpan nt t, .int .i64 n] = some (.bool true) :=
  FixGoes_law E N nS S nt t n (szLog_of hs) (by have := ht.len; omega)
end Go.Oct.Fix
