/- Logs: where the ship was, as the specification tells it. -/
import Derived.Test.YtddclpecmjibkaaDoorOFixRefB
set_option maxRecDepth 100000
set_option maxHeartbeats 8000000
set_option linter.unusedVariables false
set_option linter.unusedSimpArgs false
namespace Go.Oct.Fix
open Go.Oct
theorem sets_len (E N : Span) (S : List Stp) : (sets E N S).length = (rns S).length + 1 := by unfold sets; rw [List.length_map, List.length_range]
theorem sets_nth {E N : Span} {S : List Stp} {j : Nat} (h : j ≤ (rns S).length) : nth (sets E N S) j = wasF E N S ((rns S).length - j) := by
  unfold sets
  rw [nth_map (f := fun j => wasF E N S ((rns S).length - j)) (by rw [List.length_range]; omega), nth_eq (by rw [List.length_range]; omega), List.getElem_range]
@[simp] theorem aidx_sets {nl : Bool} {xs : List (Nat → Bool)} (q : IntKind) (i : Int) : aidx 1 (vl eSet nl xs) (.int q i) = if 0 ≤ i ∧ i < (xs.length : Int) then some (.vptr [eSet (nth xs i.toNat)] 0) else none :=
  aidx_vl (e := eSet) (fun _ => rfl) q i
@[simp] theorem closed_set (k : Nat) (f : Nat → Bool) : closed (k + 2) (eSet f) = true := by unfold eSet; simp
theorem was_none {E N : Span} {S : List Stp} (h : ptsL (canR E N S) = []) : ∀ d, d ≤ (rns S).length → ptsL (wasF E N S d) = []
  | 0, _ => h
  | d + 1, hd => by
    have ih := was_none h d (by omega)
    cases e : ptsL (wasF E N S (d + 1)) with
    | nil => rfl
    | cons q l =>
      exfalso
      have hq : q ∈ ptsL (wasF E N S (d + 1)) := by rw [e]; exact List.mem_cons_self ..
      obtain ⟨n, h1, h2, _⟩ := ptsL_mem.1 hq
      have h2' : was E N (rns S) (sgs S S.length) (d + 1) n = true := h2
      simp only [was, Bool.and_eq_true] at h2'
      obtain ⟨m, h3, h4, _⟩ := mb_iff.1 h2'.2
      have : pt m ∈ ptsL (wasF E N S d) := ptsL_mem.2 ⟨m, h3, h4, rfl⟩
      rw [ih] at this; cases this
theorem rlist_ok (f : Nat → Bool) : ans prog O 74 [eSet f] = some (vl eSpan (ptsL f).isEmpty (ptsL f)) := by
  refine fn_of' pl get74 (oo (by decide)) rfl rfl ?_
  simp (disch := omega) [eSet, Und, -Bool.exists_bool]
  refine lp_loop pl (fun k fr σ => ∃ (i : Nat) (v : AV), i + k = 3600 ∧ fr = ⟨[(0, vl AV.bool false (bl f)), (3, v), (4, .int .i64 i)], []⟩ ∧ σ.lim = 0 ∧ Buf 0 2 eSpan σ v (ptsTo f i))
    ⟨3600, 0, .vsl true [], by omega, rfl, rfl, Buf.nil⟩ ?_
  rintro k _ σ ⟨i, v, hi, rfl, s0, hb⟩
  by_cases hi3 : i < 3600
  · have hi3' : (i : Int) < 3600 := by omega
    have hn := bl_nth (f := f) hi3
    have hs := ptsTo_succ f i
    cases hf : f i
    · rw [hf] at hn
      rw [if_neg (by rw [hf]; simp), List.append_nil] at hs
      simp (disch := omega) [Und, s0, hi3, hi3', hn, -Bool.exists_bool]
      exact ⟨k - 1, by omega, i + 1, by omega, v, ⟨rfl, by omega⟩, by rw [hs]; exact hb⟩
    · rw [hf] at hn
      rw [if_pos hf] at hs
      simp (disch := omega) [Und, s0, hi3, hi3', hn, -Bool.exists_bool]
      have hl := ptsTo_len f i
      refine hb.push encSpan (by omega) (by omega) (pt i) (by simp only [topBytes]; omega) rfl fun v' τ h1 g1 => ?_
      have t0 := g1.lim.trans s0
      simp (disch := omega) [Und, t0, -Bool.exists_bool]
      exact ⟨k - 1, by omega, i + 1, by omega, v', ⟨rfl, by omega⟩, by rw [hs]; exact h1⟩
  · obtain rfl : i = 3600 := by omega
    simp (disch := omega) [Und, s0, -Bool.exists_bool]
    exact hb.fz encSpan 6 fun x _ => by
      conv => rhs; rw [← List.map_id (eSpan x).cells]
      exact List.map_congr_left fun c hc => (flatSp x c hc 6 σ.cel).2
theorem rWas_ok (E N : Span) (nS : Bool) (S : List Stp) (run : Int) (hz : szLog S) : ans prog O 25 [eLog E N nS S, .int .i64 run] = some (wasV E N S run) := by
  have hck := rCheck_ok E N nS S hz
  have hru := rRuns_ok E N nS S hz.1
  refine fn_of' pl get25 (oo (by decide)) rfl rfl ?_
  by_cases hok : okLog E N S
  · have hal := rall_ok E N nS S hz hok
    rw [if_pos hok] at hck
    unfold wasV
    rw [if_pos hok]
    unfold eLog at hck hru hal
    by_cases hr : 0 ≤ run ∧ run ≤ (rns S).length
    · rw [if_pos hr]
      obtain ⟨r, rfl⟩ : ∃ r : Nat, run = r := ⟨run.toNat, by omega⟩
      have hr2 : r ≤ (rns S).length := by omega
      have hsl := sets_len E N S
      have hsn := sets_nth (E := E) (N := N) (S := S) hr2
      have hli := rlist_ok (wasF E N S ((rns S).length - r))
      have i1 : (r : Int) < (sets E N S).length := by omega
      have i2 : (r : Int) ≤ (rns S).length := by omega
      by_cases he : ptsL (canR E N S) = []
      · have hne := was_none he ((rns S).length - r) (by omega)
        rw [hne] at hli
        rw [if_pos he]
        simp (disch := omega) [eLog, hck, hru, hal, i1, i2, hsn, hli, Und, -Bool.exists_bool]
        rfl
      · have hne := was_ne (E := E) (N := N) (S := S) (d := (rns S).length - r) (by omega) he
        have hie : (ptsL (wasF E N S ((rns S).length - r))).isEmpty = false := by
          cases hx : ptsL (wasF E N S ((rns S).length - r)) with
          | nil => exact absurd hx hne
          | cons _ _ => rfl
        rw [hie] at hli
        rw [if_neg he]
        have hlz : ¬ (ptsL (wasF E N S ((rns S).length - r))).length = 0 := fun h => hne (List.eq_nil_of_length_eq_zero h)
        simp (disch := omega) [eLog, hck, hru, hal, i1, i2, hsn, hli, hlz, hne, Und, -Bool.exists_bool]
    · rw [if_neg hr]
      simp (disch := omega) [eLog, hck, hru, eq_false hr, Und, -Bool.exists_bool]
      rfl
  · unfold wasV
    rw [if_neg hok]
    rw [if_neg hok] at hck
    unfold eLog at hck
    simp (disch := omega) [eLog, hck, Und, -Bool.exists_bool]
    rfl
theorem rWhere_ok (E N : Span) (nS : Bool) (S : List Stp) (hz : szLog S) : ans prog O 22 [eLog E N nS S] = some (whereV E N S) := by
  have hru := rRuns_ok E N nS S hz.1
  have hwa := rWas_ok E N nS S (rns S).length hz
  have hv : wasV E N S (rns S).length = whereV E N S := by
    unfold wasV whereV
    by_cases hok : okLog E N S
    · rw [if_pos hok, if_pos hok, if_pos ⟨by omega, Int.le_refl _⟩]
      have e : (rns S).length - ((rns S).length : Int).toNat = 0 := by omega
      rw [e]; rfl
    · rw [if_neg hok, if_neg hok]
  rw [hv] at hwa
  unfold eLog at hru hwa
  refine fn_of' pl get22 (oo (by decide)) rfl rfl ?_
  unfold whereV at hwa ⊢
  by_cases hok : okLog E N S
  · rw [if_pos hok] at hwa ⊢
    by_cases he : ptsL (canR E N S) = []
    · rw [if_pos he] at hwa ⊢
      simp (disch := omega) [eLog, hru, hwa, Und, -Bool.exists_bool]
    · rw [if_neg he] at hwa ⊢
      simp (disch := omega) [eLog, hru, hwa, Und, -Bool.exists_bool]
  · rw [if_neg hok] at hwa ⊢
    simp (disch := omega) [eLog, hru, hwa, Und, -Bool.exists_bool]
end Go.Oct.Fix
