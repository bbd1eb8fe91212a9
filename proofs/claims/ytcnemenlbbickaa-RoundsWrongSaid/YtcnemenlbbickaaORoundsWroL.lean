/- RoundsWrong: it answers true at all arguments. -/
import Derived.Test.YtcnemenlbbickaaORoundsSus
set_option maxRecDepth 100000
set_option maxHeartbeats 8000000
set_option linter.unusedVariables false
set_option linter.unusedSimpArgs false
namespace Go.Oct.Rounds
open Go.Oct
theorem place_ge (xs : List Int) (n : Int) : 0 ≤ place xs n ↔ n ∈ xs := by
  unfold place pfrom
  rw [List.drop_zero]
  by_cases h : n ∈ xs
  · rw [if_pos h]; simp [h]
  · rw [if_neg h]; simp [h]
theorem rise_rises {l : List Int} {n : Int} (h : rise l n) : Rises l n l.length := fun i hi => by
  have h1 := rise_ge h i hi
  have h2 := (h i hi).2
  refine ⟨⟨h1, by omega⟩, fun h0 => ?_⟩
  have := (h i hi).1
  rw [if_neg (by omega)] at this; exact this
theorem sus_mem {T : Int} {C : List Bool} {A : List An} {i : Nat} (hi : i < A.length) : (i : Int) ∈ susL T C A ↔ susF T C A i = true := by
  unfold susL
  rw [sel_mem]
  constructor
  · rintro ⟨k, a, b, c⟩
    have : i = k := by omega
    rw [this]; exact b
  · intro h; exact ⟨i, hi, h, rfl⟩
theorem RoundsWrong_law (T : Int) (nC nA : Bool) (C : List Bool) (A : List An) (nH : Bool) (H : List Int) (k : Int) (hC : C.length < 2 ^ 62) (hA : A.length < 2 ^ 62) (hH : H.length < 2 ^ 62) : ans prog O 8 [eNet T nC C nA A, vs nH H, .int .i64 k] = some (.bool true) := by
  refine fn_of' pl get8 (oo (by decide)) rfl rfl ?_
  obtain ⟨v, hv, hsp⟩ := Suspects_ok T nC C nA A hC hA
  have hso := sound_ok T nC C nA A hC hA
  unfold eNet at hsp hso
  cases hv with
  | bad h1 =>
    simp (disch := omega) [eNet, hsp, hso, h1, Und, -Bool.exists_bool, -Check_ok]
  | none h h1 h2 =>
    simp (disch := omega) [eNet, hsp, hso, h1, Und, -Bool.exists_bool, -Check_ok]
  | ok nl hok hno =>
    obtain ⟨N, rfl⟩ : ∃ N : Nat, T = N := ⟨T.toNat, by have := hok.1; omega⟩
    have hN := hok.1
    have hA3 := hok.2.2.1
    have hll : (susL N C A).length ≤ A.length := sel_len _ _
    have hris : Rises (susL N C A) A.length (susL N C A).length := rise_rises (sel_rise _ _)
    have hi0 := Int.emod_nonneg k (show (A.length : Int) ≠ 0 by omega)
    have hi1 := Int.emod_lt_of_pos k (show (0 : Int) < A.length by omega)
    obtain ⟨i, hi⟩ : ∃ i : Nat, k % (A.length : Int) = i := ⟨(k % (A.length : Int)).toNat, by omega⟩
    have hiA : i < A.length := by omega
    have hok2 : ∀ j, j < A.length → okNet N C (setA A j 0 648000) := fun j hj => okNet_setA hok hj (by omega) (by omega) (by omega)
    have w1 := fun j (hj : j < A.length) => with_ok N nC C nA A j 0 648000 hj (by omega)
    have hpl : ∀ j, j < A.length → (0 ≤ place (susL N C A) j ↔ susF N C A j = true) := fun j hj => (place_ge _ _).trans (sus_mem hj)
    have hcl := fun j (hj : j < A.length) => closes_ok (N := N) nC false (hok2 j hj) nH H hH
    have w1i := w1 i hiA
    have hpi := hpl i hiA
    have hsome : ∃ a b, ans prog O 32 [eNet N nC C false (setA A i 0 648000)] = some (.tuple [a, .int .i64 b]) ∧ (b = 0 ↔ 0 ≤ place (susL N C A) i) := by
      by_cases hs : susF N C A i = true
      · obtain ⟨f, hf⟩ := clB_true.1 hs
        obtain ⟨h', _, s1⟩ := Some_yes nC false (hok2 i hiA) hf
        exact ⟨_, _, s1, by rw [hpi]; simp [hs]⟩
      · exact ⟨_, _, Some_no nC false (hok2 i hiA) (fun f hf => hs (clB_true.2 ⟨f, hf⟩)), by rw [hpi]; simp [hs]⟩
    obtain ⟨a, b, s1, s2⟩ := hsome
    unfold eNet at w1i s1
    have hb1 : (decide (b = 0)) = decide (0 ≤ place (susL N C A) i) := by rw [Bool.eq_iff_iff]; simpa using s2
    simp (disch := omega) [eNet, hsp, hso, hok, hris, hi, w1i, s1, hb1, Und, eqf1, eqf2, -Bool.exists_bool, -Check_ok]
    refine lp_loop pl (fun q fr σ => ∃ j wr wh : Nat, q + j = A.length ∧ fr = ⟨[(1, vs nH H), (3, .ptr (some (0, 0))), (7, vs nl (susL N C A)), (12, .int .i64 wr), (13, .int .i64 wh), (14, .int .i64 j)], []⟩ ∧ σ.lim = 0 ∧ σ.get 0 = some (.cells [.int .i64 N, vl AV.bool nC C, vl eAn nA A]) ∧ wr ≤ j ∧ wh < A.length)
      ⟨A.length, 0, 0, 0, by omega, rfl, rfl, by simp, by omega, by omega⟩ ?_
    rintro q _ σ ⟨j, wr, wh, hj, rfl, t0, tg, hwr, hwh⟩
    have ltg := AH.get_lt tg
    have fin : ¬ ((j : Int) < H.length ∧ (j : Int) < A.length) → ∀ (x : Prop), True := fun _ _ => trivial
    have hw1 := w1 wh hwh
    have hc1 := hcl wh hwh
    have hp1 := hpl wh hwh
    have himp : decide (clD N C (setA A wh 0 648000) H) = true → 0 ≤ place (susL N C A) wh := fun h => by
      rw [hp1]
      exact clB_true.2 ⟨H, (clD_iff (hok2 wh hwh)).1 (of_decide_eq_true h)⟩
    unfold eNet at hw1 hc1
    by_cases hjH : (j : Int) < H.length
    · by_cases hjA : (j : Int) < A.length
      · by_cases hin : (nth A j).lo ≤ nth H j ∧ nth H j ≤ (nth A j).hi
        · simp (disch := omega) [eqf1, eqf2, Und, t0, tg, ltg, hjH, hjA, hin, -Bool.exists_bool]
          exact ⟨q - 1, by omega, j + 1, by omega, wr, wh, ⟨rfl, rfl, by omega⟩, by omega, hwh⟩
        · simp (disch := omega) [eqf1, eqf2, Und, t0, tg, ltg, hjH, hjA, hin, -Bool.exists_bool]
          exact ⟨q - 1, by omega, j + 1, by omega, wr + 1, j, ⟨by omega, rfl, by omega⟩, by omega, by omega⟩
      · by_cases hw : wr = 1
        · cases hd : decide (clD N C (setA A wh 0 648000) H) with
          | true =>
            have hpp := himp hd
            rw [hd] at hc1
            simp (disch := omega) [eqf1, eqf2, Und, t0, tg, ltg, hjH, hjA, hw, hw1, hc1, hpp, -Bool.exists_bool]
          | false =>
            rw [hd] at hc1
            simp (disch := omega) [eqf1, eqf2, Und, t0, tg, ltg, hjH, hjA, hw, hw1, hc1, -Bool.exists_bool]
        · have hw' : ¬ (wr : Int) = 1 := by omega
          simp (disch := omega) [eqf1, eqf2, Und, t0, tg, ltg, hjH, hjA, hw, hw', -Bool.exists_bool]
    · by_cases hw : wr = 1
      · cases hd : decide (clD N C (setA A wh 0 648000) H) with
        | true =>
          have hpp := himp hd
          rw [hd] at hc1
          simp (disch := omega) [eqf1, eqf2, Und, t0, tg, ltg, hjH, hw, hw1, hc1, hpp, -Bool.exists_bool]
        | false =>
          rw [hd] at hc1
          simp (disch := omega) [eqf1, eqf2, Und, t0, tg, ltg, hjH, hw, hw1, hc1, -Bool.exists_bool]
      · have hw' : ¬ (wr : Int) = 1 := by omega
        simp (disch := omega) [eqf1, eqf2, Und, t0, tg, ltg, hjH, hw, hw', -Bool.exists_bool]
theorem RoundsWrong_ok (T : Int) (nC nA : Bool) (C : List Bool) (A : List An) (nH : Bool) (H : List Int) (k : Int) (hT : i64 T) {x y z : AV} (hC : Slice AV.bool (fun _ => True) x nC C) (hA : Slice eAn anOK y nA A) (hH : Slice (AV.int .i64) i64 z nH H) (hk : i64 k) : ans prog O 8 [.agg [.int .i64 T, vl AV.bool nC C, vl eAn nA A], vs nH H, .int .i64 k] = some (.bool true) := by
  have h1 := hC.len
  have h2 := hA.len
  have h3 := hH.len
  exact RoundsWrong_law T nC nA C A nH H k (by omega) (by omega) (by omega)
end Go.Oct.Rounds
