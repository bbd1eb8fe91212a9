/- The specification's Saw; the law of the saw. -/
import Derived.Test.YtpgjndgpackffaaDoorOShopSawR
import Derived.Test.YtpgjndgpackffaaDoorOShopBits
set_option maxRecDepth 100000
set_option maxHeartbeats 1000000
set_option linter.unusedVariables false
set_option linter.unusedSimpArgs false
namespace Go.Oct.Shop
open Go.Oct
theorem Uses_ok {nl nI : Bool} {L I : List Int} {bar cut : Int} (hL : L.length ≤ 16) (hb : 1 ≤ bar ∧ bar ≤ 10000) (hc : 0 ≤ cut ∧ cut ≤ 1000) (hx : ∀ x ∈ L, 1 ≤ x ∧ x ≤ 10000) (hI : asc L.length 0 I) :
    ans prog O 71 [.int .i64 bar, .int .i64 cut, vs nl L, vs nI I] = some (.int .i64 (if tot cut L false I ≤ bar then tot cut L false I else -1)) := by
  have hal := asc_len hI
  have hq : ∀ q, q < I.length → 0 ≤ nth I q ∧ nth I q < L.length := fun q h => by have := asc_nth hI q h; omega
  have hbd := tot_bd hc hx hq
  refine fn_of' pl get71 (oo (by decide)) rfl rfl ?_
  simp (disch := omega) [-Bool.exists_bool]
  refine lp_loop pl (fun k fr σ => ∃ i : Nat, i + k = I.length ∧ fr = ⟨[(0, .int .i64 bar), (1, .int .i64 cut), (2, vs nl L), (3, vs nI I), (9, .int .i64 (tot cut L false (I.take i))), (10, .int .i64 i)], []⟩ ∧ σ.lim = 0) ⟨I.length, 0, by omega, rfl, rfl⟩ ?_
  rintro k _ σ ⟨i, hi, rfl, hl0⟩
  by_cases hil : i < I.length
  · have h1 := hbd i (by omega)
    have h2 := hq i hil
    have h3 := hx _ (nth_mem (xs := L) (i := (nth I i).toNat) (by omega))
    have h4 := tot_take (cut := cut) (L := L) hil
    by_cases h0 : 0 < i
    · have e : nd cut (decide (0 < i)) (nth L (nth I i).toNat) = nth L (nth I i).toNat + cut := by unfold nd; simp [h0]
      rw [e] at h4
      simp (disch := omega) [Und, hl0, hil, h0, -Bool.exists_bool]
      exact ⟨by omega, k - 1, by omega, i + 1, by omega, by omega, by omega⟩
    · have e : nd cut (decide (0 < i)) (nth L (nth I i).toNat) = nth L (nth I i).toNat := by unfold nd; simp [h0]
      rw [e] at h4
      simp (disch := omega) [Und, hl0, hil, h0, -Bool.exists_bool]
      exact ⟨by omega, k - 1, by omega, i + 1, by omega, by omega, by omega⟩
  · obtain rfl : i = I.length := by omega
    rw [List.take_length]
    by_cases h5 : tot cut L false I ≤ bar
    · have h6 : ¬ bar < tot cut L false I := by omega
      simp (disch := omega) [Und, hl0, h5, h6, -Bool.exists_bool]
    · have h6 : bar < tot cut L false I := by omega
      simp (disch := omega) [Und, hl0, h5, h6, -Bool.exists_bool]
theorem SawR_ok {nl : Bool} {L : List Int} {bar cut : Int} (h : okSaw bar cut L) :
    ans prog O 20 [.int .i64 bar, .int .i64 cut, vs nl L] = some (.tuple [vs (grd cut L 0 bar false).isEmpty (grd cut L 0 bar false), .int .i64 (best cut L bar false), .int .i64 0]) := by
  have hall := h
  obtain ⟨⟨hb, hc, hl⟩, hx⟩ := h
  refine fn_of' pl get20 (oo (by decide)) rfl rfl ?_
  simp (disch := omega) [hb, hc, hl, -Bool.exists_bool]
  refine lp_loop pl (fun k fr σ => ∃ i : Nat, i + k = L.length ∧ fr = ⟨[(0, .int .i64 bar), (1, .int .i64 cut), (2, vs nl L), (9, .bool true), (10, .int .i64 i)], []⟩ ∧ σ.lim = 0) ⟨L.length, 0, by omega, rfl, rfl⟩ ?_
  rintro k _ σ ⟨i, hi, rfl, hl0⟩
  by_cases hil : i < L.length
  · have h1 := hx _ (nth_mem hil)
    simp (disch := omega) [Und, hl0, hil, h1, -Bool.exists_bool]
    exact ⟨k - 1, by omega, i + 1, by omega, by omega⟩
  · obtain rfl : i = L.length := by omega
    simp (disch := omega) [Und, hl0, -Bool.exists_bool]
    have hp : (2 : Nat) ^ L.length ≤ 2 ^ 16 := Nat.pow_le_pow_right (by decide) (by omega)
    refine lp_loop pl (fun k fr σ => ∃ (s : Nat) (b : List Int) (m : Int), s + k = 2 ^ L.length ∧ BestTo cut bar L s b m ∧ fr = ⟨[(0, .int .i64 bar), (1, .int .i64 cut), (2, vs nl L), (11, vs b.isEmpty b), (12, .int .i64 m), (13, .int .i64 s)], []⟩ ∧ σ.lim = 0) ⟨2 ^ L.length, 0, [], 0, by omega, BestTo.start (by omega), by simp [vs, vl], hl0⟩ ?_
    clear hl0
    rintro k _ σ ⟨s, b, m, hs, hbest, rfl, hl0⟩
    have hsh := abin_shl1 L.length (by omega)
    by_cases hsl : s < 2 ^ L.length
    · have hma := memG_asc L.length s 0
      rw [Nat.zero_add] at hma
      have h1 := Members_ok s L.length (by omega)
      have h2 := Uses_ok (nl := nl) (nI := (memG s L.length 0).isEmpty) (by omega) hb hc hx hma
      have h3 := Before_ok (memG s L.length 0).isEmpty b.isEmpty (memG s L.length 0) b (by have := asc_len hma; omega) (by have := asc_len hbest.1; omega)
      have hsk := hbest.skip
      have htk := hbest.take
      have hm0 := hbest.2.2.2.1
      generalize hU : memG s L.length 0 = U at *
      by_cases hfit : tot cut L false U ≤ bar
      · rw [if_pos hfit] at h2
        by_cases hc1 : m < tot cut L false U
        · simp (disch := omega) [Und, hl0, hsl, hsh, h1, h2, hc1, -Bool.exists_bool, -Int.natCast_pow]
          exact ⟨k - 1, by omega, s + 1, by omega, U, tot cut L false U, htk hfit (.inl hc1), rfl, rfl, by omega⟩
        · by_cases hc2 : tot cut L false U = m ∧ lexB U b
          · rw [decide_eq_true hc2.2] at h3
            simp (disch := omega) [Und, hl0, hsl, hsh, h1, h2, h3, hc1, hc2.1, -Bool.exists_bool, -Int.natCast_pow]
            exact ⟨k - 1, by omega, s + 1, by omega, U, tot cut L false U, htk hfit (.inr hc2), rfl, by omega, by omega⟩
          · by_cases hc3 : tot cut L false U = m
            · rw [decide_eq_false fun h => hc2 ⟨hc3, h⟩] at h3
              simp (disch := omega) [Und, hl0, hsl, hsh, h1, h2, h3, hc1, hc3, -Bool.exists_bool, -Int.natCast_pow]
              exact ⟨k - 1, by omega, s + 1, by omega, b, m, (hsk fun _ h => by rcases h with h | h; exact hc1 h; exact hc2 h), rfl, rfl, by omega⟩
            · simp (disch := omega) [Und, hl0, hsl, hsh, h1, h2, hc1, hc3, -Bool.exists_bool, -Int.natCast_pow]
              exact ⟨k - 1, by omega, s + 1, by omega, b, m, (hsk fun _ h => by rcases h with h | h; exact hc1 h; exact hc2 h), rfl, rfl, by omega⟩
      · rw [if_neg hfit] at h2
        have hc1 : ¬ m < -1 := by omega
        have hc3 : ¬ -1 = m := by omega
        simp (disch := omega) [Und, hl0, hsl, hsh, h1, h2, hc1, hc3, -Bool.exists_bool, -Int.natCast_pow]
        exact ⟨k - 1, by omega, s + 1, by omega, b, m, hsk fun h => absurd h hfit, rfl, rfl, by omega⟩
    · obtain rfl : s = 2 ^ L.length := by omega
      obtain ⟨rfl, rfl⟩ := hbest.done hc.1 (fun x h => (hx x h).1) (by omega)
      simp (disch := omega) [Und, hl0, hsh, -Bool.exists_bool, -Int.natCast_pow]
theorem SawRX_ok {nl : Bool} {L : List Int} {bar cut : Int} (hL : L.length < 2 ^ 62) (h : ¬ okSaw bar cut L) : ans prog O 20 [.int .i64 bar, .int .i64 cut, vs nl L] = some (.tuple [.vsl true [], .int .i64 0, .int .i64 104]) := by
  refine fn_of' pl get20 (oo (by decide)) rfl rfl ?_
  have main : ∀ b : Bool, b = decide ((1 ≤ bar ∧ bar ≤ 10000) ∧ (0 ≤ cut ∧ cut ≤ 1000) ∧ 1 ≤ (L.length : Int) ∧ (L.length : Int) ≤ 16) → True := fun _ _ => trivial
  by_cases h1 : 1 ≤ bar ∧ bar ≤ 10000
  · by_cases h2 : 0 ≤ cut ∧ cut ≤ 1000
    · by_cases h3 : 1 ≤ (L.length : Int) ∧ (L.length : Int) ≤ 16
      · obtain ⟨q, hq, hbad⟩ : ∃ q, q < L.length ∧ ¬ (1 ≤ nth L q ∧ nth L q ≤ 10000) := by
          apply Classical.byContradiction
          intro hc
          refine h ⟨⟨h1, h2, h3⟩, fun x hx => ?_⟩
          obtain ⟨q, h1, rfl⟩ := mem_nth.1 hx
          exact Decidable.byContradiction fun h2 => hc ⟨q, h1, h2⟩
        simp (disch := omega) [h1, h2, h3, -Bool.exists_bool]
        refine lp_loop pl (fun k fr σ => ∃ (i : Nat) (b : Bool), i + k = L.length ∧ (b = true → i ≤ q) ∧ fr = ⟨[(0, .int .i64 bar), (1, .int .i64 cut), (2, vs nl L), (9, .bool b), (10, .int .i64 i)], []⟩ ∧ σ.lim = 0) ⟨L.length, 0, true, by omega, by simp, rfl, rfl⟩ ?_
        rintro k _ σ ⟨i, b, hi, hbq, rfl, hl0⟩
        cases b with
        | true =>
          have hiq := hbq rfl
          have hil : i < L.length := by omega
          by_cases hg : 1 ≤ nth L i ∧ nth L i ≤ 10000
          · have : i ≠ q := fun e => hbad (e ▸ hg)
            simp (disch := omega) [Und, hl0, hil, hg, -Bool.exists_bool]
            exact ⟨k - 1, by omega, i + 1, by omega, true, fun _ => by omega, rfl, by omega⟩
          · simp (disch := omega) [Und, hl0, hil, hg, -Bool.exists_bool]
            exact ⟨k - 1, by omega, i + 1, by omega, false, (fun h => by cases h), rfl, by omega⟩
        | false => simp (disch := omega) [Und, hl0, -Bool.exists_bool]
      · simp (disch := omega) [h1, h2, h3, -Bool.exists_bool]
        refine lp_loop pl (fun k fr σ => k = 0 ∧ fr = ⟨[(0, .int .i64 bar), (1, .int .i64 cut), (2, vs nl L), (9, .bool false), (10, .int .i64 0)], []⟩ ∧ σ.lim = 0) ⟨0, rfl, rfl, rfl⟩ ?_
        rintro k _ σ ⟨rfl, rfl, hl0⟩
        simp (disch := omega) [Und, hl0, -Bool.exists_bool]
    · simp (disch := omega) [h1, h2, -Bool.exists_bool]
      refine lp_loop pl (fun k fr σ => k = 0 ∧ fr = ⟨[(0, .int .i64 bar), (1, .int .i64 cut), (2, vs nl L), (9, .bool false), (10, .int .i64 0)], []⟩ ∧ σ.lim = 0) ⟨0, rfl, rfl, rfl⟩ ?_
      rintro k _ σ ⟨rfl, rfl, hl0⟩
      simp (disch := omega) [Und, hl0, -Bool.exists_bool]
  · simp (disch := omega) [h1, -Bool.exists_bool]
    refine lp_loop pl (fun k fr σ => k = 0 ∧ fr = ⟨[(0, .int .i64 bar), (1, .int .i64 cut), (2, vs nl L), (9, .bool false), (10, .int .i64 0)], []⟩ ∧ σ.lim = 0) ⟨0, rfl, rfl, rfl⟩ ?_
    rintro k _ σ ⟨rfl, rfl, hl0⟩
    simp (disch := omega) [Und, hl0, -Bool.exists_bool]
theorem ShopSaws_ok (bar cut : Int) (nl : Bool) (L : List Int) (hL : L.length < 2 ^ 62) : ans prog O 5 [.int .i64 bar, .int .i64 cut, vs nl L] = some (.bool true) := by
  refine fn_of' pl get5 (oo (by decide)) rfl rfl ?_
  by_cases h : okSaw bar cut L
  · have h1 := Saw_ok (nl := nl) h
    have h2 := SawR_ok (nl := nl) h
    have hx1 : ∀ x ∈ L, 1 ≤ x := fun x hx' => (h.2 x hx').1
    have g1 := (grd_ok h.1.2.1.1 hx1 L.length 0 (by omega) bar false).1
    rw [List.drop_zero] at g1
    have := asc_len g1
    have := h.1
    simp (disch := omega) [h1, h2]
  · have h1 := SawX_ok (nl := nl) hL h
    have h2 := SawRX_ok (nl := nl) hL h
    have hs := Same_ok true true [] [] (by simp)
    simp [vs, vl] at hs
    simp (disch := omega) [h1, h2, hs]
end Go.Oct.Shop
