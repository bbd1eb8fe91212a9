/- The law of the bar. -/
import Derived.Test.YtpgjndgpackffaaDoorOShopSawS
import Derived.Test.YtpgjndgpackffaaDoorOT4
set_option maxRecDepth 100000
set_option maxHeartbeats 8000000
set_option linter.unusedVariables false
set_option linter.unusedSimpArgs false
namespace Go.Oct.Shop
open Go.Oct
theorem isum_succ {L G : List Int} {j : Nat} (h : j < G.length) : isum L (G.take (j + 1)) = isum L (G.take j) + nth L (nth G j).toNat := by
  unfold isum
  rw [take_succ_nth h]; simp
theorem isum_bd {L G : List Int} (hx : ∀ x ∈ L, 1 ≤ x ∧ x ≤ 10000) (hG : asc L.length 0 G) : ∀ j, j ≤ G.length → 0 ≤ isum L (G.take j) ∧ isum L (G.take j) ≤ 10000 * (j : Int)
  | 0, _ => by simp [isum]
  | j + 1, hj => by
    have h1 := isum_bd hx hG j (by omega)
    have h2 := asc_nth hG j (by omega)
    have h3 := hx _ (nth_mem (xs := L) (i := (nth G j).toNat) (by omega))
    rw [isum_succ (by omega)]
    omega
theorem Plus_ok (nl : Bool) (xs : List Int) (y : Int) (hx : xs.length ≤ 1000) : ans prog O 39 [vs nl xs, .int .i64 y] = some (vs false (xs ++ [y])) := by
  refine fn_of' pl get39 (oo (by decide)) rfl rfl ?_
  simp (disch := omega) []
  refine lit0_app (lo := 0) encI (by omega) (by simp) (by simp) (vl_src encI nl xs) (by simp only [topBytes]; omega) fun v' σ1 hW hO hj => ?_
  have hl := hO.lim
  simp (disch := omega) []
  refine hW.push encI (by rw [hl]; simp) (by omega) y (by simp only [topBytes]; omega) rfl fun v2 σ2 hW2 _ => ?_
  obtain ⟨i, c, rfl, _, h3, h4⟩ := hW2
  simp (disch := omega) []
  have hf := fz_whole encI flatI (AH.cel_get h3) h4 6
  rw [List.length_append, List.length_singleton] at hf
  exact hf
theorem ShopBar_ok (bar cut : Int) (nl : Bool) (L : List Int) (nb : Bool) (B : List Int) (hL : L.length < 2 ^ 62) (hB : B.length < 2 ^ 62) :
    ans prog O 11 [.agg [.int .i64 bar, .int .i64 cut], vs nl L, vs nb B] = some (.bool true) := by
  by_cases h : okSaw bar cut L
  · have h1 := Saw_ok (nl := nl) h
    obtain ⟨_, ⟨u, rfl, hu⟩, h2⟩ := sawn_ok (nl := nl) (nb := nb) h hB
    have hx1 : ∀ x ∈ L, 1 ≤ x := fun x hx' => (h.2 x hx').1
    obtain ⟨g1, g2⟩ := grd_ok h.1.2.1.1 hx1 L.length 0 (by omega) bar false
    rw [List.drop_zero] at g1 g2
    have hri := asc_rises g1
    have hb := h.1
    refine fn_of' pl get11 (oo (by decide)) rfl rfl ?_
    have hgl := asc_len g1
    have hbest := (best_bd h.1.2.1.1 (xs := L) (bar := bar) (sn := false) hx1)
    have hr := Rising_ok (grd cut L 0 bar false).isEmpty (grd cut L 0 bar false) L.length (by omega) (by omega) (by omega)
    rw [decide_eq_true hri] at hr
    have l16 : ¬ (16 : Int) < L.length := by omega
    have l16' : (L.length : Int) ≤ 16 := by omega
    generalize hG : grd cut L 0 bar false = G at *
    simp (disch := omega) [h1, hr, l16, l16', -Bool.exists_bool]
    rw [tot_false] at g2
    have hM0 : 0 ≤ max 0 ((G.length : Int) - 1) * cut := Int.mul_nonneg (by omega) h.1.2.1.1
    generalize max 0 ((G.length : Int) - 1) * cut = M at *
    have hbd := isum_bd h.2 g1
    have hall := hbd G.length (Nat.le_refl _)
    rw [List.take_length] at hall
    have hbb := hbest.2 (by omega)
    rw [w64_id M (by omega) (by omega)]
    refine lp_loop pl (fun k fr σ => ∃ j : Nat, j + k = G.length ∧ fr = ⟨[(1, vs nl L), (2, vs nb B), (7, .int .i64 bar), (8, .int .i64 cut), (9, vs G.isEmpty G), (10, .int .i64 (best cut L bar false)), (12, .int .i64 (M + isum L (G.take j))), (13, .int .i64 j)], []⟩ ∧ σ.lim = 0) ⟨G.length, 0, by omega, by simp [isum], rfl⟩ ?_
    rintro k _ σ ⟨j, hj, rfl, hl0⟩
    by_cases hjl : j < G.length
    · have h3 := asc_nth g1 j hjl
      have h4 := hbd j (by omega)
      have h5 := isum_succ (L := L) hjl
      have h6 := h.2 _ (nth_mem (xs := L) (i := (nth G j).toNat) (by omega))
      simp (disch := omega) [Und, hl0, hjl, -Bool.exists_bool]
      exact ⟨by omega, k - 1, by omega, j + 1, by omega, by rw [h5]; omega, by omega⟩
    · obtain rfl : j = G.length := by omega
      have hub : ¬ best cut L bar false < u := by omega
      have hp : ∀ n : Int, 0 ≤ n → okSaw (min 10000 (bar + n)) cut L := fun n hn => ⟨⟨by omega, h.1.2⟩, h.2⟩
      have hmod := Int.emod_nonneg (nth B (0 % (B.length : Int)).toNat) (b := 50) (by omega)
      have hmod2 := Int.emod_lt_of_pos (nth B (0 % (B.length : Int)).toNat) (b := 50) (by omega)
      have h8 := Saw_ok (nl := nl) (hp (nth B (0 % (B.length : Int)).toNat % 50) hmod)
      have hlong : ¬ best cut L (min 10000 (bar + nth B (0 % (B.length : Int)).toNat % 50)) false < best cut L bar false := by
        have := best_bar h.1.2.1.1 hx1 (bar := bar) (bar' := min 10000 (bar + nth B (0 % (B.length : Int)).toNat % 50)) (sn := false) (by omega)
        omega
      simp at h8 hlong hmod hmod2
      simp (disch := omega) [Und, hl0, g2, hbb, h2, hub, h8, hlong, -Bool.exists_bool]
      intro hne
      have hmod3 := Int.emod_nonneg (nth B (1 % (B.length : Int)).toNat) (b := 100) (by omega)
      have hmod4 := Int.emod_lt_of_pos (nth B (1 % (B.length : Int)).toNat) (b := 100) (by omega)
      have h9 := Plus_ok nl L (1 + nth B (1 % (B.length : Int)).toNat % 100) (by omega)
      have hlen : ((L ++ [1 + nth B (1 % (B.length : Int)).toNat % 100]).length : Int) = L.length + 1 := by simp
      have hok : okSaw bar cut (L ++ [1 + nth B (1 % (B.length : Int)).toNat % 100]) := ⟨⟨hb.1, hb.2.1, by omega, by omega⟩, fun x hx' => by
        rcases List.mem_append.1 hx' with hx' | hx'
        · exact h.2 x hx'
        · obtain rfl := List.mem_singleton.1 hx'
          omega⟩
      have h10 := Saw_ok (nl := false) hok
      have hmore := best_more h.1.2.1.1 (1 + nth B (1 % (B.length : Int)).toNat % 100) (by omega) hx1 (bar := bar) (sn := false)
      simp (disch := omega) [h9, h10, hmore]
  · have h1 := SawX_ok (nl := nl) hL h
    refine fn_of' pl get11 (oo (by decide)) rfl rfl ?_
    simp (disch := omega) [h1]
end Go.Oct.Shop
