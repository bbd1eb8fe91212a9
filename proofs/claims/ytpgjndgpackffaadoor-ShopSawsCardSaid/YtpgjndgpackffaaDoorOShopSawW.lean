/- Sawing: the program's. -/
import Derived.Test.YtpgjndgpackffaaDoorOShopSawM
import Derived.Test.YtpgjndgpackffaaDoorOT4
set_option maxRecDepth 100000
set_option maxHeartbeats 4000000
set_option linter.unusedVariables false
set_option linter.unusedSimpArgs false
namespace Go.Oct.Shop
open Go.Oct
/-- The lengths that are sawn: always the first that leaves the most that can be. -/
def grd (cut : Int) : List Int → Nat → Int → Bool → List Int
  | [], _, _, _ => []
  | x :: xs, i, bar, sn => if best cut (x :: xs) bar sn = 0 then [] else
    if nd cut sn x ≤ bar ∧ nd cut sn x + best cut xs (bar - nd cut sn x) true = best cut (x :: xs) bar sn then (i : Int) :: grd cut xs (i + 1) (bar - nd cut sn x) true
    else grd cut xs (i + 1) bar sn
theorem grd_drop {cut : Int} {L : List Int} {bar : Int} {sn : Bool} {i : Nat} (h : i < L.length) (h0 : best cut (L.drop i) bar sn ≠ 0) :
    grd cut (L.drop i) i bar sn = if nd cut sn (nth L i) ≤ bar ∧ nd cut sn (nth L i) + best cut (L.drop (i + 1)) (bar - nd cut sn (nth L i)) true = best cut (L.drop i) bar sn then (i : Int) :: grd cut (L.drop (i + 1)) (i + 1) (bar - nd cut sn (nth L i)) true else grd cut (L.drop (i + 1)) (i + 1) bar sn := by
  rw [List.drop_eq_getElem_cons h] at h0 ⊢
  rw [← nth_eq h] at h0 ⊢
  simp only [grd]
  rw [if_neg h0]
theorem grd_zero {cut : Int} : ∀ {xs : List Int} {i : Nat} {bar : Int} {sn : Bool}, best cut xs bar sn = 0 → grd cut xs i bar sn = []
  | [], _, _, _, _ => rfl
  | x :: xs, i, bar, sn, h => by simp only [grd]; rw [if_pos h]
def okSaw (bar cut : Int) (L : List Int) : Prop := ((1 ≤ bar ∧ bar ≤ 10000) ∧ (0 ≤ cut ∧ cut ≤ 1000) ∧ 1 ≤ (L.length : Int) ∧ (L.length : Int) ≤ 16) ∧ ∀ x ∈ L, 1 ≤ x ∧ x ≤ 10000
theorem saw1_ok (x : Int) : ans prog O 67 [.int .i64 x] = some (.bool (!decide (1 ≤ x ∧ x ≤ 10000))) := by
  refine fn_of' pl get67 (oo (by decide)) rfl rfl ?_
  simp (disch := omega) []
theorem sawC_ok {nl : Bool} {L : List Int} (hl : L.length ≤ 16) (hx : ∀ x ∈ L, 1 ≤ x ∧ x ≤ 10000) : ans prog O 66 [vs nl L, .func (.func 67) [] []] = some (.bool false) := by
  have hi : ans prog O 87 [vs nl L, .func (.func 67) [] []] = some (.int .i64 (-1)) := by
    refine fn_of' pl get87 (oo (by decide)) rfl rfl ?_
    simp (disch := omega) [-Bool.exists_bool]
    refine lp_loop pl (fun k fr σ => ∃ j : Nat, j + k = L.length ∧ fr = ⟨[(0, vs nl L), (1, .func (.func 67) [] []), (7, .int .i64 L.length), (8, .int .i64 j)], []⟩) ⟨L.length, 0, by omega, rfl⟩ ?_
    rintro k _ σ ⟨j, hj, rfl⟩
    by_cases hjl : j < L.length
    · have h1 := hx _ (nth_mem hjl)
      have h2 := saw1_ok (nth L j)
      rw [decide_eq_true h1] at h2
      simp (disch := omega) [Und, hjl, h2, -Bool.exists_bool]
      exact ⟨k - 1, by omega, j + 1, by omega, by omega⟩
    · obtain rfl : j = L.length := by omega
      simp (disch := omega) [Und, -Bool.exists_bool]
  refine fn_of' pl get66 (oo (by decide)) rfl rfl ?_
  simp (disch := omega) [hi]
theorem Saw_ok {nl : Bool} {L : List Int} {bar cut : Int} (h : okSaw bar cut L) :
    ans prog O 19 [.int .i64 bar, .int .i64 cut, vs nl L] = some (.tuple [vs (grd cut L 0 bar false).isEmpty (grd cut L 0 bar false), .int .i64 (best cut L bar false), .int .i64 0]) := by
  obtain ⟨⟨hb, hc, hl⟩, hx⟩ := h
  have hcf : ans prog O 66 [vs nl L, .func (.func 67) [] []] = some (.bool false) := sawC_ok (by omega) hx
  refine fn_of' pl get19 (oo (by decide)) rfl rfl ?_
  simp (disch := omega) [hb, hc, hl, hcf, -Bool.exists_bool]
  refine most_ok (nl := nl) (L := L) (cut := cut) (m := 0) (a := 1) (by omega) hx hc (by omega) L.length 0 (by omega) bar false _ [] 0 _ rfl (by simp) (by simp) (fun e he => by cases he) (by omega) fun σ1 es1 c1 u0 un ug um ues => ?_
  have u1 := ug 1 (by simp) (by omega)
  have u2 := ug 2 (by simp) (by omega)
  simp at u1 u2 un
  rw [List.drop_zero]
  simp (disch := omega) [-Bool.exists_bool]
  refine lp_loop pl (fun k fr σ => ∃ (nx : Nat) (b : Int) (sn : Bool) (acc : List Int) (v : AV) (es : List (AV × AV × Nat)) (c : Nat), nx + k = L.length ∧ 0 ≤ b ∧ b ≤ 10000 ∧ acc ++ grd cut (L.drop nx) nx b sn = grd cut L 0 bar false ∧ acc.length ≤ nx ∧
      fr = ⟨[(2, vs nl L), (6, v), (7, .int .i64 (best cut L bar false)), (9, .ptr (some (1, 0))), (10, .ptr (some (2, 0))), (11, .int .i64 (best cut (L.drop nx) b sn))], []⟩ ∧ σ.lim = 0 ∧ 3 ≤ σ.next ∧ σ.get 0 = some (.map es c) ∧ okE cut L es ∧
      σ.get 1 = some (.cells [vs nl L, .int .i64 cut, .map (some 0)]) ∧ σ.get 2 = some (.cells [.int .i64 nx, .int .i64 b, .bool sn]) ∧ Buf 3 1 (AV.int .i64) σ v acc)
    ⟨L.length, 0, bar, false, [], .vsl true [], es1, c1, by omega, by omega, by omega, by simp, by simp, by simp [vs, vl], u0, un, um, ues, u1, u2, Buf.nil⟩ ?_
  rintro k _ σ ⟨nx, b, sn, acc, v, es, c, hk, hb0, hb1, hacc, hal, rfl, s0, sn0, g0, ges, g1, g2, gb⟩
  by_cases hz : best cut (L.drop nx) b sn = 0
  · simp (disch := omega) [Und, hz, -Bool.exists_bool]
    rw [grd_zero hz, List.append_nil] at hacc
    subst hacc
    exact gb.fzI 5
  · have hpos : 0 < best cut (L.drop nx) b sn := by
      have := (best_bd hc.1 (xs := L.drop nx) (bar := b) (sn := sn) fun x h => (hx x (List.mem_of_mem_drop h)).1).1
      omega
    simp (disch := omega) [Und, hpos, s0, g2, -Bool.exists_bool]
    refine lp_loop pl (fun k fr τ => ∃ (i : Nat) (es : List (AV × AV × Nat)) (c : Nat), i + k = L.length ∧ nx ≤ i ∧ best cut (L.drop i) b sn = best cut (L.drop nx) b sn ∧ grd cut (L.drop i) i b sn = grd cut (L.drop nx) nx b sn ∧
        fr = ⟨[(2, vs nl L), (6, v), (7, .int .i64 (best cut L bar false)), (9, .ptr (some (1, 0))), (10, .ptr (some (2, 0))), (11, .int .i64 (best cut (L.drop nx) b sn)), (12, .int .i64 i)], []⟩ ∧ τ.lim = 0 ∧ 3 ≤ τ.next ∧ τ.get 0 = some (.map es c) ∧ okE cut L es ∧
        τ.get 1 = some (.cells [vs nl L, .int .i64 cut, .map (some 0)]) ∧ τ.get 2 = some (.cells [.int .i64 nx, .int .i64 b, .bool sn]) ∧ Buf 3 1 (AV.int .i64) τ v acc)
      ⟨k, nx, es, c, by omega, by omega, rfl, rfl, rfl, s0, sn0, g0, ges, g1, g2, gb⟩ ?_
    clear s0 sn0 g0 ges g1 g2 gb
    rintro k2 _ τ ⟨i, es, c, hi, hni, hbi, hgi, rfl, s0, sn0, g0, ges, g1, g2, gb⟩
    by_cases hil : i < L.length
    · have hxi := hx _ (nth_mem hil)
      have hnd : 1 ≤ nd cut sn (nth L i) ∧ nd cut sn (nth L i) ≤ 11000 := by unfold nd; split <;> omega
      have hbd := best_drop (cut := cut) (L := L) (bar := b) (sn := sn) hil
      have hgd := grd_drop (cut := cut) (L := L) (bar := b) (sn := sn) hil (by omega)
      simp (disch := omega) [Und, s0, g2, hil, -Bool.exists_bool]
      refine take_ok (nl := nl) (cut := cut) (m := 0) (nx := nx) (bar := b) (sn := sn) s0 g1 hil (by omega) hx hc ⟨hb0, hb1⟩ fun σ2 q0 qn qg => ?_
      have x0 := (qg 0 (by omega)).trans g0
      have x1 := (qg 1 (by omega)).trans g1
      have x2 := (qg 2 (by omega)).trans g2
      have xb : Buf 3 1 (AV.int .i64) σ2 v acc := gb.keep fun j _ h2 => qg j h2
      by_cases hfit : nd cut sn (nth L i) ≤ b
      · simp (disch := omega) [Und, q0, x1, x2, hfit, eqF1, eqF2, -Bool.exists_bool]
        generalize hτ2 : (σ2.push _).set σ2.next _ = τ2
        have t20 : τ2.lim = 0 := by rw [← hτ2]; exact q0
        have t2n : τ2.next = σ2.next + 1 := by rw [← hτ2]; rfl
        have t2g : ∀ k, k < σ2.next → τ2.get k = σ2.get k := fun k h1 => by rw [← hτ2]; simp (disch := omega) [eqF1]
        have t2x : τ2.get σ2.next = some (.cells [.int .i64 ((i : Int) + 1), .int .i64 (b - nd cut sn (nth L i)), .bool true]) := by rw [← hτ2]; simp
        refine most_ok (nl := nl) (L := L) (cut := cut) (m := 0) (a := 1) (by omega) hx hc (by omega) (L.length - (i + 1)) (i + 1) (by omega) (b - nd cut sn (nth L i)) true τ2 es c _ t20 (by rw [t2g 1 (by omega)]; exact x1) (by rw [t2g 0 (by omega)]; exact x0) ges (by omega) fun σ3 es3 c3 r0 rn rg rm res => ?_
        have y1 := (rg 1 (by omega) (by omega)).trans ((t2g 1 (by omega)).trans x1)
        have y2 := (rg 2 (by omega) (by omega)).trans ((t2g 2 (by omega)).trans x2)
        have yx := (rg σ2.next (by omega) (by omega)).trans t2x
        have yb : Buf 3 1 (AV.int .i64) σ3 v acc := xb.keep fun j h1 h2 => by rw [rg j (by omega) (by omega)]; exact t2g j h2
        have hb2 := best_bd hc.1 (xs := L.drop (i + 1)) (bar := b - nd cut sn (nth L i)) (sn := true) fun x h => (hx x (List.mem_of_mem_drop h)).1
        have hb3 := hb2.2 (by omega)
        have y1l := AH.get_lt y1
        have y2l := AH.get_lt y2
        have yxl := AH.get_lt yx
        by_cases hhit : nd cut sn (nth L i) + best cut (L.drop (i + 1)) (b - nd cut sn (nth L i)) true = best cut (L.drop nx) b sn
        · have hun : σ3.under 0 = σ3 := under_zero r0
          have hyv : v = .vsl true [] ∨ ∃ j n c, v = .slice (some (j, 0)) n c ∧ j < σ3.next ∧ 3 ≤ j := by
            rcases yb with ⟨h, _⟩ | ⟨j, h1, h2, h3, _⟩
            · exact .inl h
            · exact .inr ⟨j, _, _, h1, AH.get_lt h3, h2⟩
          simp (disch := omega) [Und, hhit, r0, yx, y2, y2l, yxl, hun, -Bool.exists_bool]
          rcases hyv with rfl | ⟨j, n, c', rfl, j1, j2⟩
          · obtain rfl : acc = [] := by
              rcases yb with ⟨_, h⟩ | ⟨_, h, _⟩
              · exact h
              · cases h
            simp (disch := omega) [r0, hun, -Bool.exists_bool]
            refine (Buf.nil (lo := σ3.next) (e := AV.int .i64) (z := 1) (σ := σ3.under σ3.next)).push encI (by simp [AH.under]) (by simp [AH.under]) (i : Int) (by simp [topBytes]) rfl fun v' σ4 h3 h4 => ?_
            have h4l := h4.lim
            have h4n := h4.next
            simp only [AH.under_next, AH.under_lim] at h4l h4n
            have z0 : σ4.get 0 = _ := (h4.get 0 (by omega)).trans rm
            have z1 : σ4.get 1 = _ := (h4.get 1 (by omega)).trans y1
            have z2 : σ4.get 2 = _ := (h4.get 2 (by omega)).trans y2
            have zx : σ4.get σ2.next = _ := (h4.get σ2.next (by omega)).trans yx
            have zl2 := AH.get_lt z2
            have zlx := AH.get_lt zx
            simp (disch := omega) [r0, zx, z2, zl2, zlx, eqF1, eqF2, -Bool.exists_bool]
            have hgd2 := hgd
            rw [if_pos ⟨hfit, by rw [hhit, hbi]⟩] at hgd2
            have htot : ([] ++ [(i : Int)]) ++ grd cut (L.drop (i + 1)) (i + 1) (b - nd cut sn (nth L i)) true = grd cut L 0 bar false := by
              rw [← hacc, ← hgi, hgd2]; simp
            refine ⟨by omega, L.length - (i + 1), by omega, i + 1, by omega, b - nd cut sn (nth L i), by omega, by omega, true, [(i : Int)], by simpa using htot, by simp, v', ⟨rfl, by omega⟩, by omega, es3, ⟨c3, z0⟩, res, z1, ⟨by omega, rfl, rfl⟩, ?_⟩
            rcases h3 with ⟨_, h⟩ | ⟨q, h1, h2, h5, h6⟩
            · cases h
            · exact .inr ⟨q, h1, by omega, by rw [AH.get_set_other _ _ _ _ (by omega)]; exact h5, h6⟩
          · simp (disch := omega) [r0, hun, j1, -Bool.exists_bool]
            refine yb.push encI (by omega) (by omega) (i : Int) (by simp only [topBytes]; omega) rfl fun v' σ4 h3 h4 => ?_
            have h4l := h4.lim
            have h4n := h4.next
            have z0 : σ4.get 0 = _ := (h4.get 0 (by omega)).trans rm
            have z1 : σ4.get 1 = _ := (h4.get 1 (by omega)).trans y1
            have z2 : σ4.get 2 = _ := (h4.get 2 (by omega)).trans y2
            have hne : σ2.next ≠ j := fun e => by
              subst e
              rcases xb with ⟨h, _⟩ | ⟨j', h1, h2, h5, _⟩
              · cases h
              · simp only [AV.slice.injEq, Option.some.injEq, Prod.mk.injEq] at h1
                have := AH.get_lt h5
                omega
            have zx : σ4.get σ2.next = _ := (h4.only.get σ2.next (by omega) (by simp [obj]; exact hne)).trans yx
            have zl2 := AH.get_lt z2
            have zlx := AH.get_lt zx
            have z00 : σ4.lim = 0 := by rw [h4l]; exact r0
            simp (disch := omega) [z00, zx, z2, zl2, zlx, eqF1, eqF2, -Bool.exists_bool]
            have hgd2 := hgd
            rw [if_pos ⟨hfit, by rw [hhit, hbi]⟩] at hgd2
            have htot : (acc ++ [(i : Int)]) ++ grd cut (L.drop (i + 1)) (i + 1) (b - nd cut sn (nth L i)) true = grd cut L 0 bar false := by
              rw [← hacc, ← hgi, hgd2]; simp
            exact ⟨by omega, hne, L.length - (i + 1), by omega, i + 1, by omega, b - nd cut sn (nth L i), by omega, by omega, true, acc ++ [(i : Int)], htot, by simp; omega, v', ⟨rfl, by omega⟩, by omega, es3, ⟨c3, z0⟩, res, z1, ⟨by omega, rfl, rfl⟩, h3.keep fun q h5 _ => AH.get_set_other _ _ _ _ (by omega)⟩
        · rw [if_pos hfit] at hbd
          rw [if_neg (by omega)] at hgd
          simp (disch := omega) [Und, hhit, -Bool.exists_bool]
          exact ⟨k2 - 1, by omega, i + 1, by omega, by omega, by omega, by rw [← hgd]; exact hgi, by omega, r0, by omega, es3, ⟨c3, rm⟩, res, y1, y2, yb⟩
      · rw [if_neg hfit] at hbd
        rw [if_neg (by omega)] at hgd
        simp (disch := omega) [Und, q0, x1, x2, hfit, eqF1, eqF2, -Bool.exists_bool]
        exact ⟨k2 - 1, by omega, i + 1, by omega, by omega, by omega, by rw [← hgd]; exact hgi, by omega, by omega, es, ⟨c, x0⟩, ges, xb.keep fun j h1 h2 => by simp (disch := omega) [eqF1]⟩
    · obtain rfl : i = L.length := by omega
      rw [List.drop_length] at hbi
      simp only [best] at hbi
      omega
end Go.Oct.Shop
