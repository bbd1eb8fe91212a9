/- TopCarried. -/
import Derived.Test.YtddkghgfbhhcdaaOCryHol
import Derived.Test.YtddkghgfbhhcdaaOCryCarW
import Derived.Test.YtddkghgfbhhcdaaOT3
set_option maxRecDepth 100000
set_option maxHeartbeats 4000000
set_option linter.unusedVariables false
set_option linter.unusedSimpArgs false
namespace Go.Oct.Cry
open Go.Oct
@[simp] theorem span_ok (a b : Int) : ans prog O 11 [.int .i64 a, .int .i64 b] = some (.agg [.int .i64 a, .int .i64 b]) := by
  refine fn_of' pl get11 (oo (by decide)) rfl rfl ?_
  simp +contextual (disch := omega) [Und]
theorem TopCarried_law (nT nR nD nb : Bool) (T : List Int) (R : List Span) (a e : Span) (D : List Span) (b : List Int) (hT : T.length < 2 ^ 62) (hR : R.length < 2 ^ 62) (hD : D.length < 2 ^ 62) (hb : b.length < 2 ^ 62) :
    ans prog O 5 [eClk nT nR T R a e, vl eSpan nD D, vs nb b] = some (.bool true) := by
  have hco := Cone_ok nT nR nD T R a e D hT hR hD
  refine fn_of' pl get5 (oo (by decide)) rfl rfl ?_
  by_cases h0 : askE T R a e D = 0
  · obtain ⟨hc, hdy⟩ := ask0 h0
    have hdl := hdy.1
    have hTl := (okT_of hc).1
    have hRl : R.length = T.length := by have := hc.1.2.1; omega
    have hcv : coneV T R a e D = (cones T R a e D D.length, 0) := by unfold coneV; rw [if_pos h0]
    rw [hcv] at hco
    have run : ∀ z : Int, 0 ≤ z ∧ z ≤ 1000 → ∃ (nA nB : Bool) (A : List Int) (g f : Int) (B : List Int), okTru R a e D A g f B ∧ ans prog O 27 [eClk nT nR T R a e, vl eSpan nD D, vs nb b, .int .i64 z] = some (eTru nA nB A g f B) ∧
        ans prog O 26 [eClk nT nR T R a e, vl eSpan nD D, eTru nA nB A g f B] = some (.tuple [vs (errs T A g f B D.length).isEmpty (errs T A g f B D.length), .int .i64 0]) := fun z hz => by
      have hch := truth_ok nT nR nD nb T R a e D b z hz hb hc hdy
      have htr := chosen_tru hc hdy b z
      have her := Errors_ok nT nR nD (chR b R (z + 2) R.length).isEmpty (chR b D (z + 3) D.length).isEmpty T R a e D (chR b R (z + 2) R.length) (chz a.lo a.hi (pick b z)) (chz e.lo e.hi (pick b (z + 1))) (chR b D (z + 3) D.length) hT hR hD (by rw [chR_len]; omega) (by rw [chR_len]; omega)
      have hev : errV T R a e D (chR b R (z + 2) R.length) (chz a.lo a.hi (pick b z)) (chz e.lo e.hi (pick b (z + 1))) (chR b D (z + 3) D.length) = (errs T (chR b R (z + 2) R.length) (chz a.lo a.hi (pick b z)) (chz e.lo e.hi (pick b (z + 1))) (chR b D (z + 3) D.length) D.length, 0) := by unfold errV; rw [if_pos h0, if_pos htr]
      rw [hev] at her
      exact ⟨_, _, _, _, _, _, htr, hch, her⟩
    obtain ⟨nA, nB, A, g, f, B, htr, hch, her⟩ := run 0 (by omega)
    obtain ⟨nA', nB', A', g', f', B', htr', hch', her'⟩ := run 7 (by omega)
    clear run
    have hel : (errs T A g f B D.length).length = D.length := errs_len ..
    have hel' : (errs T A' g' f' B' D.length).length = D.length := errs_len ..
    have hcl : (cones T R a e D D.length).length = D.length := cones_len ..
    have inn : ∀ j, j < D.length → (nth (cones T R a e D D.length) j).lo ≤ nth (errs T A g f B D.length) j ∧ nth (errs T A g f B D.length) j ≤ (nth (cones T R a e D D.length) j).hi ∧ (nth (cones T R a e D D.length) j).lo ≤ nth (errs T A' g' f' B' D.length) j ∧ nth (errs T A' g' f' B' D.length) j ≤ (nth (cones T R a e D D.length) j).hi := fun j hj => by
      rw [nth_errs hj, nth_errs hj, nth_cones hj]
      have c1 := acc_in hc hdy htr (j + 1) (by omega)
      have c2 := acc_in hc hdy htr' (j + 1) (by omega)
      exact ⟨c1.1, c1.2, c2.1, c2.2⟩
    have bnd : ∀ j, j < D.length → (-30000000 ≤ nth (errs T A g f B D.length) j ∧ nth (errs T A g f B D.length) j ≤ 30000000) ∧ -30000000 ≤ nth (errs T A' g' f' B' D.length) j ∧ nth (errs T A' g' f' B' D.length) j ≤ 30000000 := fun j hj => by
      rw [nth_errs hj, nth_errs hj]
      have c1 := acc_bd hc hdy htr (j + 1) (by omega)
      have c2 := acc_bd hc hdy htr' (j + 1) (by omega)
      omega
    generalize hE1 : errs T A g f B D.length = E1 at *
    generalize hE2 : errs T A' g' f' B' D.length = E2 at *
    generalize hCC : cones T R a e D D.length = CC at *
    have q1 : ¬ (60 : Int) < D.length := by omega
    have q2 : ¬ D.length = 0 := by omega
    simp (disch := omega) [hco, hch, her, hch', her', hel, hel', hcl, q1, q2, -Bool.exists_bool]
    refine lp_loop pl (fun k fr σ => ∃ j : Nat, j + k = D.length ∧ fr = ⟨[(1, vl eSpan nD D), (2, vs nb b), (7, vl eSpan CC.isEmpty CC), (9, vs E1.isEmpty E1), (10, vs E2.isEmpty E2), (12, .int .i64 j)], []⟩ ∧ σ.lim = 0)
      ⟨D.length, 0, by omega, rfl, by simp⟩ ?_
    rintro k _ σ ⟨j, hj, rfl, hl0⟩
    by_cases hjl : j < D.length
    · obtain ⟨i1, i2, i3, i4⟩ := inn j hjl
      simp (disch := omega) [Und, hl0, hjl, hel, hel', hcl, i1, i2, i3, i4, -Bool.exists_bool]
      exact ⟨k - 1, by omega, j + 1, by omega, by omega⟩
    · obtain rfl : j = D.length := by omega
      obtain ⟨m, hm⟩ : ∃ m, D.length = m + 1 := ⟨D.length - 1, by omega⟩
      obtain ⟨i1, i2, i3, i4⟩ := inn m (by omega)
      obtain ⟨⟨b1, b2⟩, b3, b4⟩ := bnd m (by omega)
      have hm2 : (D.length : Int) - 1 = m := by omega
      have hm3 : m < D.length := by omega
      obtain ⟨tm, htm, tm1, tm2⟩ : ∃ tm, tm = 40000 + nth b (1 % (b.length : Int)).toNat % 20000 ∧ 40000 ≤ tm ∧ tm ≤ 60000 := ⟨_, rfl, by omega, by omega⟩
      obtain ⟨lg, hlg, lg1, lg2⟩ : ∃ lg, lg = nth b (2 % (b.length : Int)).toNat % 4000 - 2000 ∧ -2000 ≤ lg ∧ lg ≤ 2000 := ⟨_, rfl, by omega, by omega⟩
      obtain ⟨p3, hp3, p31, p32⟩ : ∃ p, p = nth b (3 % (b.length : Int)).toNat % 3 ∧ 0 ≤ p ∧ p ≤ 2 := ⟨_, rfl, by omega, by omega⟩
      obtain ⟨p4, hp4, p41, p42⟩ : ∃ p, p = nth b (4 % (b.length : Int)).toNat % 3 ∧ 0 ≤ p ∧ p ≤ 2 := ⟨_, rfl, by omega, by omega⟩
      obtain ⟨p5, hp5, p51, p52⟩ : ∃ p, p = nth b (5 % (b.length : Int)).toNat % 100000 ∧ 0 ≤ p ∧ p ≤ 100000 := ⟨_, rfl, by omega, by omega⟩
      simp (disch := omega) [Und, hl0, hel, hel', hcl, hm2, hm3, ← htm, ← hlg, ← hp3, ← hp4, ← hp5, -Bool.exists_bool]
      intro c1 c2 c3 d1 d2 d3 d4
      obtain ⟨x1, hx1⟩ : ∃ x, x = tm + nth E1 m := ⟨_, rfl⟩
      obtain ⟨x2, hx2⟩ : ∃ x, x = tm + nth E2 m := ⟨_, rfl⟩
      rw [← hx1] at d1 d2
      rw [← hx2] at d3 d4
      rw [← hx1, ← hx2]
      obtain ⟨S, hS⟩ : ∃ S, S = nth CC m := ⟨_, rfl⟩
      rw [← hS] at i1 i2 i3 i4 c1 c2 c3
      rw [← hS]
      obtain ⟨C3, hC3⟩ : ∃ C3 : List Fx.Car, C3 = [⟨x1, S.lo, S.hi⟩, ⟨x2, S.lo, S.hi⟩, ⟨p5, S.lo, S.hi⟩] := ⟨_, rfl⟩
      have hk : Fx.okCars ⟨tm + lg - p3, tm + lg + p4⟩ C3 := by
        refine ⟨⟨by simp only; omega, by simp only; omega, by simp only; omega⟩, by simp [hC3], fun j hj => ?_⟩
        have hj : j < 3 := by rw [hC3] at hj; exact hj
        have h : j = 0 ∨ j = 1 ∨ j = 2 := by omega
        rw [hC3]
        rcases h with rfl | rfl | rfl
        · exact ⟨⟨d1, d2⟩, c1, c2, c3⟩
        · exact ⟨⟨d3, d4⟩, c1, c2, c3⟩
        · exact ⟨⟨by show 0 ≤ p5; omega, by show p5 ≤ 100000; omega⟩, c1, c2, c3⟩
      obtain ⟨nl', L, hL1, hL2, hL3, hL4⟩ := Fx.Lon_ok ⟨tm + lg - p3, tm + lg + p4⟩ false C3 hk (by simp [hC3])
      have hin : Fx.inL L lg := (hL2 lg).2 ⟨1, 0, by simp [hC3], by omega, by
        rw [hC3]
        show tm + lg - p3 - x2 + S.lo ≤ lg ∧ lg ≤ tm + lg + p4 - x2 + S.hi
        omega, by
        rw [hC3]
        show tm + lg - p3 - x1 + S.lo ≤ lg ∧ lg ≤ tm + lg + p4 - x1 + S.hi
        omega⟩
      have hLn : ¬ L = [] := fun e => by rw [e] at hin; obtain ⟨s, hs, _⟩ := hin; cases hs
      rw [if_neg hLn] at hL4
      have hsn : ∀ ω : AH, ω.get (σ.next + 1) = some (.cells [.int .i64 x1, .int .i64 S.lo, .int .i64 S.hi, .int .i64 x2, .int .i64 S.lo, .int .i64 S.hi, .int .i64 p5, .int .i64 S.lo, .int .i64 S.hi]) → Snap ω (.slice (some (σ.next + 1, 0)) 3 (.ex 3)) [σ.next + 1] (vl Fx.eCar false C3) := fun ω hω => by
        have hv : View 0 3 Fx.eCar ω (.slice (some (σ.next + 1, 0)) 3 (.ex 3)) C3 := ⟨σ.next + 1, .ex 3, [], [], by rw [hC3]; rfl, by omega, by rw [hC3]; exact AH.cel_get hω, .inr ⟨3, rfl, by simp [hC3], by simp [hC3]⟩, by simp [hC3]⟩
        exact hv.snap Fx.encCar fun x c hc k f => by
          rw [show (Fx.eCar x).cells = [.int .i64 x.sh, .int .i64 x.lo, .int .i64 x.hi] from rfl] at hc
          simp only [List.mem_cons, List.not_mem_nil, or_false] at hc
          rcases hc with rfl | rfl | rfl <;> exact ⟨rfl, rfl⟩
      refine pc_kill (.cons ⟨rfl, fun _ _ => rfl⟩ (.cons (hsn _ (by simp)) .nil)) (fun h => by cases h) (by simp) (oo (args := []) (by decide)).1 (fun i hi => by simp at hi; simp [hi, hl0]) hL4 fun σ' hσ' => ?_
      have l' : σ'.lim = 0 := by rw [hσ'.lim]; simp [hl0]
      simp (disch := omega) [Und, l', -Bool.exists_bool]
      refine lp_loop pl (fun k fr ω => ∃ (i : Nat) (u : Bool), i + k = L.length ∧ fr = ⟨[(15, .int .i64 lg), (19, vl eSpan nl' L), (20, .bool u), (21, .int .i64 i)], []⟩ ∧ ω.lim = 0 ∧ ((∃ j, j < i ∧ (nth L j).lo ≤ lg ∧ lg ≤ (nth L j).hi) → u = true))
        ⟨L.length, 0, false, by omega, rfl, l', fun ⟨j, hj, _⟩ => by omega⟩ ?_
      rintro k _ ω ⟨i, u, hik, rfl, ω0, hu⟩
      by_cases hi2 : i < L.length
      · cases u with
        | true =>
          simp (disch := omega) [Und, ω0, hi2, -Bool.exists_bool]
          exact ⟨k - 1, by omega, i + 1, by omega, true, ⟨rfl, by omega⟩, fun _ _ _ _ => rfl⟩
        | false =>
          by_cases hc : (nth L i).lo ≤ lg ∧ lg ≤ (nth L i).hi
          · simp (disch := omega) [Und, ω0, hi2, eq_true hc, -Bool.exists_bool]
            exact ⟨k - 1, by omega, i + 1, by omega, true, ⟨rfl, by omega⟩, fun _ _ _ _ => rfl⟩
          · simp (disch := omega) [Und, ω0, hi2, eq_false hc, -Bool.exists_bool]
            refine ⟨k - 1, by omega, i + 1, by omega, false, ⟨rfl, by omega⟩, fun j hj g1 g2 => ?_⟩
            by_cases e : j = i
            · rw [e] at g1 g2; exact absurd ⟨g1, g2⟩ hc
            · exact hu ⟨j, by omega, g1, g2⟩
      · obtain rfl : i = L.length := by omega
        obtain ⟨s0, hs0, hs1⟩ := hin
        obtain ⟨j, hj, rfl⟩ := mem_nth.1 hs0
        obtain rfl := hu ⟨j, hj, hs1⟩
        simp (disch := omega) [Und, ω0, -Bool.exists_bool]
  · have hcv : coneV T R a e D = ([], askE T R a e D) := by unfold coneV; rw [if_neg h0]
    rw [hcv] at hco
    simp (disch := omega) [hco, h0]
theorem TopCarried_ok (nT nR : Bool) (T : List Int) (R : List Span) (a e : Span) (nD : Bool) (D : List Span) (nb : Bool) (b : List Int) {x0 x1 x2 x3 : AV}
    (h0 : Slice (AV.int .i64) i64 x0 nT T) (h1 : Slice eSpan (fun s => i64 s.lo ∧ i64 s.hi) x1 nR R) (h2 : Slice eSpan (fun s => i64 s.lo ∧ i64 s.hi) x2 nD D) (h3 : Slice (AV.int .i64) i64 x3 nb b) :
    ans prog O 5 [eClk nT nR T R a e, vl eSpan nD D, vs nb b] = some (.bool true) := by
  have := h0.len; have := h1.len; have := h2.len; have := h3.len
  exact TopCarried_law nT nR nD nb T R a e D b (by omega) (by omega) (by omega) (by omega)
end Go.Oct.Cry
