/- Clocks that are carried: the program's longitudes. -/
import Derived.Test.YtddkghgfbhhcdaaOCryCarM
set_option maxRecDepth 100000
set_option maxHeartbeats 8000000
set_option linter.unusedVariables false
set_option linter.unusedSimpArgs false
namespace Go.Oct.Cry.Fx
open Go.Oct
def okCars (T : Span) (C : List Car) : Prop := okT T ∧ (2 ≤ C.length ∧ C.length ≤ 8) ∧ ∀ j, j < C.length → okCar (nth C j)
/-- With at least two clocks. -/
def two (T : Span) (C : List Car) (n : Int) : Prop := ∃ i k, i < C.length ∧ k < i ∧ inW T (nth C i) n ∧ inW T (nth C k) n
/-- The pairs before (i, k). -/
def twoTo (T : Span) (C : List Car) (i k : Nat) (n : Int) : Prop := ∃ i' k', k' < i' ∧ (i' < i ∨ i' = i ∧ k' < k) ∧ inW T (nth C i') n ∧ inW T (nth C k') n
theorem nth_app_hi' {α : Type} [Inhabited α] {l : List α} {x : α} : nth (l ++ [x]) l.length = x := by
  unfold nth
  rw [List.getD_eq_getElem?_getD]; simp
theorem abound_self' (n m : Nat) : abound n m (some (.int .i64 n)) = some n := by simp [abound]
theorem aslS_full' (z i n : Nat) : aslS z (.slice (some (i, 0)) n (.op z)) none (some (.int .i64 n)) (some (.int .i64 n)) = some (.slice (some (i, 0)) n (.ex n)) := by
  have e : (ACap.op z).sure n = n := rfl
  have e2 : (ACap.op z).less z 0 (some n) = some (.ex n) := rfl
  simp only [aslS, e, abounds, abound_self']
  simp [abound, e2]
def tri : Nat → Nat
  | 0 => 0
  | i + 1 => tri i + i
theorem tri_le7 : ∀ i, i ≤ 7 → tri i + i ≤ 28 := by decide
theorem tri_le3 : ∀ i, i ≤ 3 → tri i ≤ 3 := by decide
/-- The spans of the pairs so far. -/
structure Prs (T : Span) (C : List Car) (i k : Nat) (P : List Span) : Prop where
  iff : ∀ n, inL P n ↔ twoTo T C i k n
  ok : ∀ s ∈ P, s.lo ≤ s.hi ∧ -200000 ≤ s.lo ∧ s.hi ≤ 200000
  len : P.length ≤ tri i + k
theorem Lon_ok (T : Span) (nl : Bool) (C : List Car) (hok : okCars T C) (h3 : C.length ≤ 3) : ∃ (nl' : Bool) (L : List Span), Canon L ∧ (∀ n, inL L n ↔ two T C n) ∧ L.length ≤ 28 ∧ ans prog O 30 [.agg [.int .i64 T.lo, .int .i64 T.hi], vl eCar nl C] = some (.tuple [vl eSpan nl' L, .int .i64 (if L = [] then 4 else 0)]) := by
  obtain ⟨hT, hl, hc⟩ := hok
  have hcf := ContainsFuncC_ok nl C (by omega) 66 [] [] (by decide) rfl rfl rfl rfl (fun x => !decide (okCar x)) (fun j hj => Lon1_ok (nth C j))
  have hsp : ans prog O 63 [.agg [.int .i64 T.lo, .int .i64 T.hi], .int .i64 0, .int .i64 100000] = some (.bool (decide (isSp ⟨T.lo, T.hi⟩ 0 100000))) := spanned_ok ⟨T.lo, T.hi⟩ _ _
  rw [decide_eq_true (show isSp ⟨T.lo, T.hi⟩ 0 100000 from hT)] at hsp
  have hno : ¬ ∃ j, j < C.length ∧ (!decide (okCar (nth C j))) = true := fun ⟨j, h1, h2⟩ => by
    rw [decide_eq_true (hc j h1)] at h2; cases h2
  rw [decide_eq_false hno] at hcf
  have hl' : 2 ≤ (C.length : Int) ∧ (C.length : Int) ≤ 8 := by omega
  have main : ∃ v, (∃ (nl' : Bool) (L : List Span), v = .tuple [vl eSpan nl' L, .int .i64 (if L = [] then 4 else 0)] ∧ Canon L ∧ (∀ n, inL L n ↔ two T C n) ∧ L.length ≤ 28) ∧ ans prog O 30 [.agg [.int .i64 T.lo, .int .i64 T.hi], vl eCar nl C] = some v := by
    refine fn_ex pl _ get30 (oo (by decide)) rfl rfl ?_
    simp (disch := omega) [hsp, eq_true hl', hcf, Und, -Bool.exists_bool]
    refine lp_loop pl (fun r fr σ => ∃ (i : Nat) (v : AV) (P : List Span), i + r = C.length ∧ fr = ⟨[(1, vl eCar nl C), (6, v), (7, .func (.func 67) [] [.ptr (some (0, 0))]), (32, .int .i64 C.length), (33, .int .i64 i)], []⟩ ∧ σ.lim = 0 ∧ σ.get 0 = some (.cells [.int .i64 T.lo, .int .i64 T.hi]) ∧ Buf 1 2 eSpan σ v P ∧ Prs T C i 0 P)
      ⟨C.length, 0, .vsl true [], [], by omega, rfl, rfl, by simp, Buf.nil, ⟨fun n => ⟨fun ⟨s, h, _⟩ => by (cases h), fun ⟨i', k', h1, h2, _⟩ => by omega⟩, fun s h => by (cases h), by simp [tri]⟩⟩ ?_
    rintro r _ σ ⟨i, v, P, hi, rfl, s0, sg, hb, hP⟩
    have l0 := AH.get_lt sg
    by_cases hiC : i < C.length
    · have hiC' : (i : Int) < C.length := by omega
      simp (disch := omega) [Und, hiC, hiC', -Bool.exists_bool]
      refine lp_loop pl (fun r fr σ => ∃ (k : Nat) (v : AV) (P : List Span) (ext : Env), k + r = i ∧ fr = ⟨(1, vl eCar nl C) :: (6, v) :: (7, .func (.func 67) [] [.ptr (some (0, 0))]) :: (8, .int .i64 i) :: (32, .int .i64 C.length) :: (33, .int .i64 i) :: (36, .int .i64 i) :: (37, .int .i64 k) :: ext, []⟩ ∧ σ.lim = 0 ∧ σ.get 0 = some (.cells [.int .i64 T.lo, .int .i64 T.hi]) ∧ Buf 1 2 eSpan σ v P ∧ Prs T C i k P)
        ⟨i, 0, v, P, _, by omega, rfl, s0, sg, hb, hP⟩ ?_
      clear s0 sg hb hP l0
      rintro r2 _ σ ⟨k, v, P, ext, hk, rfl, s0, sg, hb, hP⟩
      have l0 := AH.get_lt sg
      by_cases hki : k < i
      · have hki' : (k : Int) < i := by omega
        have hkC : k < C.length := by omega
        have hkC' : (k : Int) < C.length := by omega
        simp (disch := omega) [Und, hki, hki', hiC, hiC', hkC, hkC', -Bool.exists_bool]
        have hci := hc i hiC
        have hck := hc k hkC
        have hg1 : (σ.under σ.next).get 0 = some (.cells [.int .i64 T.lo, .int .i64 T.hi]) := sg
        have sp : ∀ {τ : AH}, τ.get 0 = some (.cells [.int .i64 T.lo, .int .i64 T.hi]) → Snap τ (.ptr (some (0, 0))) [0] (.vptr [.int .i64 T.lo, .int .i64 T.hi] 0) := fun h => (SnapK.ptr (k := 7) h (.cons (SnapK.int _ _ _ _) (.cons (SnapK.int _ _ _ _) .nil))).snap
        have sc : ∀ (τ : AH) (x : Car), Snap τ (.agg [.int .i64 x.sh, .int .i64 x.lo, .int .i64 x.hi]) [] (eCar x) := fun τ x => ⟨rfl, fun _ _ => rfl⟩
        obtain ⟨A, hA⟩ : ∃ A, A = win T (nth C i) := ⟨_, rfl⟩
        obtain ⟨B, hB⟩ : ∃ B, B = win T (nth C k) := ⟨_, rfl⟩
        have lA := Lon2_ok T (nth C i) hT hci
        have lB := Lon2_ok T (nth C k) hT hck
        rw [← hA] at lA
        rw [← hB] at lB
        have bA : (-200000 ≤ A.lo ∧ A.lo ≤ 200000) ∧ -200000 ≤ A.hi ∧ A.hi ≤ 200000 := by
          unfold okT at hT; unfold okCar at hci; rw [hA]; unfold win; simp only; omega
        have bB : (-200000 ≤ B.lo ∧ B.lo ≤ 200000) ∧ -200000 ≤ B.hi ∧ B.hi ≤ 200000 := by
          unfold okT at hT; unfold okCar at hck; rw [hB]; unfold win; simp only; omega
        have hstep : ∀ n, twoTo T C i (k + 1) n ↔ twoTo T C i k n ∨ (A.lo ≤ n ∧ n ≤ A.hi ∧ B.lo ≤ n ∧ n ≤ B.hi) := fun n => by
          unfold twoTo
          constructor
          · rintro ⟨i', k', h1, h2, h3, h4⟩
            by_cases e : i' = i ∧ k' = k
            · obtain ⟨rfl, rfl⟩ := e
              unfold inW at h3 h4
              rw [← hA] at h3
              rw [← hB] at h4
              exact .inr ⟨h3.1, h3.2, h4.1, h4.2⟩
            · exact .inl ⟨i', k', h1, by omega, h3, h4⟩
          · rintro (⟨i', k', h1, h2, h3, h4⟩ | ⟨h1, h2, h3, h4⟩)
            · exact ⟨i', k', h1, by omega, h3, h4⟩
            · exact ⟨i, k, hki, by omega, by unfold inW; rw [← hA]; exact ⟨h1, h2⟩, by unfold inW; rw [← hB]; exact ⟨h3, h4⟩⟩
        refine pc_scal (.cons (sc _ (nth C i)) (.cons (sp hg1) .nil)) (fun h => by cases h) (by simp) (oo (args := []) (by decide)).1 lA rfl ?_
        simp (disch := omega) [Und, hki, hki', hiC, hiC', hkC, hkC', eSpan, -Bool.exists_bool]
        refine pc_scal (.cons (sc _ (nth C k)) (.cons (sp hg1) .nil)) (fun h => by cases h) (by simp) (oo (args := []) (by decide)).1 lB rfl ?_
        have htri := tri_le7 i (by omega)
        have u1 : σ.next < σ.next + 1 + 1 := by omega
        have u2 : σ.next + 1 < σ.next + 1 + 1 := by omega
        have u3 : ¬ σ.next = σ.next + 1 := by omega
        have u4 : ¬ σ.next + 1 = σ.next := by omega
        have u5 : σ.next < σ.next + 1 + 1 + 1 := by omega
        have u6 : σ.next + 1 < σ.next + 1 + 1 + 1 := by omega
        have u7 : ¬ σ.next = σ.next + 1 + 1 := by omega
        have u8 : ¬ σ.next + 1 = σ.next + 1 + 1 := by omega
        have u9 : σ.next + 1 + 1 < σ.next + 1 + 1 + 1 := by omega
        have u10 : ¬ σ.next + 1 + 1 = σ.next := by omega
        have u12 : ¬ 0 = σ.next := by omega
        have u11 : ¬ σ.next + 1 + 1 = σ.next + 1 := by omega
        have hPl := hP.len
        by_cases c : max A.lo B.lo ≤ min A.hi B.hi
        · simp (disch := omega) [Und, hki, hki', hiC, hiC', hkC, hkC', s0, sg, l0, u1, u2, u3, u4, u5, u6, u7, u8, u9, u10, u11, u12, eq_true c, eSpan, -Bool.exists_bool]
          generalize hX : AH.set (AH.push (AH.set _ _ _) _) (σ.next + 1 + 1) _ = X
          have x0 : X.lim = 0 := by rw [← hX]; rfl
          have xn : X.next = σ.next + 3 := by rw [← hX]; rfl
          have xg : ∀ z, z < σ.next → X.get z = σ.get z := fun z hz => by
            have y1 : ¬ z = σ.next := by omega
            have y2 : ¬ z = σ.next + 1 := by omega
            have y3 : ¬ z = σ.next + 1 + 1 := by omega
            rw [← hX]; simp (disch := omega) [y1, y2, y3]
          clear hX
          rw [show σ.next + 1 + 1 + 1 = X.next by omega]
          have hbX := hb.keep (σ' := X) fun z _ hz => xg z hz
          refine hbX.push encSpan (by omega) (by omega) ⟨max A.lo B.lo, min A.hi B.hi⟩ (by simp only [topBytes]; omega) rfl fun v' τ g1 g2 => ?_
          have t0 : τ.lim = 0 := g2.lim.trans x0
          simp (disch := omega) [Und, t0, -Bool.exists_bool]
          refine ⟨r2 - 1, by omega, k + 1, by omega, v', ⟨rfl, by omega⟩, ?_, P ++ [⟨max A.lo B.lo, min A.hi B.hi⟩], g1, ⟨fun n => ?_, fun s hs => ?_, ?_⟩⟩
          · rw [g2.get 0 (by omega), xg 0 l0]; exact sg
          · rw [hstep, ← hP.iff]
            unfold inL
            constructor
            · rintro ⟨s, h1, h2, h3⟩
              rcases List.mem_append.1 h1 with h1 | h1
              · exact .inl ⟨s, h1, h2, h3⟩
              · obtain rfl := List.mem_singleton.1 h1
                simp only at h2 h3
                exact .inr (by omega)
            · rintro (⟨s, h1, h2⟩ | h1)
              · exact ⟨s, List.mem_append_left _ h1, h2⟩
              · exact ⟨_, List.mem_append_right _ (List.mem_singleton.2 rfl), by simp only; omega, by simp only; omega⟩
          · rcases List.mem_append.1 hs with hs | hs
            · exact hP.ok s hs
            · obtain rfl := List.mem_singleton.1 hs
              simp only
              omega
          · rw [List.length_append, List.length_singleton]; omega
        · simp (disch := omega) [Und, hki, hki', hiC, hiC', hkC, hkC', s0, sg, l0, u1, u2, u3, u4, u5, u6, u7, u8, u9, u10, u11, u12, eq_false c, eSpan, -Bool.exists_bool]
          generalize hX : AH.set (AH.push (AH.set _ _ _) _) (σ.next + 1 + 1) _ = X
          have x0 : X.lim = 0 := by rw [← hX]; rfl
          have xn : X.next = σ.next + 3 := by rw [← hX]; rfl
          have xg : ∀ z, z < σ.next → X.get z = σ.get z := fun z hz => by
            have y1 : ¬ z = σ.next := by omega
            have y2 : ¬ z = σ.next + 1 := by omega
            have y3 : ¬ z = σ.next + 1 + 1 := by omega
            rw [← hX]; simp (disch := omega) [y1, y2, y3]
          clear hX
          refine ⟨r2 - 1, by omega, k + 1, by omega, v, ⟨rfl, by omega⟩, P, hb.keep fun z _ hz => xg z hz, ⟨fun n => ?_, hP.ok, by omega⟩⟩
          rw [hstep, ← hP.iff]
          constructor
          · exact .inl
          · rintro (h | h)
            · exact h
            · exfalso; omega
      · obtain rfl : k = i := by omega
        simp (disch := omega) [Und, -Bool.exists_bool]
        have hnext : ∀ n, twoTo T C k k n ↔ twoTo T C (k + 1) 0 n := fun n => by
          unfold twoTo
          constructor
          · rintro ⟨i', k', h1, h2, h3⟩; exact ⟨i', k', h1, by omega, h3⟩
          · rintro ⟨i', k', h1, h2, h3⟩; exact ⟨i', k', h1, by omega, h3⟩
        exact ⟨r - 1, by omega, k + 1, by omega, v, ⟨rfl, by omega⟩, s0, sg, P, hb, ⟨fun n => by rw [hP.iff, hnext], hP.ok, by have := hP.len; simp only [tri]; omega⟩⟩
    · obtain rfl : i = C.length := by omega
      simp (disch := omega) [Und, -Bool.exists_bool]
      have htwo : ∀ n, inL P n ↔ two T C n := fun n => by
        rw [hP.iff]
        unfold twoTo two
        constructor
        · rintro ⟨i, k, h1, h2, h3⟩; exact ⟨i, k, by omega, h1, h3⟩
        · rintro ⟨i, k, h1, h2, h3⟩; exact ⟨i, k, h2, by omega, h3⟩
      have hPl := hP.len
      have ht8 := tri_le3 C.length h3
      rcases id hb with ⟨rfl, rfl⟩ | ⟨o, rfl, o1, og, hne⟩
      · refine SortFunc_nil ?_
        simp (disch := omega) [-Bool.exists_bool]
        refine lp_loop pl (fun k fr υ => fr = ⟨[(13, .vsl true []), (76, .vsl true []), (77, .int .i64 0), (78, .int .i64 0)], []⟩ ∧ υ = σ) ⟨0, rfl, rfl⟩ ?_
        rintro k _ υ1 ⟨rfl, hυ1⟩
        subst hυ1
        simp (disch := omega) [Und, s0, -Bool.exists_bool]
        exact ⟨true, [], ⟨rfl, rfl⟩, ⟨.nil, fun s h => by cases h⟩, fun n => htwo n, by simp⟩
      · have hn1 : 1 ≤ P.length := by
          cases P with
          | nil => exact absurd rfl hne
          | cons _ _ => simp
        refine SortFunc_call (by omega) og rfl hn1 (by omega) (fun x hx => by have := hP.ok x hx; unfold bd; omega) fun S υ h1 h2 h3 => ?_
        have hSl : S.length = P.length := h2.length_eq
        have u0 : υ.lim = 0 := h1.only.lim.trans s0
        have hso : ∀ x, x ∈ S → x.lo ≤ x.hi ∧ -200000 ≤ x.lo ∧ x.hi ≤ 200000 := fun x hx => hP.ok x (h2.mem_iff.1 hx)
        have hss : ∀ p q, p < q → q < S.length → (nth S p).lo ≤ (nth S q).lo := fun p q a b => h3 p q (Nat.zero_le _) a (by omega)
        simp (disch := omega) [-Bool.exists_bool]
        refine lp_loop pl (fun k fr ω => ∃ (i : Nat) (ov : AV) (M : List Span), i + k = S.length ∧ fr = ⟨[(13, ov), (76, .slice (some (o, 0)) P.length (.op 2)), (77, .int .i64 P.length), (78, .int .i64 i)], []⟩ ∧ ω.lim = 0 ∧ υ.next ≤ ω.next ∧ ω.get o = some (.cells (rowOf eSpan S)) ∧ Buf υ.next 2 eSpan ω ov M ∧ Mrg S i M)
          ⟨S.length, 0, .vsl true [], [], by omega, rfl, u0, Nat.le_refl _, h1.row, Buf.nil, .nil _⟩ ?_
        rintro k _ ω ⟨i, ov, M, hi, rfl, w0, wn, wo, hb2, hM⟩
        have lo := AH.get_lt h1.row
        have lwo := AH.get_lt wo
        have hM28 : M.length ≤ 28 := by have := hM.len; omega
        by_cases hiS : i < S.length
        · have hiS' : (i : Int) < P.length := by omega
          have hsi := hso (nth S i) (nth_mem hiS)
          have hrl := rowOf_length encSpan S
          have r0 := row_at encSpan (xs := S) (j := i) hiS
          have q0 : i < P.length := by omega
          have w1 : i * 2 + 2 ≤ S.length * 2 := by omega
          rcases id hb2 with ⟨rfl, rfl⟩ | ⟨o2, rfl, o21, og2, hne2⟩
          · simp (disch := omega) [Und, w0, wo, lwo, hrl, r0, q0, w1, hiS', -Bool.exists_bool]
            generalize hX : AH.set (AH.push ω _) ω.next _ = X
            have x0 : X.lim = 0 := by rw [← hX]; exact w0
            have xn : X.next = ω.next + 1 := by rw [← hX]; rfl
            have xg : ∀ z, z < ω.next → X.get z = ω.get z := fun z hz => by rw [← hX, AH.get_set_other _ _ _ _ (by omega), AH.get_push_old _ _ _ (by omega)]
            clear hX
            rw [show ω.next + 1 = X.next by omega]
            refine Buf.push (σ := X) (lo := υ.next) (v := .vsl true []) (xs := []) Buf.nil encSpan (by omega) (by omega) (nth S i) (by simp only [topBytes, List.length_nil]; omega) rfl fun v' τ g1 g2 => ?_
            have t0 : τ.lim = 0 := g2.lim.trans x0
            simp (disch := omega) [Und, t0, hSl, -Bool.exists_bool]
            exact ⟨k - 1, by omega, i + 1, by omega, v', ⟨rfl, by omega⟩, by have := g2.next; omega, by rw [g2.get o (by omega), xg o lwo]; exact wo, _, g1, hM.app hiS hsi fun M0 l e => by simp at e⟩
          · obtain ⟨M0, l, hMl⟩ : ∃ M0 l, M = M0 ++ [l] := by
              rcases List.eq_nil_or_concat M with h | ⟨M0, l, h⟩
              · exact absurd h hne2
              · exact ⟨M0, l, by rw [h, List.concat_eq_append]⟩
            have hml : M.length = M0.length + 1 := by rw [hMl]; simp
            have hnl : nth M M0.length = l := by rw [hMl]; exact nth_app_hi'
            obtain ⟨m, hm0⟩ : ∃ m, m = M0.length := ⟨_, rfl⟩
            have hm1 : (M.length : Int) - 1 = (m : Int) := by omega
            have hm2 : (0 : Int) < M.length := by omega
            have hm3 : 0 < M.length := by omega
            have hm4 : m < M.length := by omega
            have hbl := hM.bd l (by rw [hMl]; exact List.mem_append_right _ (List.mem_singleton.2 rfl))
            have hll := hM.can.ne l (by rw [hMl]; exact List.mem_append_right _ (List.mem_singleton.2 rfl))
            have hrm := rowOf_length encSpan M
            have rc := row_cell encSpan (xs := M) (j := m) (c := 1) hm4 (by decide)
            have hcc : (eSpan (nth M m)).cells[1]? = some (.int .i64 l.hi) := by rw [hm0, hnl]; rfl
            rw [hcc] at rc
            have w2 : m * 2 + 1 + 1 ≤ M.length * 2 := by omega
            have n2 : ¬ o2 = ω.next := by have := AH.get_lt og2; omega
            have l2 := AH.get_lt og2
            have n3 : o2 < ω.next + 1 := by omega
            by_cases ht : (nth S i).lo ≤ l.hi + 1
            · simp (disch := omega) [Und, w0, wo, lwo, hrl, r0, q0, w1, hiS', hm1, hm2, hm3, hm4, hrm, rc, w2, n2, n3, l2, og2, eq_true ht, -Bool.exists_bool, -getElem?_pos]
              have hset : (rowOf eSpan M).set (m * 2 + 1) (.int .i64 (max l.hi (nth S i).hi)) = rowOf eSpan (M0 ++ [⟨l.lo, max l.hi (nth S i).hi⟩]) := by
                rw [setHi hm4, hm0, hnl]
                congr 1
                rw [hMl, List.set_append_right _ _ (Nat.le_refl _), Nat.sub_self]; rfl
              have hle : (M0 ++ [(⟨l.lo, max l.hi (nth S i).hi⟩ : Span)]).length = M.length := by rw [hMl]; simp
              refine ⟨k - 1, by omega, i + 1, by omega, _, ⟨rfl, by omega⟩, by omega, by rw [if_neg (by omega), if_neg (by omega), if_neg (by omega)], M0 ++ [⟨l.lo, max l.hi (nth S i).hi⟩], .inr ⟨o2, by rw [hle], o21, ?_, by simp⟩, ?_⟩
              · rw [AH.get_set_same _ _ _ (by show o2 < ω.next + 1; omega), hset]
              · rw [hMl] at hM
                exact hM.ext hss hiS ⟨hsi.1, hsi.2.2⟩ ht
            · simp (disch := omega) [Und, w0, wo, lwo, hrl, r0, q0, w1, hiS', hm1, hm2, hm3, hm4, hrm, rc, w2, n2, n3, l2, og2, eq_false ht, -Bool.exists_bool, -getElem?_pos]
              generalize hX : AH.set (AH.push ω _) ω.next _ = X
              have x0 : X.lim = 0 := by rw [← hX]; exact w0
              have xn : X.next = ω.next + 1 := by rw [← hX]; rfl
              have xg : ∀ z, z < ω.next → X.get z = ω.get z := fun z hz => by rw [← hX, AH.get_set_other _ _ _ _ (by omega), AH.get_push_old _ _ _ (by omega)]
              clear hX
              rw [show ω.next + 1 = X.next by omega]
              refine (hb2.keep (σ' := X) fun z _ hz => xg z hz).push encSpan (by omega) (by omega) (nth S i) (by simp only [topBytes, List.length_nil]; omega) rfl fun v' τ g1 g2 => ?_
              have t0 : τ.lim = 0 := g2.lim.trans x0
              simp (disch := omega) [Und, t0, hSl, -Bool.exists_bool]
              exact ⟨k - 1, by omega, i + 1, by omega, v', ⟨rfl, by omega⟩, by have := g2.next; omega, by rw [g2.get o (by omega), xg o lwo]; exact wo, _, g1, hM.app hiS hsi fun M1 l1 e => by
                  rw [hMl] at e
                  have := (List.append_inj' e rfl).2
                  simp at this
                  subst this
                  omega⟩
        · obtain rfl : i = S.length := by omega
          rcases id hb2 with ⟨rfl, rfl⟩ | ⟨o2, rfl, o21, og2, hne2⟩
          · exfalso
            have h9 := (hM.iff (nth S 0).lo).2 ⟨0, by omega, Int.le_refl _, (hso (nth S 0) (nth_mem (by omega))).1⟩
            obtain ⟨s, h10, _⟩ := h9
            cases h10
          · simp (disch := omega) [Und, w0, hSl, aslS_full', -Bool.exists_bool]
            have hfz := fz_whole encSpan flatSpan (f := ω.cel) (o := o2) (xs := M) (c := .ex M.length) (AH.cel_get og2) (.inr rfl) 5
            refine ⟨false, M, ⟨hfz, hne2⟩, hM.can, fun n => ?_, hM28⟩
            rw [hM.iff, ← htwo]
            unfold inL
            constructor
            · rintro ⟨j, j1, j2⟩
              exact ⟨nth S j, h2.mem_iff.1 (nth_mem j1), j2⟩
            · rintro ⟨s, s1, s2⟩
              obtain ⟨j, j1, j2⟩ := mem_nth.1 (h2.mem_iff.2 s1)
              exact ⟨j, j1, by rw [j2]; exact s2⟩
  obtain ⟨v, ⟨nl', L, rfl, h1, h2, h3⟩, h4⟩ := main
  exact ⟨nl', L, h1, h2, h3, h4⟩
end Go.Oct.Cry.Fx
