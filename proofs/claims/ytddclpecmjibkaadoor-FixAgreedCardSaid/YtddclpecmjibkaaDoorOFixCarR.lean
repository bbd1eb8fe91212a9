/- FixCarries: the specification's longitudes; it answers true at all arguments. -/
import Derived.Test.YtddclpecmjibkaaDoorOFixCarW
import Derived.Test.YtddclpecmjibkaaDoorOT3
set_option maxRecDepth 100000
set_option maxHeartbeats 8000000
set_option linter.unusedVariables false
set_option linter.unusedSimpArgs false
namespace Go.Oct.Fix
open Go.Oct
/-- With how many of the first clocks. -/
def cntC (T : Span) (C : List Car) (n : Int) : Nat → Nat
  | 0 => 0
  | i + 1 => cntC T C n i + if inW T (nth C i) n then 1 else 0
theorem cntC_le (T : Span) (C : List Car) (n : Int) : ∀ i, cntC T C n i ≤ i
  | 0 => Nat.le_refl _
  | i + 1 => by
    have := cntC_le T C n i
    simp only [cntC]
    split <;> omega
theorem cnt1_iff {T : Span} {C : List Car} {n : Int} : ∀ i, 1 ≤ cntC T C n i ↔ ∃ k, k < i ∧ inW T (nth C k) n
  | 0 => by simp [cntC]
  | i + 1 => by
    have ih := cnt1_iff (T := T) (C := C) (n := n) i
    simp only [cntC]
    by_cases h : inW T (nth C i) n
    · rw [if_pos h]
      exact ⟨fun _ => ⟨i, by omega, h⟩, fun _ => by omega⟩
    · rw [if_neg h, Nat.add_zero, ih]
      constructor
      · rintro ⟨k, h1, h2⟩; exact ⟨k, by omega, h2⟩
      · rintro ⟨k, h1, h2⟩
        by_cases e : k = i
        · rw [e] at h2; exact absurd h2 h
        · exact ⟨k, by omega, h2⟩
theorem cnt2_iff {T : Span} {C : List Car} {n : Int} : ∀ i, 2 ≤ cntC T C n i ↔ ∃ j k, j < i ∧ k < j ∧ inW T (nth C j) n ∧ inW T (nth C k) n
  | 0 => by simp [cntC]
  | i + 1 => by
    have ih := cnt2_iff (T := T) (C := C) (n := n) i
    have i1 := cnt1_iff (T := T) (C := C) (n := n) i
    simp only [cntC]
    by_cases h : inW T (nth C i) n
    · rw [if_pos h]
      constructor
      · intro h2
        obtain ⟨k, h3, h4⟩ := i1.1 (by omega)
        exact ⟨i, k, by omega, h3, h, h4⟩
      · rintro ⟨j, k, h1, h2, h3, h4⟩
        by_cases e : j = i
        · have := i1.2 ⟨k, by omega, h4⟩; omega
        · have := ih.2 ⟨j, k, by omega, h2, h3, h4⟩; omega
    · rw [if_neg h, Nat.add_zero, ih]
      constructor
      · rintro ⟨j, k, h1, h2⟩; exact ⟨j, k, by omega, h2⟩
      · rintro ⟨j, k, h1, h2, h3, h4⟩
        by_cases e : j = i
        · rw [e] at h3; exact absurd h3 h
        · exact ⟨j, k, by omega, h2, h3, h4⟩
theorem two_bd {T : Span} {C : List Car} {n : Int} (hT : okT T) (hc : ∀ j, j < C.length → okCar (nth C j)) (h : two T C n) : -200000 ≤ n ∧ n ≤ 200000 := by
  obtain ⟨i, k, h1, h2, h3, h4⟩ := h
  have := hc i h1
  unfold okT at hT
  unfold okCar at this
  unfold inW win at h3
  simp only at h3
  omega
/-- What the specification has found below a longitude. -/
structure Fnd (T : Span) (C : List Car) (n : Int) (M : List Span) : Prop where
  can : Canon M
  iff : ∀ x, inL M x ↔ x < n ∧ two T C x
  bel : ∀ q ∈ M, q.hi < n ∧ -200000 ≤ q.lo
  len : (M.length : Int) ≤ n + 200000
theorem Fnd.nil {T : Span} {C : List Car} (hT : okT T) (hc : ∀ j, j < C.length → okCar (nth C j)) : Fnd T C (-200000) [] := by
  refine ⟨⟨.nil, fun s h => ?_⟩, fun x => ⟨fun h => ?_, fun h => ?_⟩, fun q h => ?_, by simp⟩
  · cases h
  · obtain ⟨s, h1, _⟩ := h; cases h1
  · have := two_bd hT hc h.2; omega
  · cases h
theorem Fnd.skip {T : Span} {C : List Car} {n : Int} {M : List Span} (h : Fnd T C n M) (hn : ¬ two T C n) : Fnd T C (n + 1) M :=
  ⟨h.can, fun x => by
    rw [h.iff]
    constructor
    · rintro ⟨h1, h2⟩; exact ⟨by omega, h2⟩
    · rintro ⟨h1, h2⟩
      by_cases e : x = n
      · rw [e] at h2; exact absurd h2 hn
      · exact ⟨by omega, h2⟩, fun q hq => by have := h.bel q hq; omega, by have := h.len; omega⟩
theorem Fnd.ext {T : Span} {C : List Car} {n : Int} {M0 : List Span} {l : Span} (h : Fnd T C n (M0 ++ [l])) (hn : two T C n) (hl : l.hi = n - 1) : Fnd T C (n + 1) (M0 ++ [⟨l.lo, n⟩]) := by
  obtain ⟨c1, c2, c3⟩ := h.can.init
  have hb := h.bel l (List.mem_append_right _ (List.mem_singleton.2 rfl))
  refine ⟨c1.snoc (by simp only; omega) c3, fun x => ?_, fun q hq => ?_, by have := h.len; simp at this ⊢; omega⟩
  · have e := h.iff x
    rw [inL_snoc] at e ⊢
    simp only
    constructor
    · rintro (h1 | ⟨h1, h2⟩)
      · obtain ⟨h3, h4⟩ := e.1 (.inl h1); exact ⟨by omega, h4⟩
      · by_cases ex : x = n
        · rw [ex]; exact ⟨by omega, hn⟩
        · obtain ⟨h3, h4⟩ := e.1 (.inr ⟨h1, by omega⟩); exact ⟨by omega, h4⟩
    · rintro ⟨h1, h2⟩
      by_cases ex : x = n
      · exact .inr ⟨by omega, by omega⟩
      · rcases e.2 ⟨by omega, h2⟩ with h3 | h3
        · exact .inl h3
        · exact .inr ⟨h3.1, by omega⟩
  · rcases List.mem_append.1 hq with hq | hq
    · have := h.bel q (List.mem_append_left _ hq); omega
    · obtain rfl := List.mem_singleton.1 hq
      simp only; omega
theorem Fnd.app {T : Span} {C : List Car} {n : Int} {M : List Span} (h : Fnd T C n M) (hn : two T C n) (hn0 : -200000 ≤ n) (hl : ∀ M0 l, M = M0 ++ [l] → l.hi ≠ n - 1) : Fnd T C (n + 1) (M ++ [⟨n, n⟩]) := by
  have hall : ∀ q ∈ M, q.hi + 1 < n := by
    rcases List.eq_nil_or_concat M with rfl | ⟨M0, l, rfl⟩
    · intro q hq; cases hq
    · rw [List.concat_eq_append] at h hl ⊢
      have h1 := hl M0 l rfl
      obtain ⟨c1, c2, c3⟩ := h.can.init
      have hb := h.bel l (List.mem_append_right _ (List.mem_singleton.2 rfl))
      intro q hq
      rcases List.mem_append.1 hq with hq | hq
      · have := c3 q hq; omega
      · obtain rfl := List.mem_singleton.1 hq; omega
  refine ⟨h.can.snoc (Int.le_refl _) hall, fun x => ?_, fun q hq => ?_, by have := h.len; rw [List.length_append, List.length_singleton]; omega⟩
  · rw [inL_snoc, h.iff]
    simp only
    constructor
    · rintro (⟨h1, h2⟩ | ⟨h1, h2⟩)
      · exact ⟨by omega, h2⟩
      · obtain rfl : x = n := by omega
        exact ⟨by omega, hn⟩
    · rintro ⟨h1, h2⟩
      by_cases ex : x = n
      · exact .inr ⟨by omega, by omega⟩
      · exact .inl ⟨by omega, h2⟩
  · rcases List.mem_append.1 hq with hq | hq
    · have := h.bel q hq; omega
    · obtain rfl := List.mem_singleton.1 hq
      simp only; omega
/-- What the specification answers. -/
def rlV (T : Span) (C : List Car) (v : AV) : Prop := (okCars T C → ∃ (nl' : Bool) (L : List Span), v = .tuple [vl eSpan nl' L, .int .i64 (if L = [] then 4 else 0)] ∧ Canon L ∧ (∀ n, inL L n ↔ two T C n) ∧ L.length ≤ 400002) ∧ (¬ okCars T C → v = .tuple [vl eSpan true [], .int .i64 82])
theorem rLon_ok (T : Span) (nl : Bool) (C : List Car) (hC : C.length < 2 ^ 62) : ∃ v, rlV T C v ∧ ans prog O 32 [.agg [.int .i64 T.lo, .int .i64 T.hi], vl eCar nl C] = some v := by
  refine fn_ex pl _ get32 (oo (by decide)) rfl rfl ?_
  simp (disch := omega) [Und, -Bool.exists_bool]
  generalize hb : ((_ && _ : Bool)) = b1
  have hC1 : b1 = true ↔ okT T ∧ 2 ≤ C.length ∧ C.length ≤ 8 := by
    rw [← hb]
    simp only [Bool.and_eq_true, decide_eq_true_eq]
    unfold okT
    constructor
    · rintro ⟨⟨h1, h2, h3⟩, h4, h5⟩
      exact ⟨⟨h1, h2, h3⟩, by omega, by omega⟩
    · rintro ⟨⟨h1, h2, h3⟩, h4, h5⟩
      exact ⟨⟨h1, h2, h3⟩, by omega, by omega⟩
  clear hb
  have hokC : okCars T C ↔ b1 = true ∧ ∀ j, j < C.length → okCar (nth C j) := by
    rw [hC1]
    unfold okCars
    constructor
    · rintro ⟨h1, h2, h3⟩; exact ⟨⟨h1, h2⟩, h3⟩
    · rintro ⟨⟨h1, h2⟩, h3⟩; exact ⟨h1, h2, h3⟩
  refine lp_loop pl (fun k fr σ => ∃ (i : Nat) (b : Bool), i + k = C.length ∧ fr = ⟨[(1, vl eCar nl C), (2, .ptr (some (0, 0))), (6, .bool b), (7, .int .i64 i)], []⟩ ∧ (b = true ↔ b1 = true ∧ ∀ j, j < i → okCar (nth C j)) ∧ σ.lim = 0 ∧ σ.get 0 = some (.cells [.int .i64 T.lo, .int .i64 T.hi]))
    ⟨C.length, 0, b1, by omega, rfl, ⟨fun h => ⟨h, fun j hj => by omega⟩, fun h => h.1⟩, by simp, by simp⟩ ?_
  rintro k _ σ ⟨i, b, hi, rfl, hbi, s0, sg⟩
  have l0 := AH.get_lt sg
  cases b with
  | false =>
    have hno : ¬ okCars T C := fun h => by
      obtain ⟨h1, h2⟩ := hokC.1 h
      have := hbi.2 ⟨h1, fun j hj => h2 j (by omega)⟩
      cases this
    simp (disch := omega) [Und, s0, -Bool.exists_bool]
    exact ⟨fun h => absurd h hno, fun _ => rfl⟩
  | true =>
    obtain ⟨h1, h2⟩ := hbi.1 rfl
    by_cases hiC : i < C.length
    · have hiC' : (i : Int) < C.length := by omega
      have step : ∀ b : Bool, (b = true ↔ okCar (nth C i)) → (b = true ↔ b1 = true ∧ ∀ j, j < i + 1 → okCar (nth C j)) := fun b hb => by
        rw [hb]
        constructor
        · intro h3
          refine ⟨h1, fun j hj => ?_⟩
          by_cases e : j = i
          · rw [e]; exact h3
          · exact h2 j (by omega)
        · intro h3; exact h3.2 i (by omega)
      by_cases c1 : 0 ≤ (nth C i).sh ∧ (nth C i).sh ≤ 100000
      · simp (disch := omega) [Und, s0, sg, l0, hiC, hiC', eq_true c1, -Bool.exists_bool]
        refine ⟨k - 1, by omega, i + 1, by omega, _, ⟨rfl, by omega⟩, step _ ?_⟩
        unfold okCar
        simp only [Bool.and_eq_true, decide_eq_true_eq]
        constructor
        · rintro ⟨h3, h4, h5⟩; exact ⟨c1, h3, h4, h5⟩
        · rintro ⟨_, h3, h4, h5⟩; exact ⟨h3, h4, h5⟩
      · simp (disch := omega) [Und, s0, sg, l0, hiC, hiC', eq_false c1, -Bool.exists_bool]
        exact ⟨k - 1, by omega, i + 1, by omega, _, ⟨rfl, by omega⟩, step _ ⟨fun h => (by cases h), fun h => absurd h.1 c1⟩⟩
    · obtain rfl : i = C.length := by omega
      have hyes : okCars T C := hokC.2 ⟨h1, h2⟩
      simp (disch := omega) [Und, s0, sg, l0, -Bool.exists_bool]
      obtain ⟨hT, hl, hc⟩ := hyes
      have hcb : ∀ j, j < C.length → ((-200000 ≤ T.lo - (nth C j).sh ∧ T.lo - (nth C j).sh ≤ 100000) ∧ -200000 ≤ T.lo - (nth C j).sh + (nth C j).lo ∧ T.lo - (nth C j).sh + (nth C j).lo ≤ 200000) ∧ (-200000 ≤ T.hi - (nth C j).sh ∧ T.hi - (nth C j).sh ≤ 100000) ∧ -200000 ≤ T.hi - (nth C j).sh + (nth C j).hi ∧ T.hi - (nth C j).sh + (nth C j).hi ≤ 200000 := fun j hj => by
        have := hc j hj
        unfold okCar at this
        unfold okT at hT
        omega
      refine lp_loop pl (fun k fr ω => ∃ (n : Int) (ov : AV) (M : List Span), n + k = 200001 ∧ -200000 ≤ n ∧ fr = ⟨[(1, vl eCar nl C), (2, .ptr (some (0, 0))), (8, ov), (9, .int .i64 n)], []⟩ ∧ ω.lim = 0 ∧ ω.get 0 = some (.cells [.int .i64 T.lo, .int .i64 T.hi]) ∧ Buf 1 2 eSpan ω ov M ∧ Fnd T C n M)
        ⟨400001, -200000, .vsl true [], [], by omega, by omega, rfl, s0, sg, Buf.nil, Fnd.nil hT hc⟩ ?_
      clear s0 sg l0 hbi h1 h2 hokC hC1 hi
      rintro k2 _ ω ⟨n, ov, M, hnk, hn1, rfl, w0, wg, hb, hM⟩
      have l0 := AH.get_lt wg
      by_cases hn : n ≤ 200000
      · simp (disch := omega) [Und, hn, -Bool.exists_bool]
        refine lp_loop pl (fun r fr τ => ∃ i : Nat, i + r = C.length ∧ fr = ⟨[(1, vl eCar nl C), (2, .ptr (some (0, 0))), (8, ov), (9, .int .i64 n), (10, .int .i64 (cntC T C n i)), (11, .int .i64 i)], []⟩ ∧ τ = ω)
          ⟨C.length, 0, by omega, rfl, rfl⟩ ?_
        rintro r _ τ ⟨i, hir, rfl, hτ⟩
        subst hτ
        have hci := cntC_le T C n i
        by_cases hiC : i < C.length
        · have hiC' : (i : Int) < C.length := by omega
          obtain ⟨⟨⟨b1, b2⟩, b3, b4⟩, ⟨b5, b6⟩, b7, b8⟩ := hcb i hiC
          by_cases c : T.lo - (nth C i).sh + (nth C i).lo ≤ n ∧ n ≤ T.hi - (nth C i).sh + (nth C i).hi
          · have hcs : cntC T C n (i + 1) = cntC T C n i + 1 := by simp only [cntC]; rw [if_pos (show inW T (nth C i) n from c)]
            simp (disch := omega) [Und, w0, wg, l0, hiC, hiC', eq_true c, -Bool.exists_bool]
            exact ⟨r - 1, by omega, i + 1, by omega, by rw [hcs]; exact ⟨by omega, by omega⟩⟩
          · have hcs : cntC T C n (i + 1) = cntC T C n i := by simp only [cntC]; rw [if_neg (show ¬ inW T (nth C i) n from c)]; rfl
            simp (disch := omega) [Und, w0, wg, l0, hiC, hiC', eq_false c, -Bool.exists_bool]
            exact ⟨r - 1, by omega, i + 1, by omega, by rw [hcs], by omega⟩
        · obtain rfl : i = C.length := by omega
          have h2i := cnt2_iff (T := T) (C := C) (n := n) C.length
          by_cases c : 2 ≤ cntC T C n C.length
          · have htw : two T C n := h2i.1 c
            have c' : ¬ (cntC T C n C.length : Int) < 2 := by omega
            have hM2 := hM.len
            rcases id hb with ⟨rfl, rfl⟩ | ⟨o2, rfl, o21, og2, hne2⟩
            · simp (disch := omega) [Und, w0, c', -Bool.exists_bool]
              refine Buf.push (σ := τ) (lo := 1) (v := .vsl true []) (xs := []) Buf.nil encSpan (by omega) (by omega) ⟨n, n⟩ (by simp [topBytes]) rfl fun v' υ g1 g2 => ?_
              have t0 : υ.lim = 0 := g2.lim.trans w0
              simp (disch := omega) [Und, t0, -Bool.exists_bool]
              exact ⟨k2 - 1, by omega, n + 1, by omega, by omega, v', ⟨rfl, rfl⟩, by rw [g2.get 0 (by omega)]; exact wg, _, g1, hM.app htw hn1 fun M0 l e => by simp at e⟩
            · obtain ⟨M0, l, hMl⟩ : ∃ M0 l, M = M0 ++ [l] := by
                rcases List.eq_nil_or_concat M with h | ⟨M0, l, h⟩
                · exact absurd h hne2
                · exact ⟨M0, l, by rw [h, List.concat_eq_append]⟩
              have hml : M.length = M0.length + 1 := by rw [hMl]; simp
              have hnl : nth M M0.length = l := by rw [hMl]; exact nth_app_hi'
              obtain ⟨m, hm0⟩ : ∃ m, m = M0.length := ⟨_, rfl⟩
              have hm1 : (M.length : Int) - 1 = (m : Int) := by omega
              have hm2 : (0 : Int) < M.length := by omega
              have hm3 : 0 < M.length := by omega
              have hm4 : m < M.length := by omega
              have hrm := rowOf_length encSpan M
              have rc := row_cell encSpan (xs := M) (j := m) (c := 1) hm4 (by decide)
              have hcc : (eSpan (nth M m)).cells[1]? = some (.int .i64 l.hi) := by rw [hm0, hnl]; rfl
              rw [hcc] at rc
              have w2 : m * 2 + 1 + 1 ≤ M.length * 2 := by omega
              have l2 := AH.get_lt og2
              by_cases ht : l.hi = n - 1
              · simp (disch := omega) [Und, w0, c', hm1, hm2, hm3, hm4, hrm, rc, w2, l2, og2, ht, -Bool.exists_bool, -getElem?_pos]
                have hset : (rowOf eSpan M).set (m * 2 + 1) (.int .i64 n) = rowOf eSpan (M0 ++ [⟨l.lo, n⟩]) := by
                  rw [setHi hm4, hm0, hnl]
                  congr 1
                  rw [hMl, List.set_append_right _ _ (Nat.le_refl _), Nat.sub_self]; rfl
                have hle : (M0 ++ [(⟨l.lo, n⟩ : Span)]).length = M.length := by rw [hMl]; simp
                rw [hMl] at hM
                exact ⟨k2 - 1, by omega, n + 1, by omega, by omega, _, ⟨rfl, rfl⟩, by rw [if_neg (by omega)]; exact wg, M0 ++ [⟨l.lo, n⟩], .inr ⟨o2, by rw [hle], o21, by rw [AH.get_set_same _ _ _ l2, hset], by simp⟩, hM.ext htw ht⟩
              · simp (disch := omega) [Und, w0, c', hm1, hm2, hm3, hm4, hrm, rc, w2, l2, og2, ht, -Bool.exists_bool, -getElem?_pos]
                refine hb.push encSpan (by omega) (by omega) ⟨n, n⟩ (by simp only [topBytes]; omega) rfl fun v' υ g1 g2 => ?_
                have t0 : υ.lim = 0 := g2.lim.trans w0
                simp (disch := omega) [Und, t0, -Bool.exists_bool]
                exact ⟨k2 - 1, by omega, n + 1, by omega, by omega, v', ⟨rfl, rfl⟩, by rw [g2.get 0 (by omega)]; exact wg, _, g1, hM.app htw hn1 fun M1 l1 e => by
                  rw [hMl] at e
                  have := (List.append_inj' e rfl).2
                  simp at this
                  subst this
                  exact ht⟩
          · have htw : ¬ two T C n := fun h => c (h2i.2 h)
            have c' : (cntC T C n C.length : Int) < 2 := by omega
            simp (disch := omega) [Und, w0, c', -Bool.exists_bool]
            exact ⟨k2 - 1, by omega, n + 1, by omega, by omega, ov, ⟨rfl, rfl⟩, wg, M, hb, hM.skip htw⟩
      · simp (disch := omega) [Und, hn, -Bool.exists_bool]
        have hM2 := hM.len
        have hend : ∀ x, inL M x ↔ two T C x := fun x => by
          rw [hM.iff]
          constructor
          · exact fun h => h.2
          · intro h; have := two_bd hT hc h; exact ⟨by omega, h⟩
        refine ⟨fun hM0 => ⟨fun _ => ⟨true, [], rfl, ⟨.nil, fun s h => by cases h⟩, fun n => by rw [← hM0]; exact hend n, by simp⟩, fun h => absurd ⟨hT, hl, hc⟩ h⟩, fun hM0 => ⟨fun _ => ?_, fun h => absurd ⟨hT, hl, hc⟩ h⟩⟩
        rcases id hb with ⟨rfl, rfl⟩ | ⟨o2, rfl, o21, og2, hne2⟩
        · exact absurd rfl hM0
        · have hfz := fz_whole encSpan flatSpan (f := ω.cel) (o := o2) (xs := M) (c := .op 2) (AH.cel_get og2) (.inl rfl) 5
          refine ⟨false, M, ?_, hM.can, hend, by omega⟩
          rw [if_neg hM0]
          exact congrArg (fun z => AV.tuple [z, .int .i64 0]) hfz
theorem FixCarries_law (T : Span) (nl : Bool) (C : List Car) (hC : C.length < 2 ^ 62) : ans prog O 6 [.agg [.int .i64 T.lo, .int .i64 T.hi], vl eCar nl C] = some (.bool true) := by
  obtain ⟨v, hv, h1⟩ := rLon_ok T nl C hC
  by_cases hok : okCars T C
  · obtain ⟨n1, L1, c1, i1, l1, h2⟩ := Lon_ok T nl C hok
    obtain ⟨n2, L2, rfl, c2, i2, l2⟩ := hv.1 hok
    obtain rfl := canon_uniq c1 c2 fun n => (i1 n).trans (i2 n).symm
    have hss := SameSpans_ok n1 n2 L1 L1 (by omega)
    generalize (if L1 = [] then (4 : Int) else 0) = e at h1 h2
    refine fn_of' pl get6 (oo (by decide)) rfl rfl ?_
    simp (disch := omega) [h1, h2, hss, Und, -Bool.exists_bool]
  · have h2 := Lon_bad T nl C hC hok
    obtain rfl := hv.2 hok
    have hss := SameSpans_ok true true [] [] (by simp)
    refine fn_of' pl get6 (oo (by decide)) rfl rfl ?_
    simp (disch := omega) [h1, h2, hss, Und, -Bool.exists_bool]
def carOK (x : Car) : Prop := i64 x.sh ∧ i64 x.lo ∧ i64 x.hi
theorem inv_cars {x : AV} (h : CellIs (.sl true [.int .i64, .int .i64, .int .i64]) x) : ∃ nl xs, Slice eCar carOK x nl xs := by
  refine h.inv_sl fun cs hc => ?_
  obtain ⟨c1, _, rfl, h1, hc⟩ := hc.uncons
  obtain ⟨c2, _, rfl, h2, hc⟩ := hc.uncons
  obtain ⟨c3, rfl, h3⟩ := hc.one
  obtain ⟨n1, rfl, k1⟩ := h1.inv_int
  obtain ⟨n2, rfl, k2⟩ := h2.inv_int
  obtain ⟨n3, rfl, k3⟩ := h3.inv_int
  exact ⟨⟨n1, n2, n3⟩, rfl, k1, k2, k3⟩
theorem FixCarries_ok (T : Span) (nl : Bool) (C : List Car) (hT : i64 T.lo ∧ i64 T.hi) (hs : Slice eCar carOK (vl eCar nl C) nl C) : ans prog O 6 [.agg [.int .i64 T.lo, .int .i64 T.hi], vl eCar nl C] = some (.bool true) :=
  FixCarries_law T nl C (by have := hs.len; omega)
end Go.Oct.Fix
