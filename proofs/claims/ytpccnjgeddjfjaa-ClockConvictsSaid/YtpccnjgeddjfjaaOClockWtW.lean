/- Watches: the program's look at a watch. -/
import Derived.Test.YtpccnjgeddjfjaaOClockWtM
set_option maxRecDepth 100000
set_option maxHeartbeats 1000000
set_option linter.unusedVariables false
set_option linter.unusedSimpArgs false
namespace Go.Oct.Clock
open Go.Oct
def baseW (w : Wt) : Prop := (2 ≤ (w.F.length : Int) ∧ (w.F.length : Int) ≤ 20) ∧ (w.S.length : Int) = w.F.length ∧ 0 ≤ w.wr ∧ w.wr ≤ 1000
instance (w : Wt) : Decidable (baseW w) := by unfold baseW; infer_instance
/-- What was looked at: so many lists, and some of the next one. -/
def seenW (w : Wt) (i q : Nat) : Prop := baseW w ∧ (if i = 0 then ∀ a, a < q → inB (nth w.F a) else (∀ a, a < w.F.length → inB (nth w.F a)) ∧ if i = 1 then ∀ a, a < q → inB (nth w.S a) else ∀ a, a < w.S.length → inB (nth w.S a))
def c11 (nF nS : Bool) (w : Wt) (mp : Nat) : List AV := [vs nF w.F, vs nS w.S, .int .i64 w.wr, .int .i64 w.r0.lo, .int .i64 w.r0.hi, .int .i64 w.r1.lo, .int .i64 w.r1.hi, .int .i64 w.r2.lo, .int .i64 w.r2.hi, .int .i64 w.F.length, .map (some mp)]
def z11 : List AV := [.vsl true [], .vsl true [], .int .i64 0, .int .i64 0, .int .i64 0, .int .i64 0, .int .i64 0, .int .i64 0, .int .i64 0, .int .i64 0, .map none]
/-- The heap of the look. -/
structure HW (nF nS : Bool) (w : Wt) (es : MEs) (c : Nat) (σ τ : AH) : Prop where
  lim : τ.lim = 0
  nx : σ.next + 4 ≤ τ.next
  old : ∀ i, i < σ.next → τ.get i = σ.get i
  g0 : τ.get σ.next = some (.cells (cWt nF nS w))
  g1 : τ.get (σ.next + 1) = some (.cells z11)
  g2 : τ.get (σ.next + 1 + 1) = some (.map es c)
  g3 : τ.get (σ.next + 1 + 1 + 1) = some (.cells (c11 nF nS w (σ.next + 1 + 1)))
theorem HW.grow {nF nS : Bool} {w : Wt} {es : MEs} {c : Nat} {σ τ τ' : AH} (h : HW nF nS w es c σ τ) (hl : τ'.lim = τ.lim) (hn : τ.next ≤ τ'.next) (hg : ∀ i, i < τ.next → τ'.get i = τ.get i) : HW nF nS w es c σ τ' := by
  have hx := h.nx
  exact ⟨hl.trans h.lim, by omega, fun i hi => (hg i (by omega)).trans (h.old i hi), (hg _ (by omega)).trans h.g0, (hg _ (by omega)).trans h.g1, (hg _ (by omega)).trans h.g2, (hg _ (by omega)).trans h.g3⟩
theorem okW_iff {w : Wt} : (seenW w 2 0 ∧ ∀ a, a < 3 → rtOK (w.rt a)) ↔ okWt w := by
  unfold seenW okWt baseW
  simp only [show ¬ (2 : Nat) = 0 by omega, show ¬ (2 : Nat) = 1 by omega, if_false]
  constructor
  · rintro ⟨⟨h1, h2, h3⟩, h4⟩
    exact ⟨h1, fun i hi => ⟨h2 i hi, h3 i (by omega)⟩, h4 0 (by omega), h4 1 (by omega), h4 2 (by omega)⟩
  · rintro ⟨h1, h2, h3, h4, h5⟩
    refine ⟨⟨h1, fun a ha => (h2 a ha).1, fun a ha => (h2 a (by omega)).2⟩, fun a ha => ?_⟩
    obtain rfl | rfl | rfl : a = 0 ∨ a = 1 ∨ a = 2 := by omega
    · exact h3
    · exact h4
    · exact h5
theorem seen0 {w : Wt} {b : Bool} (h : b = (decide (2 ≤ (w.F.length : Int)) && decide ((w.F.length : Int) ≤ 20) && decide ((w.S.length : Int) = w.F.length) && (decide (0 ≤ w.wr) && decide (w.wr ≤ 1000)))) : b = true ↔ seenW w 0 0 := by
  rw [h]
  simp [seenW, baseW]
  omega
theorem seen_step {w : Wt} {i q : Nat} {b : Bool} {x : Int} (hi : i < 2) (hx : x = if i = 0 then nth w.F q else nth w.S q) (h : b = true ↔ seenW w i q) : (b && decide (-1000000000 ≤ x ∧ x ≤ 1000000000)) = true ↔ seenW w i (q + 1) := by
  rw [Bool.and_eq_true, decide_eq_true_eq, h]
  unfold seenW
  obtain rfl | rfl : i = 0 ∨ i = 1 := by omega
  · simp only [if_true] at hx ⊢
    constructor
    · rintro ⟨⟨h1, h2⟩, h3⟩
      refine ⟨h1, fun a ha => ?_⟩
      by_cases e : a = q
      · subst e; unfold inB; rw [← hx]; exact h3
      · exact h2 a (by omega)
    · rintro ⟨h1, h2⟩
      refine ⟨⟨h1, fun a ha => h2 a (by omega)⟩, ?_⟩
      have := h2 q (by omega)
      unfold inB at this
      rw [hx]; exact this
  · simp only [show ¬ (1 : Nat) = 0 by omega, if_false, if_true] at hx ⊢
    constructor
    · rintro ⟨⟨h1, h0, h2⟩, h3⟩
      refine ⟨h1, h0, fun a ha => ?_⟩
      by_cases e : a = q
      · subst e; unfold inB; rw [← hx]; exact h3
      · exact h2 a (by omega)
    · rintro ⟨h1, h0, h2⟩
      refine ⟨⟨h1, h0, fun a ha => h2 a (by omega)⟩, ?_⟩
      have := h2 q (by omega)
      unfold inB at this
      rw [hx]; exact this
theorem seen_next {w : Wt} : (seenW w 0 w.F.length ↔ seenW w 1 0) ∧ (seenW w 1 w.S.length ↔ seenW w 2 0) := by
  unfold seenW
  constructor
  · simp
  · simp
theorem watched_call {nF nS : Bool} {w : Wt} (hF : w.F.length < 2 ^ 62) (hS : w.S.length < 2 ^ 62) {σ : AH} {K : AV → AH → Prop} (hl0 : σ.lim = 0)
    (hK : okWt w → ∀ σ' mp, σ'.lim = 0 → σ.next ≤ σ'.next → (∀ i, i < σ.next → σ'.get i = σ.get i) → σ.next ≤ mp → σ'.get mp = some (.map (mapM w.F.length 3 0) (3 * w.F.length)) → K (.tuple [.agg (cWt nF nS w ++ [.int .i64 w.F.length, .map (some mp)]), .int .i64 0]) σ')
    (hX : ¬ okWt w → ∀ σ' mp, σ'.lim = 0 → σ.next ≤ σ'.next → (∀ i, i < σ.next → σ'.get i = σ.get i) → σ.next ≤ mp → K (.tuple [.agg (cWt nF nS w ++ [.int .i64 w.F.length, .map (some mp)]), .int .i64 73]) σ') :
    Call prog O (.fn 75) [.agg (cWt nF nS w)] σ K := by
  refine @call_of' _ _ pl _ _ _ _ _ _ _ ⟨K⟩ get75 ((oo (by decide)).2 _) rfl ?_
  simp (disch := omega) [cWt, hl0, eqF1, eqF2, -Bool.exists_bool]
  refine lp_loop pl (fun k fr τ => ∃ (i : Nat) (b : Bool), i + k = 2 ∧ fr = ⟨[(1, .ptr (some (σ.next, 0))), (2, .ptr (some (σ.next + 1, 0))), (4, .ptr (some (σ.next + 1 + 1 + 1, 0))), (5, .bool b), (40, .agg [vl (AV.int .i64) nF w.F, vl (AV.int .i64) nS w.S]), (41, .int .i64 i)], []⟩ ∧ HW nF nS w [] 0 σ τ ∧ (b = true ↔ seenW w i 0))
    ⟨2, 0, _, by omega, rfl, ⟨hl0, by simp, fun i hi => ?_, ?_, ?_, ?_, ?_⟩, seen0 rfl⟩ ?_
  · simp (disch := omega) [eqF1, eqF2]
  · simp (disch := omega) [eqF1, eqF2, cWt]
  · simp (disch := omega) [eqF1, eqF2, z11]
  · simp (disch := omega) [eqF1, eqF2]
  · simp (disch := omega) [eqF1, eqF2, c11]
  rintro k _ τ ⟨i, b, hi, rfl, hH, hb⟩
  by_cases hi2 : i < 2
  · obtain rfl | rfl : i = 0 ∨ i = 1 := by omega
    · simp (disch := omega) [Und, hH.lim, -Bool.exists_bool]
      refine lp_loop pl (fun k2 fr ρ => ∃ (q : Nat) (b : Bool), q + k2 = w.F.length ∧ fr = ⟨[(1, .ptr (some (σ.next, 0))), (2, .ptr (some (σ.next + 1, 0))), (4, .ptr (some (σ.next + 1 + 1 + 1, 0))), (5, .bool b), (40, .agg [vl (AV.int .i64) nF w.F, vl (AV.int .i64) nS w.S]), (41, .int .i64 0), (44, vs nF w.F), (45, .int .i64 w.F.length), (46, .int .i64 q)], []⟩ ∧ HW nF nS w [] 0 σ ρ ∧ (b = true ↔ seenW w 0 q)) ⟨w.F.length, 0, b, by omega, rfl, hH, hb⟩ ?_
      clear hH hb
      rintro k2 _ ρ ⟨q, b, hq, rfl, hH, hb⟩
      by_cases hql : q < w.F.length
      · have hst := seen_step (x := nth w.F q) (by omega) rfl hb
        have hl := hH.lim
        cases b with
        | true =>
          simp (disch := omega) [Und, hl, hql, -Bool.exists_bool]
          exact ⟨k2 - 1, by omega, q + 1, by omega, _, ⟨rfl, by omega⟩, hH, by rw [← hst]; simp⟩
        | false =>
          simp (disch := omega) [Und, hl, hql, -Bool.exists_bool]
          exact ⟨k2 - 1, by omega, q + 1, by omega, false, ⟨rfl, by omega⟩, hH, by rw [← hst]; simp⟩
      · obtain rfl : q = w.F.length := by omega
        have hl := hH.lim
        simp (disch := omega) [Und, hl, -Bool.exists_bool]
        exact ⟨k - 1, by omega, 1, by omega, b, ⟨rfl, by omega⟩, hH, hb.trans seen_next.1⟩
    · simp (disch := omega) [Und, hH.lim, -Bool.exists_bool]
      refine lp_loop pl (fun k2 fr ρ => ∃ (q : Nat) (b : Bool), q + k2 = w.S.length ∧ fr = ⟨[(1, .ptr (some (σ.next, 0))), (2, .ptr (some (σ.next + 1, 0))), (4, .ptr (some (σ.next + 1 + 1 + 1, 0))), (5, .bool b), (40, .agg [vl (AV.int .i64) nF w.F, vl (AV.int .i64) nS w.S]), (41, .int .i64 1), (44, vs nS w.S), (45, .int .i64 w.S.length), (46, .int .i64 q)], []⟩ ∧ HW nF nS w [] 0 σ ρ ∧ (b = true ↔ seenW w 1 q)) ⟨w.S.length, 0, b, by omega, rfl, hH, hb⟩ ?_
      clear hH hb
      rintro k2 _ ρ ⟨q, b, hq, rfl, hH, hb⟩
      by_cases hql : q < w.S.length
      · have hst := seen_step (x := nth w.S q) (by omega) rfl hb
        have hl := hH.lim
        cases b with
        | true =>
          simp (disch := omega) [Und, hl, hql, -Bool.exists_bool]
          exact ⟨k2 - 1, by omega, q + 1, by omega, _, ⟨rfl, by omega⟩, hH, by rw [← hst]; simp⟩
        | false =>
          simp (disch := omega) [Und, hl, hql, -Bool.exists_bool]
          exact ⟨k2 - 1, by omega, q + 1, by omega, false, ⟨rfl, by omega⟩, hH, by rw [← hst]; simp⟩
      · obtain rfl : q = w.S.length := by omega
        have hl := hH.lim
        simp (disch := omega) [Und, hl, -Bool.exists_bool]
        exact ⟨k - 1, by omega, 2, by omega, b, ⟨rfl, by omega⟩, hH, hb.trans seen_next.2⟩
  · obtain rfl : i = 2 := by omega
    have hl := hH.lim
    have hg0 := hH.g0
    have m0 := AH.get_lt hg0
    simp (disch := omega) [Und, hl, hg0, m0, cWt, -Bool.exists_bool]
    refine lp_loop pl (fun k2 fr ρ => ∃ (q : Nat) (b : Bool), q + k2 = 3 ∧ fr = ⟨[(2, .ptr (some (σ.next + 1, 0))), (4, .ptr (some (σ.next + 1 + 1 + 1, 0))), (5, .bool b), (58, .agg [.int .i64 w.r0.lo, .int .i64 w.r0.hi, .int .i64 w.r1.lo, .int .i64 w.r1.hi, .int .i64 w.r2.lo, .int .i64 w.r2.hi]), (59, .int .i64 q)], []⟩ ∧ HW nF nS w [] 0 σ ρ ∧ (b = true ↔ seenW w 2 0 ∧ ∀ a, a < q → rtOK (w.rt a))) ⟨3, 0, b, by omega, rfl, hH, hb.trans ⟨fun h => ⟨h, fun a ha => by omega⟩, fun h => h.1⟩⟩ ?_
    clear hH hb hl hg0 m0
    rintro k2 _ ρ ⟨q, b, hq, rfl, hH, hb⟩
    have hl := hH.lim
    by_cases hq3 : q < 3
    · have nxt : ∀ (z : Int), z = (q : Int) + 1 → ∀ (b' : Bool) (ρ' : AH), b' = (b && decide (rtOK (w.rt q))) → HW nF nS w [] 0 σ ρ' → ∃ j, j < k2 ∧ ∃ q_1, q_1 + j = 3 ∧ ∃ x, (b' = x ∧ z = (q_1 : Nat)) ∧ HW nF nS w [] 0 σ ρ' ∧ (x = true ↔ seenW w 2 0 ∧ ∀ a, a < q_1 → rtOK (w.rt a)) := fun z hz b' ρ' hb' hH' => by
        refine ⟨k2 - 1, by omega, q + 1, by omega, b', ⟨rfl, by omega⟩, hH', ?_⟩
        rw [hb', Bool.and_eq_true, hb, decide_eq_true_eq]
        constructor
        · rintro ⟨⟨e1, e2⟩, e3⟩
          refine ⟨e1, fun a ha => ?_⟩
          by_cases e : a = q
          · rw [e]; exact e3
          · exact e2 a (by omega)
        · rintro ⟨e1, e2⟩
          exact ⟨⟨e1, fun a ha => e2 a (by omega)⟩, e2 q (by omega)⟩
      obtain rfl | rfl | rfl : q = 0 ∨ q = 1 ∨ q = 2 := by omega
      · have hgr : HW nF nS w [] 0 σ ((ρ.push (.cells [.int .i64 0, .int .i64 0])).set ρ.next (.cells [.int .i64 w.r0.lo, .int .i64 w.r0.hi])) := hH.grow rfl (by simp) fun i hi => by rw [AH.get_set_other _ _ _ _ (by omega), AH.get_push_old _ _ _ (by omega)]
        cases b with
        | true =>
          simp (disch := omega) [Und, hl, -Bool.exists_bool]
          exact nxt 1 rfl _ _ (by rw [Bool.eq_iff_iff]; simp [rtOK, Wt.rt]) hgr
        | false =>
          simp (disch := omega) [Und, hl, -Bool.exists_bool]
          obtain ⟨j, j1, q, q1, x, ⟨y1, y2⟩, y3⟩ := nxt 1 rfl false _ (by simp) hgr
          exact ⟨j, j1, q, q1, x, ⟨y1.symm, y2⟩, y3⟩
      · have hgr : HW nF nS w [] 0 σ ((ρ.push (.cells [.int .i64 0, .int .i64 0])).set ρ.next (.cells [.int .i64 w.r1.lo, .int .i64 w.r1.hi])) := hH.grow rfl (by simp) fun i hi => by rw [AH.get_set_other _ _ _ _ (by omega), AH.get_push_old _ _ _ (by omega)]
        cases b with
        | true =>
          simp (disch := omega) [Und, hl, -Bool.exists_bool]
          exact nxt 2 rfl _ _ (by rw [Bool.eq_iff_iff]; simp [rtOK, Wt.rt]) hgr
        | false =>
          simp (disch := omega) [Und, hl, -Bool.exists_bool]
          obtain ⟨j, j1, q, q1, x, ⟨y1, y2⟩, y3⟩ := nxt 2 rfl false _ (by simp) hgr
          exact ⟨j, j1, q, q1, x, ⟨y1.symm, y2⟩, y3⟩
      · have hgr : HW nF nS w [] 0 σ ((ρ.push (.cells [.int .i64 0, .int .i64 0])).set ρ.next (.cells [.int .i64 w.r2.lo, .int .i64 w.r2.hi])) := hH.grow rfl (by simp) fun i hi => by rw [AH.get_set_other _ _ _ _ (by omega), AH.get_push_old _ _ _ (by omega)]
        cases b with
        | true =>
          simp (disch := omega) [Und, hl, -Bool.exists_bool]
          exact nxt 3 rfl _ _ (by rw [Bool.eq_iff_iff]; simp [rtOK, Wt.rt]) hgr
        | false =>
          simp (disch := omega) [Und, hl, -Bool.exists_bool]
          obtain ⟨j, j1, q, q1, x, ⟨y1, y2⟩, y3⟩ := nxt 3 rfl false _ (by simp) hgr
          exact ⟨j, j1, q, q1, x, ⟨y1.symm, y2⟩, y3⟩
    · obtain rfl : q = 3 := by omega
      rw [okW_iff] at hb
      have h1 := hH.g1
      have h3 := hH.g3
      have l1 := AH.get_lt h1
      have l3 := AH.get_lt h3
      cases b with
      | false =>
        have hok : ¬ okWt w := fun h => by have := hb.2 h; cases this
        have hx := hH.nx
        simp (disch := omega) [Und, hl, h1, h3, l1, l3, c11, z11, eqF1, eqF2, -Bool.exists_bool]
        exact hX hok _ (σ.next + 1 + 1) hl (by show σ.next ≤ ρ.next; omega) (fun i hi => by rw [AH.get_set_other _ _ _ _ (by omega)]; exact hH.old i hi) (by omega)
      | true =>
        have hok : okWt w := hb.1 rfl
        have h20 := hok.1.1
        simp (disch := omega) [Und, hl, -Bool.exists_bool]
        refine lp_loop pl (fun k fr τ => ∃ i : Nat, i + k = 3 ∧ fr = ⟨[(2, .ptr (some (σ.next + 1, 0))), (4, .ptr (some (σ.next + 1 + 1 + 1, 0))), (71, .int .i64 i)], []⟩ ∧ HW nF nS w (mapM w.F.length i 0) (i * w.F.length) σ τ)
          ⟨3, 0, by omega, rfl, by simpa [mapM] using hH⟩ ?_
        clear hH hl h1 h3 l1 l3
        rintro k _ τ ⟨i, hi, rfl, hH⟩
        have hl := hH.lim
        have h1 := hH.g1
        have h3 := hH.g3
        have l1 := AH.get_lt h1
        have l3 := AH.get_lt h3
        by_cases hi3 : i < 3
        · have hi3' : (i : Int) < 3 := by omega
          simp (disch := omega) [Und, hl, hi3', h3, l3, c11, -Bool.exists_bool]
          refine lp_loop pl (fun k2 fr ρ => ∃ d : Nat, d + k2 = w.F.length ∧ fr = ⟨[(2, .ptr (some (σ.next + 1, 0))), (4, .ptr (some (σ.next + 1 + 1 + 1, 0))), (12, .int .i64 i), (71, .int .i64 i), (75, .int .i64 w.F.length), (76, .int .i64 d)], []⟩ ∧ HW nF nS w (mapM w.F.length i d) (i * w.F.length + d) σ ρ)
            ⟨w.F.length, 0, by omega, rfl, hH⟩ ?_
          clear hH hl h1 h3 l1 l3
          rintro k2 _ ρ ⟨d, hd, rfl, hH⟩
          have hl := hH.lim
          have h2 := hH.g2
          have h3 := hH.g3
          have l2 := AH.get_lt h2
          have l3 := AH.get_lt h3
          have hx := hH.nx
          by_cases hdl : d < w.F.length
          · obtain ⟨m1, m2, _⟩ := mapM_ok w.F.length i d
            have hup := upd_M (k := i) (d := d) (σ := ρ) (by omega) h2 m1 (fun h => by have := (m2 i d).1 h; omega)
            rw [← mapM_step] at hup
            unfold kM at hup
            have e20 : ((i * 20 + d : Nat) : Int) = (i : Int) * 20 + d := by omega
            rw [e20] at hup
            simp (disch := omega) [Und, hl, h3, l3, c11, hdl, ahop_mapUpd, hup, -Bool.exists_bool]
            refine ⟨k2 - 1, by omega, d + 1, by omega, by omega, ⟨hl, hx, fun j hj => ?_, ?_, ?_, ?_, ?_⟩⟩
            · rw [AH.get_set_other _ _ _ _ (by omega)]; exact hH.old j hj
            · rw [AH.get_set_other _ _ _ _ (by omega)]; exact hH.g0
            · rw [AH.get_set_other _ _ _ _ (by omega)]; exact hH.g1
            · rw [AH.get_set_same _ _ _ l2]; rfl
            · rw [AH.get_set_other _ _ _ _ (by omega)]; exact h3
          · obtain rfl : d = w.F.length := by omega
            simp (disch := omega) [Und, hl, -Bool.exists_bool]
            exact ⟨k - 1, by omega, i + 1, by omega, by omega, by rw [mapM_next, Nat.succ_mul]; exact hH⟩
        · obtain rfl : i = 3 := by omega
          have hx := hH.nx
          simp (disch := omega) [Und, hl, h1, h3, l1, l3, c11, z11, eqF1, eqF2, -Bool.exists_bool]
          exact hK hok _ (σ.next + 1 + 1) hl (by show σ.next ≤ τ.next; omega) (fun i hi => by rw [AH.get_set_other _ _ _ _ (by omega)]; exact hH.old i hi) (by omega) (by rw [AH.get_set_other _ _ _ _ (by omega)]; exact hH.g2)
end Go.Oct.Clock
