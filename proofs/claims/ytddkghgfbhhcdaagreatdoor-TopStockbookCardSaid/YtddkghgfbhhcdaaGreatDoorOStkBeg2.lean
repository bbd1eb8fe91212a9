/- From which day on a plan can begin: the program's answer, and the law. -/
import Derived.Test.YtddkghgfbhhcdaaGreatDoorOStkBeg
import Derived.Test.YtddkghgfbhhcdaaGreatDoorOStkMen
set_option maxRecDepth 100000
set_option maxHeartbeats 8000000
set_option linter.unusedVariables false
set_option linter.unusedSimpArgs false
namespace Go.Oct.Stk.Sh
open Go.Oct
theorem pl_tk {m : Nat} (h : m < 2) : pl.contains (tk m) = false ∧ pl.contains (fi m) = false ∧ pl.contains (co m) = false := by
  rcases two h with rfl | rfl <;> decide
def mid (s : St) (B : Int) (k0 k : Nat) (d : Nat) : Int := if k0 < k then max B (dK s k - d) else B
theorem Begins_ok (nl nP nL : Bool) (l : List Pc) (men : Int) (P : Plan) (s : St) (hx : l.length < 2 ^ 62) (hP : P.length < 2 ^ 62) (hr : ∀ d, d < P.length → (row P d).length < 2 ^ 62) (hL : s.L.length < 2 ^ 62) {b e : Int} (hv : BegV l men P s b e) :
    ans prog O 23 [vl ePc nl l, .int .i64 men, vl eRow nP P, .agg [.int .i64 s.b, .int .i64 s.v, vl ePc nL s.L]] = some (.tuple [.int .i64 b, .int .i64 e]) := by
  refine fn_of' pl get23 (oo (by decide)) rfl rfl ?_
  by_cases h : askV l men = 0
  · obtain ⟨ho, hm⟩ := askV_zero h
    have hl := ho.1
    have hf := fits_ok nl nP l men P ho hP hr
    by_cases hp : okPlan l men P
    · rw [decide_eq_true hp] at hf
      by_cases hs : okSt s
      · have hpc := pieces_ok nl l ho
        simp (disch := omega) [h, hf, hs, hpc, -Bool.exists_bool]
        refine lp_loop pl (fun k fr σ => ∃ (m : Nat) (B : Int), m + k = 2 ∧ Bmax l s P (fun m' d' => m' < m ∧ d' < P.length) B ∧ (∀ m' d', m' < m → d' < P.length → kd l s P m' (d' + 1) ≤ s.L.length) ∧
            fr = ⟨[(2, vl eRow nP P), (7, .ptr (some (0, 0))), (11, vl eP5 false (pcsL l l.length)), (12, .int .i64 B), (38, .agg six), (39, .int .i64 m)], []⟩ ∧ σ.lim = 0 ∧ σ.get 0 = some (.cells [.int .i64 s.b, .int .i64 s.v, vl ePc nL s.L]))
          ⟨2, 0, 0, rfl, (Bmax.none l s P).congr fun m d => ⟨fun h => h.elim, fun h => by omega⟩, fun m d' h _ => by omega, rfl, by simp, by simp⟩ ?_
        rintro k _ σ ⟨m, B, hmk, hB, hK, rfl, hl0, hg⟩
        have gl := AH.get_lt hg
        by_cases hm2 : m < 2
        · have hsix := six_at hm2
          have hfi := fi_ok hm2 nL s
          obtain ⟨p1, p2, p3⟩ := pl_tk hm2
          simp at p1 p2 p3
          have hm3 : (m : Int) < 2 := by omega
          have hfb := cm_bd hs (m := m) (b := 0) (Nat.zero_le _)
          simp (disch := omega) [Und, hl0, hm3, hg, gl, hsix, hfi, p1, p2, p3, eqF1, eqF2, -aidxV_agg, -Bool.exists_bool]
          have ec0 : fs m s = cm m s 0 := rfl
          rw [ec0]
          have z0 : kd l s P m 0 = 0 := kd_zero hs
          refine lp_loop pl (fun k fr τ => ∃ (d : Nat) (B : Int), d + k = P.length ∧ Bmax l s P (fun m' d' => (m' < m ∧ d' < P.length) ∨ (m' = m ∧ d' < d)) B ∧ (∀ m' d', (m' < m ∧ d' < P.length) ∨ (m' = m ∧ d' < d) → kd l s P m' (d' + 1) ≤ s.L.length) ∧
              fr = ⟨[(2, vl eRow nP P), (7, .ptr (some (0, 0))), (11, vl eP5 false (pcsL l l.length)), (12, .int .i64 B), (14, .ptr (some (σ.next, 0))), (15, .int .i64 (wsum l m (flat P d))), (16, .int .i64 (cm m s (kd l s P m d))), (17, .int .i64 (kd l s P m d)), (38, .agg six), (39, .int .i64 m), (46, vl eRow nP P), (47, .int .i64 P.length), (48, .int .i64 d)], []⟩ ∧
              τ.lim = 0 ∧ τ.get 0 = some (.cells [.int .i64 s.b, .int .i64 s.v, vl ePc nL s.L]) ∧ τ.get σ.next = some (.cells [.func (.func (tk m)) [] [], .func (.func (fi m)) [] [], .func (.func (co m)) [] []]))
            ⟨P.length, 0, B, by omega, hB.congr fun m' d' => ⟨.inl, fun h => h.elim id fun h => by omega⟩, fun m' d' h => h.elim (fun h => hK m' d' h.1 h.2) fun h => by omega, by rw [z0]; rfl, hl0, by simp (disch := omega) [eqF1, hg], by simp⟩ ?_
          generalize ha : σ.next = a at *
          clear hg hl0 hB hK
          rintro kq _ τ ⟨d, B, hd, hB, hK, rfl, tl0, t0, ta⟩
          have t0l := AH.get_lt t0
          have tal := AH.get_lt ta
          have hkd0 : kd l s P m d ≤ s.L.length := by
            by_cases e0 : d = 0
            · rw [e0, z0]; omega
            · have := hK m (d - 1) (.inr ⟨rfl, by omega⟩)
              rwa [show d - 1 + 1 = d by omega] at this
          by_cases hdl : d < P.length
          · have hrow : (nth P d).2 = row P d := rfl
            have hrd := hr d hdl
            simp (disch := omega) [Und, tl0, hdl, hrow, -Bool.exists_bool]
            refine lp_loop pl (fun k fr ρ => ∃ e : Nat, e + k = (row P d).length ∧
                fr = ⟨[(2, vl eRow nP P), (7, .ptr (some (0, 0))), (11, vl eP5 false (pcsL l l.length)), (12, .int .i64 B), (14, .ptr (some (a, 0))), (15, .int .i64 (wsum l m (items P d e))), (16, .int .i64 (cm m s (kd l s P m d))), (17, .int .i64 (kd l s P m d)), (18, .int .i64 d), (38, .agg six), (39, .int .i64 m), (46, vl eRow nP P), (47, .int .i64 P.length), (48, .int .i64 d),
                  (53, vl (AV.int .i64) (nth P d).1 (row P d)), (54, .int .i64 (row P d).length), (55, .int .i64 e)], []⟩ ∧
                ρ.lim = 0 ∧ ρ.get 0 = some (.cells [.int .i64 s.b, .int .i64 s.v, vl ePc nL s.L]) ∧ ρ.get a = some (.cells [.func (.func (tk m)) [] [], .func (.func (fi m)) [] [], .func (.func (co m)) [] []]))
              ⟨(row P d).length, 0, by omega, by rw [items_zero]; rfl, tl0, t0, ta⟩ ?_
            clear t0 ta tl0 t0l tal
            rintro k2 _ ρ ⟨e2, he2, rfl, rl0, r0, ra⟩
            have r0l := AH.get_lt r0
            have ral := AH.get_lt ra
            have hse := hp.seen hdl (e := e2) (by omega)
            have hil := hse.len
            have w0 := wsum_bd ho (m := m) fun x hx => hse.rng hx
            by_cases hel : e2 < (row P d).length
            · have hx := ((hp.day d hdl).2 e2 hel).1
              have a0 := am_bd ho (m := m) hx
              have s0 : wsum l m (items P d (e2 + 1)) = wsum l m (items P d e2) + am m (nth l (nth (row P d) e2).toNat) := by rw [items_succ hel, wsum_app, wsum_one]
              have hx2 : nth (row P d) e2 < l.length := by omega
              have hpn := pcsL_nth (l := l) (n := l.length) (i := (nth (row P d) e2).toNat) (by omega)
              have htk : ∀ ix lv : Int, _ := fun ix lv => tk_ok hm2 ⟨nth l (nth (row P d) e2).toNat, ix, lv⟩
              simp only at htk
              simp (disch := omega) [Und, rl0, hdl, hrow, hel, hx.1, hx2, r0, r0l, ra, ral, hpn, p5At, p1, p2, p3, htk, eqF1, eqF2, -Bool.exists_bool]
              exact ⟨k2 - 1, by omega, e2 + 1, by omega, s0.symm, by omega⟩
            · obtain rfl : e2 = (row P d).length := by omega
              rw [items_all] at w0 hil
              simp (disch := omega) [Und, rl0, items_all, -Bool.exists_bool]
              refine lp_loop pl (fun k fr ρ => ∃ (q : Nat) (ev : Env), q + k = s.L.length + 1 ∧ q ≤ s.L.length ∧ kd l s P m d ≤ q ∧ q ≤ kd l s P m (d + 1) ∧
                  fr = ⟨(2, vl eRow nP P) :: (7, .ptr (some (0, 0))) :: (11, vl eP5 false (pcsL l l.length)) :: (12, .int .i64 (mid s B (kd l s P m d) q d)) :: (14, .ptr (some (a, 0))) :: (15, .int .i64 (wsum l m (flat P (d + 1)))) :: (16, .int .i64 (cm m s q)) :: (17, .int .i64 q) :: (18, .int .i64 d) :: (38, .agg six) :: (39, .int .i64 m) :: (46, vl eRow nP P) :: (47, .int .i64 P.length) :: (48, .int .i64 d) :: ev, []⟩ ∧
                  ρ.lim = 0 ∧ ρ.get 0 = some (.cells [.int .i64 s.b, .int .i64 s.v, vl ePc nL s.L]) ∧ ρ.get a = some (.cells [.func (.func (tk m)) [] [], .func (.func (fi m)) [] [], .func (.func (co m)) [] []]))
                ⟨s.L.length + 1 - kd l s P m d, kd l s P m d, _, by omega, hkd0, Nat.le_refl _, kd_mono ho hp hdl, by unfold mid; rw [if_neg (Nat.lt_irrefl _)], rl0, r0, ra⟩ ?_
              clear r0 ra rl0 r0l ral
              rintro k3 _ ρ ⟨q, ev, hq, hqn, hq0, hq1, rfl, rl0, r0, ra⟩
              have r0l := AH.get_lt r0
              have ral := AH.get_lt ra
              have hki := kk_iff hs (m := m) (w := wsum l m (flat P (d + 1))) hqn
              have hke : kk m s (wsum l m (flat P (d + 1))) = kd l s P m (d + 1) := rfl
              rw [hke] at hki
              have cb := cm_bd hs (m := m) hqn
              have hBn := hB.nn
              have hBh := hB.hi
              have hlen12 := hs.1.2
              by_cases hlt : q < kd l s P m (d + 1)
              · have hc := hki.2 hlt
                by_cases hqe : q = s.L.length
                · obtain ⟨e5, e6⟩ := hv.bad h hp hs hm2 hdl (by omega)
                  subst e5 e6
                  have hqe2 : (q : Int) = s.L.length := by omega
                  simp (disch := omega) [Und, rl0, hc, r0, hqe2, -Bool.exists_bool]
                · have hqe2 : ¬ (q : Int) = s.L.length := by omega
                  have hql : q < s.L.length := by omega
                  have hco := co_ok hm2 (nth s.L q)
                  have hlot := hs.2 q hql
                  unfold okLot at hlot
                  have hlm := lot_mono hs (a := q) (b := q) (Nat.le_refl _) hql
                  have ham : 0 ≤ am m (nth s.L q) ∧ am m (nth s.L q) ≤ 100000 := by unfold am; split <;> omega
                  have ec1 : cm m s (q + 1) = cm m s q + am m (nth s.L q) := rfl
                  have ed : dK s (q + 1) = (nth s.L q).into := by unfold dK; rw [if_neg (by omega), Nat.add_sub_cancel]
                  have em : max (mid s B (kd l s P m d) q d) ((nth s.L q).into - d) = mid s B (kd l s P m d) (q + 1) d := by
                    unfold mid
                    rw [if_pos (show kd l s P m d < q + 1 by omega), ed]
                    by_cases e7 : kd l s P m d < q
                    · rw [if_pos e7]
                      have := dK_mono hs (a := q) (b := q + 1) (by omega) (by omega)
                      rw [ed] at this
                      omega
                    · rw [if_neg e7]
                  simp (disch := omega) [Und, rl0, hc, r0, r0l, ra, ral, hqe2, hql, p1, p2, p3, hco, em, eqF1, eqF2, -Bool.exists_bool]
                  exact ⟨k3 - 1, by omega, q + 1, by omega, by omega, by omega, by omega, rfl, ec1.symm, by omega⟩
              · have hc : ¬ cm m s q < wsum l m (flat P (d + 1)) := fun hc => hlt (hki.1 hc)
                obtain rfl : q = kd l s P m (d + 1) := by omega
                have hst := (hB.step (m := m) (d := d) hs hqn).congr (E := fun m' d' => (m' < m ∧ d' < P.length) ∨ (m' = m ∧ d' < d + 1)) fun m' d' => by
                  constructor
                  · rintro ((h | h) | h)
                    · exact .inl h
                    · exact .inr ⟨h.1, by omega⟩
                    · exact .inr ⟨h.1, by omega⟩
                  · rintro (h | h)
                    · exact .inl (.inl h)
                    · by_cases e8 : d' = d
                      · exact .inr ⟨h.1, e8⟩
                      · exact .inl (.inr ⟨h.1, by omega⟩)
                have em : (if 0 < kd l s P m (d + 1) then max B (dK s (kd l s P m (d + 1)) - d) else B) = mid s B (kd l s P m d) (kd l s P m (d + 1)) d := by
                  unfold mid
                  by_cases e7 : kd l s P m d < kd l s P m (d + 1)
                  · rw [if_pos e7, if_pos (by omega)]
                  · rw [if_neg e7]
                    have e9 : kd l s P m (d + 1) = kd l s P m d := by omega
                    by_cases e8 : 0 < kd l s P m (d + 1)
                    · rw [if_pos e8]
                      have hd0 : d ≠ 0 := fun e0 => by rw [e9, e0, z0] at e8; omega
                      have hg := hB.ge m (d - 1) (.inr ⟨rfl, by omega⟩)
                      rw [show d - 1 + 1 = d by omega] at hg
                      have := hg (by omega)
                      rw [e9]
                      omega
                    · rw [if_neg e8]
                rw [em] at hst
                simp (disch := omega) [Und, rl0, hc, -Bool.exists_bool]
                refine ⟨kq - 1, by omega, d + 1, by omega, _, hst, fun m' d' h1 => ?_, ⟨rfl, rfl, rfl, rfl, by omega⟩, r0, ra⟩
                rcases h1 with h1 | ⟨h1, h2⟩
                · exact hK m' d' (.inl h1)
                · by_cases e8 : d' = d
                  · subst e8 h1; exact hqn
                  · exact hK m' d' (.inr ⟨h1, by omega⟩)
          · obtain rfl : d = P.length := by omega
            simp (disch := omega) [Und, tl0, -Bool.exists_bool]
            refine ⟨k - 1, by omega, m + 1, by omega, B, hB.congr fun m' d' => ?_, fun m' d' h1 h2 => hK m' d' ?_, ⟨rfl, by omega⟩, t0⟩
            · constructor
              · rintro (h | h) <;> omega
              · rintro ⟨h1, h2⟩
                by_cases e8 : m' = m
                · exact .inr ⟨e8, h2⟩
                · exact .inl ⟨by omega, h2⟩
            · by_cases e8 : m' = m
              · exact .inr ⟨e8, h2⟩
              · exact .inl ⟨by omega, h2⟩
        · obtain rfl : m = 2 := by omega
          obtain ⟨rfl, rfl⟩ := hv.good h hp hs hK hB
          simp (disch := omega) [Und, hl0, -Bool.exists_bool]
      · have : b = 0 ∧ e = 103 := by
          rcases hv with h1 | ⟨_, h1⟩ | ⟨_, _, h1⟩ | ⟨_, _, h1, _, _, _, _, _⟩ | ⟨_, _, h1, _, _, _⟩
          · exact absurd h h1
          · exact absurd hp h1
          · exact ⟨rfl, rfl⟩
          · exact absurd h1 hs
          · exact absurd h1 hs
        obtain ⟨rfl, rfl⟩ := this
        simp (disch := omega) [h, hf, hs]
    · rw [decide_eq_false hp] at hf
      have : b = 0 ∧ e = 102 := by
        rcases hv with h1 | ⟨_, h1⟩ | ⟨_, h1, _⟩ | ⟨_, h1, _, _, _, _, _, _⟩ | ⟨_, h1, _, _, _, _⟩
        · exact absurd h h1
        · exact ⟨rfl, rfl⟩
        · exact absurd h1 hp
        · exact absurd h1 hp
        · exact absurd h1 hp
      obtain ⟨rfl, rfl⟩ := this
      simp (disch := omega) [h, hf]
  · have : b = 0 ∧ e = askV l men := by
      rcases hv with h1 | ⟨h1, _⟩ | ⟨h1, _, _⟩ | ⟨h1, _, _, _, _, _, _, _⟩ | ⟨h1, _, _, _, _, _⟩
      · exact ⟨rfl, rfl⟩
      · exact absurd h1 h
      · exact absurd h1 h
      · exact absurd h1 h
      · exact absurd h1 h
    obtain ⟨rfl, rfl⟩ := this
    simp (disch := omega) [h]
end Go.Oct.Stk.Sh
