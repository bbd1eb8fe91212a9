/- Logs: to where a run leads, as the specification finds it: the walk. -/
import Derived.Test.YtddclpecmjibkaaDoorOFixRefV
set_option maxRecDepth 100000
set_option maxHeartbeats 8000000
set_option linter.unusedVariables false
set_option linter.unusedSimpArgs false
namespace Go.Oct.Fix
open Go.Oct
theorem rmoved_call (s : Stp) (f : Nat → Bool) (back : Bool) (h : okStp s) (hk : s.k = 2) {σ0 : AH} {o : Nat} (hlm : σ0.lim ≤ σ0.next) (hgo : σ0.get o = some (.cells (seaC f))) {K : AV → AH → Prop}
    (hK : ∀ o' σ', σ0.next ≤ o' → Only [] σ0 σ' → σ'.get o' = some (.cells (seaC fun n => bif back then mb s f n else mv s f n)) → K (sS o') σ') : Call prog O (.fn 98) [eStp s, sS o, .bool back] σ0 K := by
  have lo0 := AH.get_lt hgo
  have hb : (-60 ≤ s.elo ∧ s.elo ≤ s.ehi ∧ s.ehi ≤ 60) ∧ -60 ≤ s.nlo ∧ s.nlo ≤ s.nhi ∧ s.nhi ≤ 60 := by
    rcases h with h | h | h
    · omega
    · exact ⟨h.2.2.2.1, h.2.2.2.2.1⟩
    · omega
  obtain ⟨⟨b1, b2, b3⟩, b4, b5, b6⟩ := hb
  refine @call_of' _ _ pl _ _ _ _ _ _ _ ⟨K⟩ get98 ((oo (by decide)).2 _) rfl ?_
  have m1 : σ0.lim ≤ σ0.next + 1 := by omega
  have m2 : σ0.lim ≤ σ0.next + 2 := by omega
  simp (disch := omega) [eStp, sS, topBytes, Und, hlm, m1, m2, -Bool.exists_bool]
  generalize hT0 : AH.push (AH.push (AH.push σ0 _) _) _ = T0
  have x0 : T0.lim = σ0.lim := by rw [← hT0]; rfl
  have xn : T0.next = σ0.next + 3 := by rw [← hT0]; rfl
  have xg : ∀ z, z < σ0.next → T0.get z = σ0.get z := fun z hz => by rw [← hT0]; simp (disch := omega) [eqf1, eqf2]
  have xs : T0.get σ0.next = some (.cells (eStp s).cells) := by rw [← hT0]; simp (disch := omega) [eqf1, eqf2]
  have xb : T0.get (σ0.next + 1) = some (.cells (seaC fun _ => false)) := by rw [← hT0]; simp (disch := omega) [eqf1, eqf2]
  have xc : T0.get (σ0.next + 2) = some (.cells (seaC fun _ => false)) := by rw [← hT0]; simp (disch := omega) [eqf1, eqf2]
  have xo : T0.get o = some (.cells (seaC f)) := (xg o lo0).trans hgo
  clear hT0 m1 m2
  obtain ⟨a0, ha0⟩ : ∃ a0, a0 = σ0.next := ⟨_, rfl⟩
  obtain ⟨a1, ha1⟩ : ∃ a1, a1 = σ0.next + 1 := ⟨_, rfl⟩
  obtain ⟨a2, ha2⟩ : ∃ a2, a2 = σ0.next + 2 := ⟨_, rfl⟩
  obtain ⟨lm, hlm0⟩ : ∃ lm, lm = σ0.lim := ⟨_, rfl⟩
  rw [← hlm0] at x0
  rw [show σ0.next + 1 + 1 = a2 by omega, ← ha1, ← ha0]
  rw [← ha0] at xs
  rw [← ha1] at xb
  rw [← ha2] at xc
  refine lp_loop pl (fun k fr σ => ∃ i : Nat, i + k = 3600 ∧ fr = ⟨[(1, .slice (some (o, 0)) 3600 (.ex 3600)), (2, .bool back), (3, .ptr (some (a0, 0))), (7, .slice (some (a1, 0)) 3600 (.ex 3600)), (8, .slice (some (a2, 0)) 3600 (.ex 3600)), (9, .int .i64 i)], []⟩ ∧ σ.lim = lm ∧ T0.next ≤ σ.next ∧ (∀ z, z < T0.next → z ≠ a1 → σ.get z = T0.get z) ∧ σ.get a1 = some (.cells (seaC fun m => decide (m < i) && eB s back f (s.ehi + 1) m)))
    ⟨3600, 0, by omega, rfl, x0, Nat.le_refl _, fun _ _ _ => rfl, xb.trans (congrArg (fun c => some (AObj.cells c)) (seaC_congr fun m _ => by simp))⟩ ?_
  rintro k _ σ ⟨i, hi, rfl, s0, sn, sg, sgD⟩
  have sgs0 := (sg a0 (by omega) (by omega)).trans xs
  have sgq := (sg o (by omega) (by omega)).trans xo
  have l0 := AH.get_lt sgs0
  have lD := AH.get_lt sgD
  have lq := AH.get_lt sgq
  by_cases hi3 : i < 3600
  · have hi3' : (i : Int) < 3600 := by omega
    have n0' : ¬ a0 = σ.next := by omega
    have n1' : ¬ a1 = σ.next := by omega
    have n2' : ¬ a2 = σ.next := by omega
    have hl0 : lm ≤ σ.next := by omega
    simp (disch := omega) [Und, eqf1, eqf2, s0, sgs0, sgD, l0, lD, n0', n1', n2', hl0, hi3', -Bool.exists_bool, -getElem?_pos]
    generalize hT : AH.set _ σ.next _ = T
    have t0 : T.lim = lm := by rw [← hT]; exact s0
    have tn : T.next = σ.next + 1 := by rw [← hT]; rfl
    have tg : ∀ z, z < σ.next → T.get z = σ.get z := fun z hz => by rw [← hT, AH.get_set_other _ _ _ _ (by omega), AH.get_push_old _ _ _ (by omega)]
    have tx : T.get σ.next = some (.cells [.int .i64 ((i : Int) / 60), .int .i64 ((i : Int) % 60)]) := by rw [← hT, AH.get_set_same _ _ _ (Nat.lt_succ_self _)]
    clear hT
    have tgs := (tg a0 (by omega)).trans sgs0
    have tgq := (tg o (by omega)).trans sgq
    have tgD := (tg a1 (by omega)).trans sgD
    obtain ⟨tot, htot⟩ : ∃ tot : Nat, s.ehi - s.elo + 1 = tot := ⟨(s.ehi - s.elo + 1).toNat, by omega⟩
    refine lp_loop pl (fun r fr υ => ∃ j : Nat, j + r = tot ∧ fr = ⟨[(1, .slice (some (o, 0)) 3600 (.ex 3600)), (2, .bool back), (3, .ptr (some (a0, 0))), (7, .slice (some (a1, 0)) 3600 (.ex 3600)), (8, .slice (some (a2, 0)) 3600 (.ex 3600)), (9, .int .i64 i), (10, .ptr (some (σ.next, 0))), (11, .int .i64 (s.elo + j))], []⟩ ∧ υ.lim = lm ∧ T.next ≤ υ.next ∧ (∀ z, z < T.next → z ≠ a1 → υ.get z = T.get z) ∧ υ.get a1 = some (.cells (seaC fun m => if m = i then eB s back f (s.elo + j) i else decide (m < i) && eB s back f (s.ehi + 1) m)))
      ⟨tot, 0, by omega, by simp, t0, Nat.le_refl _, fun z _ _ => rfl, tgD.trans (congrArg (fun c => some (AObj.cells c)) (seaC_congr fun m _ => by
        by_cases e : m = i
        · subst e
          have := eB_none (s := s) (back := back) (f := f) (n := m)
          simp [this]
        · simp [e]))⟩ ?_
    rintro r _ υ ⟨j, hj, rfl, u0, un, ug, ud⟩
    have ux := (ug σ.next (by omega) (by omega)).trans tx
    have us := (ug a0 (by omega) (by omega)).trans tgs
    have uq := (ug o (by omega) (by omega)).trans tgq
    simp only [cells_eStp] at us
    have lux := AH.get_lt ux
    have lus := AH.get_lt us
    have luq := AH.get_lt uq
    have lud := AH.get_lt ud
    have q0 : ¬ a0 = υ.next := by omega
    have q1 : ¬ a1 = υ.next := by omega
    have q2 : ¬ o = υ.next := by omega
    have q3 : ¬ σ.next = υ.next := by omega
    have q4 : ¬ o = a1 := by omega
    have hl1 : lm ≤ a1 := by omega
    have hl2 : lm ≤ υ.next := by omega
    have hl3 : lm ≤ υ.next + 1 := by omega
    by_cases hjt : j < tot
    · have hjt' : s.elo + (j : Int) ≤ s.ehi := by omega
      have hsu := eB_succ (s := s) (back := back) (f := f) (n := i) (b := s.elo + j) (by omega)
      have hsl := seaC_len (fun m => if m = i then eB s back f (s.elo + j) i else decide (m < i) && eB s back f (s.ehi + 1) m)
      have hsg := seaC_get (f := fun m => if m = i then eB s back f (s.elo + j) i else decide (m < i) && eB s back f (s.ehi + 1) m) hi3
      simp only [if_true] at hsg
      have hset := fun b => seaC_set (fun m => if m = i then eB s back f (s.elo + j) i else decide (m < i) && eB s back f (s.ehi + 1) m) i b
      cases hev : eB s back f (s.elo + j) i
      · rw [hev] at hsu
        have hsg2 := hsg.trans (by rw [hev] : _ = some (AV.bool false))
        cases back
        · obtain ⟨x, hx⟩ : ∃ x, x = (i : Int) / 60 - (s.elo + (j : Int)) := ⟨_, rfl⟩
          have hfx : frE false i (s.elo + j) = x := by rw [hx]; rfl
          rw [hfx] at hsu
          have hse := rsea_ok x ((i : Int) % 60)
          have hcx : ((i / 60 : Nat) : Int) = (i : Int) / 60 := rfl
          have hcy : ((i % 60 : Nat) : Int) = (i : Int) % 60 := rfl
          rw [hcy] at hsu
          by_cases c1 : 0 ≤ x ∧ x ≤ 59
          · rw [decide_eq_true (show inSea ⟨x, (i : Int) % 60⟩ from ⟨c1, by show (0 : Int) ≤ (i : Int) % 60; omega, by show (i : Int) % 60 ≤ 59; omega⟩)] at hse
            have hpl := rplace_ok x ((i : Int) % 60) c1 ⟨by omega, by omega⟩
            have hbn := seaC_get (f := f) (n := (60 * x + (i : Int) % 60).toNat) (by omega)
            have hql := seaC_len f
            have d1 : 60 * x + (i : Int) % 60 < 3600 := by omega
            have d2 : 0 ≤ 60 * x + (i : Int) % 60 := by omega
            have d3 : (60 * x + (i : Int) % 60).toNat < 3600 := by omega
            simp (disch := omega) [Und, eqf1, eqf2, u0, us, ux, uq, ud, lus, lux, luq, lud, q0, q1, q2, q3, q4, hl1, hl2, hl3, hjt', hi3, hi3', hsl, hsg2, hset, ← hx, hse, hpl, hbn, hql, d1, d2, d3, ltT, -Bool.exists_bool, -getElem?_pos]
            refine ⟨by omega, by omega, by omega, r - 1, by omega, j + 1, by omega, by omega, by omega, fun z h1 h2 => ?_, seaC_congr fun m _ => ?_⟩
            · rw [if_neg h2]
              by_cases e : z = υ.next
              · omega
              · simp only [if_neg e]; exact ug z h1 h2
            · by_cases e : m = i
              · rw [if_pos e, show s.elo + ((j + 1 : Nat) : Int) = s.elo + j + 1 by omega, hsu]
                rw [decide_eq_true c1]; simp [e]
              · simp [e]
          · rw [decide_eq_false (show ¬ inSea ⟨x, (i : Int) % 60⟩ from fun h => c1 h.1)] at hse
            simp (disch := omega) [Und, eqf1, eqf2, u0, us, ux, uq, ud, lus, lux, luq, lud, q0, q1, q2, q3, q4, hl1, hl2, hl3, hjt', hi3, hi3', hsl, hsg2, hset, ← hx, hse, ltT, -Bool.exists_bool, -getElem?_pos]
            refine ⟨by omega, r - 1, by omega, j + 1, by omega, by omega, by omega, fun z h1 h2 => ?_, seaC_congr fun m _ => ?_⟩
            · rw [if_neg h2]
              by_cases e : z = υ.next
              · omega
              · simp only [if_neg e]; exact ug z h1 h2
            · by_cases e : m = i
              · rw [if_pos e, show s.elo + ((j + 1 : Nat) : Int) = s.elo + j + 1 by omega, hsu]
                rw [decide_eq_false c1]; simp [e]
              · simp [e]
        · obtain ⟨x, hx⟩ : ∃ x, x = (i : Int) / 60 + (s.elo + (j : Int)) := ⟨_, rfl⟩
          have hfx : frE true i (s.elo + j) = x := by rw [hx]; rfl
          rw [hfx] at hsu
          have hse := rsea_ok x ((i : Int) % 60)
          have hcx : ((i / 60 : Nat) : Int) = (i : Int) / 60 := rfl
          have hcy : ((i % 60 : Nat) : Int) = (i : Int) % 60 := rfl
          rw [hcy] at hsu
          by_cases c1 : 0 ≤ x ∧ x ≤ 59
          · rw [decide_eq_true (show inSea ⟨x, (i : Int) % 60⟩ from ⟨c1, by show (0 : Int) ≤ (i : Int) % 60; omega, by show (i : Int) % 60 ≤ 59; omega⟩)] at hse
            have hpl := rplace_ok x ((i : Int) % 60) c1 ⟨by omega, by omega⟩
            have hbn := seaC_get (f := f) (n := (60 * x + (i : Int) % 60).toNat) (by omega)
            have hql := seaC_len f
            have d1 : 60 * x + (i : Int) % 60 < 3600 := by omega
            have d2 : 0 ≤ 60 * x + (i : Int) % 60 := by omega
            have d3 : (60 * x + (i : Int) % 60).toNat < 3600 := by omega
            simp (disch := omega) [Und, eqf1, eqf2, u0, us, ux, uq, ud, lus, lux, luq, lud, q0, q1, q2, q3, q4, hl1, hl2, hl3, hjt', hi3, hi3', hsl, hsg2, hset, ← hx, hse, hpl, hbn, hql, d1, d2, d3, ltT, -Bool.exists_bool, -getElem?_pos]
            refine ⟨by omega, by omega, by omega, r - 1, by omega, j + 1, by omega, by omega, by omega, fun z h1 h2 => ?_, seaC_congr fun m _ => ?_⟩
            · rw [if_neg h2]
              by_cases e : z = υ.next
              · omega
              · simp only [if_neg e]; exact ug z h1 h2
            · by_cases e : m = i
              · rw [if_pos e, show s.elo + ((j + 1 : Nat) : Int) = s.elo + j + 1 by omega, hsu]
                rw [decide_eq_true c1]; simp [e]
              · simp [e]
          · rw [decide_eq_false (show ¬ inSea ⟨x, (i : Int) % 60⟩ from fun h => c1 h.1)] at hse
            simp (disch := omega) [Und, eqf1, eqf2, u0, us, ux, uq, ud, lus, lux, luq, lud, q0, q1, q2, q3, q4, hl1, hl2, hl3, hjt', hi3, hi3', hsl, hsg2, hset, ← hx, hse, ltT, -Bool.exists_bool, -getElem?_pos]
            refine ⟨by omega, r - 1, by omega, j + 1, by omega, by omega, by omega, fun z h1 h2 => ?_, seaC_congr fun m _ => ?_⟩
            · rw [if_neg h2]
              by_cases e : z = υ.next
              · omega
              · simp only [if_neg e]; exact ug z h1 h2
            · by_cases e : m = i
              · rw [if_pos e, show s.elo + ((j + 1 : Nat) : Int) = s.elo + j + 1 by omega, hsu]
                rw [decide_eq_false c1]; simp [e]
              · simp [e]
      · rw [hev] at hsu
        have hsg2 := hsg.trans (by rw [hev] : _ = some (AV.bool true))
        rw [Bool.true_or] at hsu
        cases back
        · simp (disch := omega) [Und, eqf1, eqf2, u0, us, ux, uq, ud, lus, lux, luq, lud, q0, q1, q2, q3, q4, hl1, hl2, hl3, hjt', hi3, hi3', hsl, hsg2, hset, ltT, -Bool.exists_bool, -getElem?_pos]
          refine ⟨by omega, r - 1, by omega, j + 1, by omega, by omega, by omega, fun z h1 h2 => ?_, seaC_congr fun m _ => ?_⟩
          · rw [if_neg h2]
            by_cases e : z = υ.next
            · omega
            · simp only [if_neg e]; exact ug z h1 h2
          · by_cases e : m = i
            · rw [if_pos e, show s.elo + ((j + 1 : Nat) : Int) = s.elo + j + 1 by omega, hsu]
              simp [e]
            · simp [e]
        · simp (disch := omega) [Und, eqf1, eqf2, u0, us, ux, uq, ud, lus, lux, luq, lud, q0, q1, q2, q3, q4, hl1, hl2, hl3, hjt', hi3, hi3', hsl, hsg2, hset, ltT, -Bool.exists_bool, -getElem?_pos]
          refine ⟨by omega, r - 1, by omega, j + 1, by omega, by omega, by omega, fun z h1 h2 => ?_, seaC_congr fun m _ => ?_⟩
          · rw [if_neg h2]
            by_cases e : z = υ.next
            · omega
            · simp only [if_neg e]; exact ug z h1 h2
          · by_cases e : m = i
            · rw [if_pos e, show s.elo + ((j + 1 : Nat) : Int) = s.elo + j + 1 by omega, hsu]
              simp [e]
            · simp [e]
    · obtain rfl : j = tot := by omega
      have hjt' : ¬ s.elo + (j : Int) ≤ s.ehi := by omega
      simp (disch := omega) [Und, eqf1, eqf2, u0, us, lus, hjt', -Bool.exists_bool, -getElem?_pos]
      refine ⟨k - 1, by omega, i + 1, by omega, by omega, by omega, fun z h1 h2 => by rw [ug z (by omega) h2, tg z (by omega), sg z h1 h2], ud.trans (congrArg (fun c => some (AObj.cells c)) (seaC_congr fun m _ => ?_))⟩
      by_cases e : m = i
      · rw [if_pos e, show s.elo + (j : Int) = s.ehi + 1 by omega, e]; simp
      · by_cases e2 : m < i
        · simp [e, e2, show m < i + 1 by omega]
        · simp [e, e2, show ¬ m < i + 1 by omega]
  · obtain rfl : i = 3600 := by omega
    simp (disch := omega) [Und, s0, -Bool.exists_bool]
    obtain ⟨g, hg⟩ : ∃ g, g = eB s back f (s.ehi + 1) := ⟨_, rfl⟩
    have yb : σ.get a1 = some (.cells (seaC g)) := sgD.trans (congrArg (fun c => some (AObj.cells c)) (seaC_congr fun m hm => by rw [decide_eq_true hm, Bool.true_and, hg]))
    have hfin : ∀ n, n < 3600 → nB s back g (s.nhi + 1) n = bif back then mb s f n else mv s f n := fun n e => by rw [hg, two_pass e]
    have yc := (sg a2 (by omega) (by omega)).trans xc
    have ys := (sg a0 (by omega) (by omega)).trans xs
    have yl : ∀ z, z < σ0.next → σ.get z = σ0.get z := fun z hz => (sg z (by omega) (by omega)).trans (xg z hz)
    clear hg sgD sgs0 sgq l0 lD lq sg
    obtain ⟨T1, rfl⟩ : ∃ T1, T1 = σ := ⟨_, rfl⟩
    have y0 := s0
    clear s0 hi
    refine lp_loop pl (fun k fr σ => ∃ i : Nat, i + k = 3600 ∧ fr = ⟨[(2, .bool back), (3, .ptr (some (a0, 0))), (7, .slice (some (a1, 0)) 3600 (.ex 3600)), (8, .slice (some (a2, 0)) 3600 (.ex 3600)), (13, .int .i64 i)], []⟩ ∧ σ.lim = lm ∧ T1.next ≤ σ.next ∧ (∀ z, z < T1.next → z ≠ a2 → σ.get z = T1.get z) ∧ σ.get a2 = some (.cells (seaC fun m => decide (m < i) && nB s back g (s.nhi + 1) m)))
      ⟨3600, 0, by omega, rfl, y0, Nat.le_refl _, fun _ _ _ => rfl, yc.trans (congrArg (fun c => some (AObj.cells c)) (seaC_congr fun m _ => by simp))⟩ ?_
    rintro k _ σ ⟨i, hi, rfl, s0, sn, sg, sgD⟩
    have sgs0 := (sg a0 (by omega) (by omega)).trans ys
    have sgq := (sg a1 (by omega) (by omega)).trans yb
    have l0 := AH.get_lt sgs0
    have lD := AH.get_lt sgD
    have lq := AH.get_lt sgq
    by_cases hi3 : i < 3600
    · have hi3' : (i : Int) < 3600 := by omega
      have n0' : ¬ a0 = σ.next := by omega
      have n1' : ¬ a1 = σ.next := by omega
      have n2' : ¬ a2 = σ.next := by omega
      have hl0 : lm ≤ σ.next := by omega
      simp (disch := omega) [Und, eqf1, eqf2, s0, sgs0, sgD, l0, lD, n0', n1', n2', hl0, hi3', -Bool.exists_bool, -getElem?_pos]
      generalize hT : AH.set _ σ.next _ = T
      have t0 : T.lim = lm := by rw [← hT]; exact s0
      have tn : T.next = σ.next + 1 := by rw [← hT]; rfl
      have tg : ∀ z, z < σ.next → T.get z = σ.get z := fun z hz => by rw [← hT, AH.get_set_other _ _ _ _ (by omega), AH.get_push_old _ _ _ (by omega)]
      have tx : T.get σ.next = some (.cells [.int .i64 ((i : Int) / 60), .int .i64 ((i : Int) % 60)]) := by rw [← hT, AH.get_set_same _ _ _ (Nat.lt_succ_self _)]
      clear hT
      have tgs := (tg a0 (by omega)).trans sgs0
      have tgq := (tg a1 (by omega)).trans sgq
      have tgD := (tg a2 (by omega)).trans sgD
      obtain ⟨tot, htot⟩ : ∃ tot : Nat, s.nhi - s.nlo + 1 = tot := ⟨(s.nhi - s.nlo + 1).toNat, by omega⟩
      refine lp_loop pl (fun r fr υ => ∃ j : Nat, j + r = tot ∧ fr = ⟨[(2, .bool back), (3, .ptr (some (a0, 0))), (7, .slice (some (a1, 0)) 3600 (.ex 3600)), (8, .slice (some (a2, 0)) 3600 (.ex 3600)), (13, .int .i64 i), (14, .ptr (some (σ.next, 0))), (15, .int .i64 (s.nlo + j))], []⟩ ∧ υ.lim = lm ∧ T.next ≤ υ.next ∧ (∀ z, z < T.next → z ≠ a2 → υ.get z = T.get z) ∧ υ.get a2 = some (.cells (seaC fun m => if m = i then nB s back g (s.nlo + j) i else decide (m < i) && nB s back g (s.nhi + 1) m)))
        ⟨tot, 0, by omega, by simp, t0, Nat.le_refl _, fun z _ _ => rfl, tgD.trans (congrArg (fun c => some (AObj.cells c)) (seaC_congr fun m _ => by
          by_cases e : m = i
          · subst e
            have := nB_none (s := s) (back := back) (f := g) (n := m)
            simp [this]
          · simp [e]))⟩ ?_
      rintro r _ υ ⟨j, hj, rfl, u0, un, ug, ud⟩
      have ux := (ug σ.next (by omega) (by omega)).trans tx
      have us := (ug a0 (by omega) (by omega)).trans tgs
      have uq := (ug a1 (by omega) (by omega)).trans tgq
      simp only [cells_eStp] at us
      have lux := AH.get_lt ux
      have lus := AH.get_lt us
      have luq := AH.get_lt uq
      have lud := AH.get_lt ud
      have q0 : ¬ a0 = υ.next := by omega
      have q1 : ¬ a2 = υ.next := by omega
      have q2 : ¬ a1 = υ.next := by omega
      have q3 : ¬ σ.next = υ.next := by omega
      have q4 : ¬ a1 = a2 := by omega
      have hl1 : lm ≤ a2 := by omega
      have hl2 : lm ≤ υ.next := by omega
      have hl3 : lm ≤ υ.next + 1 := by omega
      by_cases hjt : j < tot
      · have hjt' : s.nlo + (j : Int) ≤ s.nhi := by omega
        have hsu := nB_succ (s := s) (back := back) (f := g) (n := i) (b := s.nlo + j) (by omega)
        have hsl := seaC_len (fun m => if m = i then nB s back g (s.nlo + j) i else decide (m < i) && nB s back g (s.nhi + 1) m)
        have hsg := seaC_get (f := fun m => if m = i then nB s back g (s.nlo + j) i else decide (m < i) && nB s back g (s.nhi + 1) m) hi3
        simp only [if_true] at hsg
        have hset := fun b => seaC_set (fun m => if m = i then nB s back g (s.nlo + j) i else decide (m < i) && nB s back g (s.nhi + 1) m) i b
        cases hev : nB s back g (s.nlo + j) i
        · rw [hev] at hsu
          have hsg2 := hsg.trans (by rw [hev] : _ = some (AV.bool false))
          cases back
          · obtain ⟨x, hx⟩ : ∃ x, x = (i : Int) % 60 - (s.nlo + (j : Int)) := ⟨_, rfl⟩
            have hfx : frN false i (s.nlo + j) = x := by rw [hx]; rfl
            rw [hfx] at hsu
            have hse := rsea_ok ((i : Int) / 60) x
            have hcx : ((i / 60 : Nat) : Int) = (i : Int) / 60 := rfl
            have hcy : ((i % 60 : Nat) : Int) = (i : Int) % 60 := rfl
            rw [hcx] at hsu
            by_cases c1 : 0 ≤ x ∧ x ≤ 59
            · rw [decide_eq_true (show inSea ⟨(i : Int) / 60, x⟩ from ⟨⟨by show (0 : Int) ≤ (i : Int) / 60; omega, by show (i : Int) / 60 ≤ 59; omega⟩, c1⟩)] at hse
              have hpl := rplace_ok ((i : Int) / 60) x ⟨by omega, by omega⟩ c1
              have hbn := seaC_get (f := g) (n := (60 * ((i : Int) / 60) + x).toNat) (by omega)
              have hql := seaC_len g
              have d1 : 60 * ((i : Int) / 60) + x < 3600 := by omega
              have d2 : 0 ≤ 60 * ((i : Int) / 60) + x := by omega
              have d3 : (60 * ((i : Int) / 60) + x).toNat < 3600 := by omega
              simp (disch := omega) [Und, eqf1, eqf2, u0, us, ux, uq, ud, lus, lux, luq, lud, q0, q1, q2, q3, q4, hl1, hl2, hl3, hjt', hi3, hi3', hsl, hsg2, hset, ← hx, hse, hpl, hbn, hql, d1, d2, d3, ltT, -Bool.exists_bool, -getElem?_pos]
              refine ⟨by omega, by omega, by omega, r - 1, by omega, j + 1, by omega, by omega, by omega, fun z h1 h2 => ?_, seaC_congr fun m _ => ?_⟩
              · rw [if_neg h2]
                by_cases e : z = υ.next
                · omega
                · simp only [if_neg e]; exact ug z h1 h2
              · by_cases e : m = i
                · rw [if_pos e, show s.nlo + ((j + 1 : Nat) : Int) = s.nlo + j + 1 by omega, hsu]
                  rw [decide_eq_true c1]; simp [e]
                · simp [e]
            · rw [decide_eq_false (show ¬ inSea ⟨(i : Int) / 60, x⟩ from fun h => c1 h.2)] at hse
              simp (disch := omega) [Und, eqf1, eqf2, u0, us, ux, uq, ud, lus, lux, luq, lud, q0, q1, q2, q3, q4, hl1, hl2, hl3, hjt', hi3, hi3', hsl, hsg2, hset, ← hx, hse, ltT, -Bool.exists_bool, -getElem?_pos]
              refine ⟨by omega, r - 1, by omega, j + 1, by omega, by omega, by omega, fun z h1 h2 => ?_, seaC_congr fun m _ => ?_⟩
              · rw [if_neg h2]
                by_cases e : z = υ.next
                · omega
                · simp only [if_neg e]; exact ug z h1 h2
              · by_cases e : m = i
                · rw [if_pos e, show s.nlo + ((j + 1 : Nat) : Int) = s.nlo + j + 1 by omega, hsu]
                  rw [decide_eq_false c1]; simp [e]
                · simp [e]
          · obtain ⟨x, hx⟩ : ∃ x, x = (i : Int) % 60 + (s.nlo + (j : Int)) := ⟨_, rfl⟩
            have hfx : frN true i (s.nlo + j) = x := by rw [hx]; rfl
            rw [hfx] at hsu
            have hse := rsea_ok ((i : Int) / 60) x
            have hcx : ((i / 60 : Nat) : Int) = (i : Int) / 60 := rfl
            have hcy : ((i % 60 : Nat) : Int) = (i : Int) % 60 := rfl
            rw [hcx] at hsu
            by_cases c1 : 0 ≤ x ∧ x ≤ 59
            · rw [decide_eq_true (show inSea ⟨(i : Int) / 60, x⟩ from ⟨⟨by show (0 : Int) ≤ (i : Int) / 60; omega, by show (i : Int) / 60 ≤ 59; omega⟩, c1⟩)] at hse
              have hpl := rplace_ok ((i : Int) / 60) x ⟨by omega, by omega⟩ c1
              have hbn := seaC_get (f := g) (n := (60 * ((i : Int) / 60) + x).toNat) (by omega)
              have hql := seaC_len g
              have d1 : 60 * ((i : Int) / 60) + x < 3600 := by omega
              have d2 : 0 ≤ 60 * ((i : Int) / 60) + x := by omega
              have d3 : (60 * ((i : Int) / 60) + x).toNat < 3600 := by omega
              simp (disch := omega) [Und, eqf1, eqf2, u0, us, ux, uq, ud, lus, lux, luq, lud, q0, q1, q2, q3, q4, hl1, hl2, hl3, hjt', hi3, hi3', hsl, hsg2, hset, ← hx, hse, hpl, hbn, hql, d1, d2, d3, ltT, -Bool.exists_bool, -getElem?_pos]
              refine ⟨by omega, by omega, by omega, r - 1, by omega, j + 1, by omega, by omega, by omega, fun z h1 h2 => ?_, seaC_congr fun m _ => ?_⟩
              · rw [if_neg h2]
                by_cases e : z = υ.next
                · omega
                · simp only [if_neg e]; exact ug z h1 h2
              · by_cases e : m = i
                · rw [if_pos e, show s.nlo + ((j + 1 : Nat) : Int) = s.nlo + j + 1 by omega, hsu]
                  rw [decide_eq_true c1]; simp [e]
                · simp [e]
            · rw [decide_eq_false (show ¬ inSea ⟨(i : Int) / 60, x⟩ from fun h => c1 h.2)] at hse
              simp (disch := omega) [Und, eqf1, eqf2, u0, us, ux, uq, ud, lus, lux, luq, lud, q0, q1, q2, q3, q4, hl1, hl2, hl3, hjt', hi3, hi3', hsl, hsg2, hset, ← hx, hse, ltT, -Bool.exists_bool, -getElem?_pos]
              refine ⟨by omega, r - 1, by omega, j + 1, by omega, by omega, by omega, fun z h1 h2 => ?_, seaC_congr fun m _ => ?_⟩
              · rw [if_neg h2]
                by_cases e : z = υ.next
                · omega
                · simp only [if_neg e]; exact ug z h1 h2
              · by_cases e : m = i
                · rw [if_pos e, show s.nlo + ((j + 1 : Nat) : Int) = s.nlo + j + 1 by omega, hsu]
                  rw [decide_eq_false c1]; simp [e]
                · simp [e]
        · rw [hev] at hsu
          have hsg2 := hsg.trans (by rw [hev] : _ = some (AV.bool true))
          rw [Bool.true_or] at hsu
          cases back
          · simp (disch := omega) [Und, eqf1, eqf2, u0, us, ux, uq, ud, lus, lux, luq, lud, q0, q1, q2, q3, q4, hl1, hl2, hl3, hjt', hi3, hi3', hsl, hsg2, hset, ltT, -Bool.exists_bool, -getElem?_pos]
            refine ⟨by omega, r - 1, by omega, j + 1, by omega, by omega, by omega, fun z h1 h2 => ?_, seaC_congr fun m _ => ?_⟩
            · rw [if_neg h2]
              by_cases e : z = υ.next
              · omega
              · simp only [if_neg e]; exact ug z h1 h2
            · by_cases e : m = i
              · rw [if_pos e, show s.nlo + ((j + 1 : Nat) : Int) = s.nlo + j + 1 by omega, hsu]
                simp [e]
              · simp [e]
          · simp (disch := omega) [Und, eqf1, eqf2, u0, us, ux, uq, ud, lus, lux, luq, lud, q0, q1, q2, q3, q4, hl1, hl2, hl3, hjt', hi3, hi3', hsl, hsg2, hset, ltT, -Bool.exists_bool, -getElem?_pos]
            refine ⟨by omega, r - 1, by omega, j + 1, by omega, by omega, by omega, fun z h1 h2 => ?_, seaC_congr fun m _ => ?_⟩
            · rw [if_neg h2]
              by_cases e : z = υ.next
              · omega
              · simp only [if_neg e]; exact ug z h1 h2
            · by_cases e : m = i
              · rw [if_pos e, show s.nlo + ((j + 1 : Nat) : Int) = s.nlo + j + 1 by omega, hsu]
                simp [e]
              · simp [e]
      · obtain rfl : j = tot := by omega
        have hjt' : ¬ s.nlo + (j : Int) ≤ s.nhi := by omega
        simp (disch := omega) [Und, eqf1, eqf2, u0, us, lus, hjt', -Bool.exists_bool, -getElem?_pos]
        refine ⟨k - 1, by omega, i + 1, by omega, by omega, by omega, fun z h1 h2 => by rw [ug z (by omega) h2, tg z (by omega), sg z h1 h2], ud.trans (congrArg (fun c => some (AObj.cells c)) (seaC_congr fun m _ => ?_))⟩
        by_cases e : m = i
        · rw [if_pos e, show s.nlo + (j : Int) = s.nhi + 1 by omega, e]; simp
        · by_cases e2 : m < i
          · simp [e, e2, show m < i + 1 by omega]
          · simp [e, e2, show ¬ m < i + 1 by omega]
    · obtain rfl : i = 3600 := by omega
      simp (disch := omega) [Und, s0, -Bool.exists_bool]
      refine hK a2 σ (by omega) ⟨by rw [s0, hlm0], by omega, fun z hz _ => (sg z (by omega) (by omega)).trans (yl z hz)⟩ (sgD.trans (congrArg (fun c => some (AObj.cells c)) (seaC_congr fun n hn => by rw [decide_eq_true hn, Bool.true_and, hfin n hn])))
end Go.Oct.Fix
