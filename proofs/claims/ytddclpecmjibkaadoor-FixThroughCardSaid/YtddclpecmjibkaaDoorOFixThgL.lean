/- FixThrough: it answers true at all arguments. -/
import Derived.Test.YtddclpecmjibkaaDoorOFixThgP
import Derived.Test.YtddclpecmjibkaaDoorOFixMorL
set_option maxRecDepth 100000
set_option maxHeartbeats 8000000
set_option linter.unusedVariables false
set_option linter.unusedSimpArgs false
namespace Go.Oct.Fix
open Go.Oct
theorem FixThrough_law (E N : Span) (nS : Bool) (S : List Stp) (n0 n1 : Int) (hz : szLog S) : ans prog O 9 [eLog E N nS S, .agg [.int .i64 n0, .int .i64 n1]] = some (.bool true) := by
  have hru := lruns_ok E N nS S hz.1
  have hRle := rnT_le S S.length
  have hlt := hz.1
  rw [rnT_all] at hRle
  obtain ⟨k, hk⟩ : ∃ k : Nat, n0 % (((rns S).length : Int) + 1) = k := ⟨(n0 % (((rns S).length : Int) + 1)).toNat, by
    have := Int.emod_nonneg n0 (show ((rns S).length : Int) + 1 ≠ 0 by omega)
    omega⟩
  have hkR : k ≤ (rns S).length := by
    have := Int.emod_lt_of_pos n0 (show (0 : Int) < ((rns S).length : Int) + 1 by omega)
    omega
  have hwas := Was_ok E N nS S k hz
  have hwh := Where_ok E N nS S hz
  unfold eLog at hru hwas hwh
  refine fn_of' pl get9 (oo (by decide)) rfl rfl ?_
  by_cases hm : okLog E N S ∧ ptsL (canR E N S) ≠ []
  · obtain ⟨hok, hne⟩ := id hm
    have h12 := hok.2.2.1
    rw [wasV_ok hok hkR hne] at hwas
    obtain ⟨w, hw⟩ : ∃ w, w = ptsL (wasF E N S ((rns S).length - k)) := ⟨_, rfl⟩
    have hwne : w ≠ [] := by
      rw [hw]
      obtain ⟨t, ht⟩ := can_true.1 hne
      have := (was_pt hkR (ht.sea k hkR)).2 ⟨t, ht, rfl⟩
      intro h
      rw [h] at this; cases this
    have hwl : w.length ≤ 3600 := by rw [hw]; exact ptsTo_len _ _
    have hws : ∀ q ∈ w, inSea q := fun q hq => by
      rw [hw] at hq
      obtain ⟨m, h1, _, h3⟩ := ptsL_mem.1 hq
      rw [h3]; exact pt_sea h1
    rw [← hw] at hwas
    have hw0 : 0 < w.length := List.length_pos_iff.2 hwne
    have q1 := Int.emod_nonneg n1 (show (w.length : Int) ≠ 0 by omega)
    have q2 := Int.emod_lt_of_pos n1 (show (0 : Int) < (w.length : Int) by omega)
    have q3 : ¬ (w.length : Int) = 0 := by omega
    have q4 : ¬ (12 : Int) < S.length := by omega
    simp (disch := omega) [eLog, Und, eqf1, eqf2, hru, hk, hwas, q1, q2, q3, q4, hwne, -Bool.exists_bool]
    refine ⟨fun _ => ?_, fun _ => ?_⟩
    all_goals
      generalize hσ : AH.push _ _ = σ0
      have z0 : σ0.lim = 0 := by rw [← hσ]; rfl
      have zn : σ0.next = 4 := by rw [← hσ]; rfl
      have g0 : σ0.get 0 = some (.cells [.int .i64 E.lo, .int .i64 E.hi, .int .i64 N.lo, .int .i64 N.hi, vl eStp nS S]) := by rw [← hσ]; simp
    · obtain ⟨p, hp, g2, g3⟩ : ∃ p, inSea p ∧ σ0.get 2 = some (.cells [.int .i64 p.lo, .int .i64 p.hi]) ∧ σ0.get 3 = some (.cells (rowOf eStp (hereL p))) := ⟨⟨n1 % 60, w64 (n0 + w64 (n1.tdiv 3)) % 60⟩, by unfold inSea; simp only; omega, by rw [← hσ]; simp, by rw [← hσ]; simp; rfl⟩
      clear hσ
      have hkl : (hereL p).length = 2 := rfl
      refine lp_loop pl (fun r fr σ => ∃ i v, i + r = S.length ∧ fr = ⟨[(2, .ptr (some (0, 0))), (6, .int .i64 k), (7, vl eSpan false w), (11, .ptr (some (2, 0))), (12, v), (13, .int .i64 (rnT S i).length), (14, .slice (some (3, 0)) 2 (.ex 2)), (15, .int .i64 i)], []⟩ ∧ σ.lim = 0 ∧ 4 ≤ σ.next ∧ (∀ z, z < 4 → σ.get z = σ0.get z) ∧ Buf 4 10 eStp σ v (insT S (hereL p) k i))
        ⟨S.length, 0, _, by omega, rfl, z0, by omega, fun z _ => rfl, Buf.nil⟩ ?_
      rintro r _ σ ⟨i, v, hi, rfl, t0, tn, tg, hb⟩
      have b0 := (tg 0 (by omega)).trans g0
      have b2 := (tg 2 (by omega)).trans g2
      have b3 := (tg 3 (by omega)).trans g3
      have l0 := AH.get_lt b0
      have l2 := AH.get_lt b2
      have hsrc : ∀ τ : AH, (∀ z, z < 4 → τ.get z = σ0.get z) → srcOf τ 10 2 (.slice (some (3, 0)) 2 (.ex 2)) = some (rowOf eStp (hereL p)) := fun τ h => by
        have b := (h 3 (by omega)).trans g3
        simp only [srcOf, cellsAt, row_def, b]
        rfl
      have hlen := insT_len (S := S) (h := hereL p) (k := k) (rns_here p) i (by omega)
      have hlen2 : (insT S (hereL p) k i).length ≤ i + 2 := by rw [hlen]; split <;> omega
      by_cases hiS : i < S.length
      · have hiS' : (i : Int) < S.length := by omega
        have hrs := rnT_succ hiS
        have hbi := rnT_le S i
        by_cases hk2 : (nth S i).k = 2
        · have hir : isRun (nth S i) = true := by unfold isRun; simp [hk2]
          rw [if_pos hir] at hrs
          have hrl : (rnT S (i + 1)).length = (rnT S i).length + 1 := by rw [hrs]; simp
          by_cases hkk : (rnT S i).length = k
          · have hkk' : ((rnT S i).length : Int) = k := by omega
            simp (disch := omega) [Und, t0, b0, l0, hiS', hk2, hkk', -Bool.exists_bool]
            refine hb.app (ys := hereL p) encStp (by omega) (by omega) rfl (hsrc σ tg) (by simp only [topBytes]; omega) fun v1 τ k1 k2 => ?_
            have c0 := k2.lim.trans t0
            have cn := k2.next
            have cg : ∀ z, z < 4 → τ.get z = σ0.get z := fun z hz => (k2.get z hz).trans (tg z hz)
            have d0 := (cg 0 (by omega)).trans g0
            have ld0 := AH.get_lt d0
            simp (disch := omega) [Und, c0, d0, ld0, hiS', hk2, hkk', -Bool.exists_bool]
            refine k1.push encStp (by omega) (by omega) (nth S i) (by simp only [topBytes, List.length_append]; omega) (by rw [← hk2]; rfl) fun v2 υ m1 m2 => ?_
            simp (disch := omega) [-Bool.exists_bool]
            exact ⟨r - 1, by omega, i + 1, by omega, v2, ⟨rfl, by omega, rfl⟩, m2.lim.trans c0, by have := m2.next; omega, fun z hz => (m2.get z hz).trans (cg z hz), by
              simp only [insT]; rw [if_pos ⟨hir, hkk⟩]; exact m1⟩
          · have hkk' : ¬ ((rnT S i).length : Int) = k := by omega
            simp (disch := omega) [Und, t0, b0, l0, hiS', hk2, hkk', -Bool.exists_bool]
            refine hb.push encStp (by omega) (by omega) (nth S i) (by simp only [topBytes]; omega) (by rw [← hk2]; rfl) fun v2 υ m1 m2 => ?_
            simp (disch := omega) [-Bool.exists_bool]
            exact ⟨r - 1, by omega, i + 1, by omega, v2, ⟨rfl, by omega, rfl⟩, m2.lim.trans t0, by have := m2.next; omega, fun z hz => (m2.get z hz).trans (tg z hz), by
              simp only [insT]; rw [if_neg (fun h => hkk h.2)]; exact m1⟩
        · have hir : ¬ isRun (nth S i) = true := by unfold isRun; simp [hk2]
          rw [if_neg hir, List.append_nil] at hrs
          simp (disch := omega) [Und, t0, b0, l0, hiS', hk2, -Bool.exists_bool]
          refine hb.push encStp (by omega) (by omega) (nth S i) (by simp only [topBytes]; omega) rfl fun v2 υ m1 m2 => ?_
          simp (disch := omega) [-Bool.exists_bool]
          exact ⟨r - 1, by omega, i + 1, by omega, v2, ⟨rfl, by rw [hrs], rfl⟩, m2.lim.trans t0, by have := m2.next; omega, fun z hz => (m2.get z hz).trans (tg z hz), by
            simp only [insT]; rw [if_neg (fun h => hir h.1)]; exact m1⟩
      · obtain rfl : i = S.length := by omega
        by_cases hkk : (rns S).length = k
        · have hkk' : ((rnT S S.length).length : Int) = k := by rw [rnT_all]; omega
          simp (disch := omega) [Und, t0, b0, l0, hkk', -Bool.exists_bool]
          refine hb.app (ys := hereL p) encStp (by omega) (by omega) rfl (hsrc σ tg) (by simp only [topBytes]; omega) fun v1 τ k1 k2 => ?_
          have c0 := k2.lim.trans t0
          have cn := k2.next
          have cg : ∀ z, z < 4 → τ.get z = σ0.get z := fun z hz => (k2.get z hz).trans (tg z hz)
          have hB' : Buf 4 10 eStp τ v1 (insL S (hereL p) k) := by unfold insL; rw [if_pos hkk]; exact k1
          have hLl : (insL S (hereL p) k).length = S.length + 2 := by
            have := insT_len (S := S) (h := hereL p) (k := k) (rns_here p) S.length (Nat.le_refl _)
            rw [rnT_all] at this
            unfold insL
            rw [if_pos hkk, List.length_append, this, if_neg (by omega)]; rfl
          rcases hB' with ⟨_, h⟩ | ⟨o, rfl, o4, og, _⟩
          · rw [h] at hLl; cases hLl
          · have x0 : τ.get 0 = _ := (cg 0 (by omega)).trans g0
            have x2 : τ.get 2 = _ := (cg 2 (by omega)).trans g2
            have lx0 := AH.get_lt x0
            have lx2 := AH.get_lt x2
            by_cases hl12 : (insL S (hereL p) k).length ≤ 12
            · have hl12' : ¬ (12 : Int) < (insL S (hereL p) k).length := by omega
              simp (disch := omega) [Und, c0, x0, lx0, hl12', hkk', -Bool.exists_bool]
              have hokL := ins_ok (k := k) hp hok hl12
              have hzL : szLog (insL S (hereL p) k) := ⟨by omega, fun j hj => by
                have := hokL.2.2.2 j hj
                rcases this with h | h | h
                · rw [h.2.2.2.2]; decide
                · rw [h.2.2.2.2.2]; decide
                · rw [h.2.2.2.2.1]; decide⟩
              have hwL := Where_ok E N false (insL S (hereL p) k) hzL
              unfold whereV at hwL
              rw [if_pos hokL] at hwL
              have ham := among_ok false w p.lo p.hi (by omega)
              have hiff := ins_iff (E := E) (N := N) hkR hp
              rw [← hw] at hiff
              refine fun _ => pc_ro (.cons (log_snap (AH.cel_get og) (.inl rfl)) .nil) (fun h => by cases h) (by simp) (oo (args := []) (by decide)).1 (fun z hz => by rw [c0]; omega) hwL fun τ3 oo3 ce3 => ?_
              have y0 := oo3.lim.trans c0
              have y2 : τ3.get 2 = _ := (oo3.get 2 lx2 (by simp; omega)).trans x2
              have ly2 := AH.get_lt y2
              by_cases hpw : p ∈ w
              · rw [if_neg (hiff.2 hpw)]
                rw [decide_eq_true (show (⟨p.lo, p.hi⟩ : Span) ∈ w from hpw)] at ham
                simp (disch := omega) [Und, y0, y2, ly2, ham, -Bool.exists_bool]
              · rw [if_pos (Classical.byContradiction fun h => hpw (hiff.1 h))]
                rw [decide_eq_false (show ¬ (⟨p.lo, p.hi⟩ : Span) ∈ w from hpw)] at ham
                simp (disch := omega) [Und, y0, y2, ly2, ham, -Bool.exists_bool]
            · have hl12' : (12 : Int) < (insL S (hereL p) k).length := by omega
              simp (disch := omega) [Und, c0, x0, lx0, hl12', hkk', -Bool.exists_bool]
              have hLu : (insL S (hereL p) k).length = (insT S (hereL p) k S.length).length + (hereL p).length := by unfold insL; rw [if_pos hkk, List.length_append]
              intro hh
              omega
        · have hkk' : ¬ ((rnT S S.length).length : Int) = k := by rw [rnT_all]; omega
          have hB' : Buf 4 10 eStp σ v (insL S (hereL p) k) := by unfold insL; rw [if_neg hkk]; exact hb
          have hLl : (insL S (hereL p) k).length = S.length + 2 := by
            have := insT_len (S := S) (h := hereL p) (k := k) (rns_here p) S.length (Nat.le_refl _)
            rw [rnT_all] at this
            unfold insL
            rw [if_neg hkk, this, if_pos (by omega)]; rfl
          rcases hB' with ⟨_, h⟩ | ⟨o, rfl, o4, og, _⟩
          · rw [h] at hLl; cases hLl
          · have x0 : σ.get 0 = _ := (tg 0 (by omega)).trans g0
            have x2 : σ.get 2 = _ := (tg 2 (by omega)).trans g2
            have lx0 := AH.get_lt x0
            have lx2 := AH.get_lt x2
            by_cases hl12 : (insL S (hereL p) k).length ≤ 12
            · have hl12' : ¬ (12 : Int) < (insL S (hereL p) k).length := by omega
              simp (disch := omega) [Und, t0, x0, lx0, hl12', hkk', -Bool.exists_bool]
              have hokL := ins_ok (k := k) hp hok hl12
              have hzL : szLog (insL S (hereL p) k) := ⟨by omega, fun j hj => by
                have := hokL.2.2.2 j hj
                rcases this with h | h | h
                · rw [h.2.2.2.2]; decide
                · rw [h.2.2.2.2.2]; decide
                · rw [h.2.2.2.2.1]; decide⟩
              have hwL := Where_ok E N false (insL S (hereL p) k) hzL
              unfold whereV at hwL
              rw [if_pos hokL] at hwL
              have ham := among_ok false w p.lo p.hi (by omega)
              have hiff := ins_iff (E := E) (N := N) hkR hp
              rw [← hw] at hiff
              refine fun _ => pc_ro (.cons (log_snap (AH.cel_get og) (.inl rfl)) .nil) (fun h => by cases h) (by simp) (oo (args := []) (by decide)).1 (fun z hz => by rw [t0]; omega) hwL fun τ3 oo3 ce3 => ?_
              have y0 := oo3.lim.trans t0
              have y2 : τ3.get 2 = _ := (oo3.get 2 lx2 (by simp; omega)).trans x2
              have ly2 := AH.get_lt y2
              by_cases hpw : p ∈ w
              · rw [if_neg (hiff.2 hpw)]
                rw [decide_eq_true (show (⟨p.lo, p.hi⟩ : Span) ∈ w from hpw)] at ham
                simp (disch := omega) [Und, y0, y2, ly2, ham, -Bool.exists_bool]
              · rw [if_pos (Classical.byContradiction fun h => hpw (hiff.1 h))]
                rw [decide_eq_false (show ¬ (⟨p.lo, p.hi⟩ : Span) ∈ w from hpw)] at ham
                simp (disch := omega) [Und, y0, y2, ly2, ham, -Bool.exists_bool]
            · have hl12' : (12 : Int) < (insL S (hereL p) k).length := by omega
              simp (disch := omega) [Und, t0, x0, lx0, hl12', hkk', -Bool.exists_bool]
              have hLu : (insL S (hereL p) k).length = (insT S (hereL p) k S.length).length := by unfold insL; rw [if_neg hkk]
              intro hh
              omega
    · obtain ⟨p, hp, g2, g3⟩ : ∃ p, inSea p ∧ σ0.get 2 = some (.cells [.int .i64 p.lo, .int .i64 p.hi]) ∧ σ0.get 3 = some (.cells (rowOf eStp (hereL p))) := ⟨nth w (n1 % w.length).toNat, hws _ (nth_mem (by omega)), by rw [← hσ]; simp, by rw [← hσ]; simp; rfl⟩
      clear hσ
      have hkl : (hereL p).length = 2 := rfl
      refine lp_loop pl (fun r fr σ => ∃ i v, i + r = S.length ∧ fr = ⟨[(2, .ptr (some (0, 0))), (6, .int .i64 k), (7, vl eSpan false w), (11, .ptr (some (2, 0))), (12, v), (13, .int .i64 (rnT S i).length), (14, .slice (some (3, 0)) 2 (.ex 2)), (15, .int .i64 i)], []⟩ ∧ σ.lim = 0 ∧ 4 ≤ σ.next ∧ (∀ z, z < 4 → σ.get z = σ0.get z) ∧ Buf 4 10 eStp σ v (insT S (hereL p) k i))
        ⟨S.length, 0, _, by omega, rfl, z0, by omega, fun z _ => rfl, Buf.nil⟩ ?_
      rintro r _ σ ⟨i, v, hi, rfl, t0, tn, tg, hb⟩
      have b0 := (tg 0 (by omega)).trans g0
      have b2 := (tg 2 (by omega)).trans g2
      have b3 := (tg 3 (by omega)).trans g3
      have l0 := AH.get_lt b0
      have l2 := AH.get_lt b2
      have hsrc : ∀ τ : AH, (∀ z, z < 4 → τ.get z = σ0.get z) → srcOf τ 10 2 (.slice (some (3, 0)) 2 (.ex 2)) = some (rowOf eStp (hereL p)) := fun τ h => by
        have b := (h 3 (by omega)).trans g3
        simp only [srcOf, cellsAt, row_def, b]
        rfl
      have hlen := insT_len (S := S) (h := hereL p) (k := k) (rns_here p) i (by omega)
      have hlen2 : (insT S (hereL p) k i).length ≤ i + 2 := by rw [hlen]; split <;> omega
      by_cases hiS : i < S.length
      · have hiS' : (i : Int) < S.length := by omega
        have hrs := rnT_succ hiS
        have hbi := rnT_le S i
        by_cases hk2 : (nth S i).k = 2
        · have hir : isRun (nth S i) = true := by unfold isRun; simp [hk2]
          rw [if_pos hir] at hrs
          have hrl : (rnT S (i + 1)).length = (rnT S i).length + 1 := by rw [hrs]; simp
          by_cases hkk : (rnT S i).length = k
          · have hkk' : ((rnT S i).length : Int) = k := by omega
            simp (disch := omega) [Und, t0, b0, l0, hiS', hk2, hkk', -Bool.exists_bool]
            refine hb.app (ys := hereL p) encStp (by omega) (by omega) rfl (hsrc σ tg) (by simp only [topBytes]; omega) fun v1 τ k1 k2 => ?_
            have c0 := k2.lim.trans t0
            have cn := k2.next
            have cg : ∀ z, z < 4 → τ.get z = σ0.get z := fun z hz => (k2.get z hz).trans (tg z hz)
            have d0 := (cg 0 (by omega)).trans g0
            have ld0 := AH.get_lt d0
            simp (disch := omega) [Und, c0, d0, ld0, hiS', hk2, hkk', -Bool.exists_bool]
            refine k1.push encStp (by omega) (by omega) (nth S i) (by simp only [topBytes, List.length_append]; omega) (by rw [← hk2]; rfl) fun v2 υ m1 m2 => ?_
            simp (disch := omega) [-Bool.exists_bool]
            exact ⟨r - 1, by omega, i + 1, by omega, v2, ⟨rfl, by omega, rfl⟩, m2.lim.trans c0, by have := m2.next; omega, fun z hz => (m2.get z hz).trans (cg z hz), by
              simp only [insT]; rw [if_pos ⟨hir, hkk⟩]; exact m1⟩
          · have hkk' : ¬ ((rnT S i).length : Int) = k := by omega
            simp (disch := omega) [Und, t0, b0, l0, hiS', hk2, hkk', -Bool.exists_bool]
            refine hb.push encStp (by omega) (by omega) (nth S i) (by simp only [topBytes]; omega) (by rw [← hk2]; rfl) fun v2 υ m1 m2 => ?_
            simp (disch := omega) [-Bool.exists_bool]
            exact ⟨r - 1, by omega, i + 1, by omega, v2, ⟨rfl, by omega, rfl⟩, m2.lim.trans t0, by have := m2.next; omega, fun z hz => (m2.get z hz).trans (tg z hz), by
              simp only [insT]; rw [if_neg (fun h => hkk h.2)]; exact m1⟩
        · have hir : ¬ isRun (nth S i) = true := by unfold isRun; simp [hk2]
          rw [if_neg hir, List.append_nil] at hrs
          simp (disch := omega) [Und, t0, b0, l0, hiS', hk2, -Bool.exists_bool]
          refine hb.push encStp (by omega) (by omega) (nth S i) (by simp only [topBytes]; omega) rfl fun v2 υ m1 m2 => ?_
          simp (disch := omega) [-Bool.exists_bool]
          exact ⟨r - 1, by omega, i + 1, by omega, v2, ⟨rfl, by rw [hrs], rfl⟩, m2.lim.trans t0, by have := m2.next; omega, fun z hz => (m2.get z hz).trans (tg z hz), by
            simp only [insT]; rw [if_neg (fun h => hir h.1)]; exact m1⟩
      · obtain rfl : i = S.length := by omega
        by_cases hkk : (rns S).length = k
        · have hkk' : ((rnT S S.length).length : Int) = k := by rw [rnT_all]; omega
          simp (disch := omega) [Und, t0, b0, l0, hkk', -Bool.exists_bool]
          refine hb.app (ys := hereL p) encStp (by omega) (by omega) rfl (hsrc σ tg) (by simp only [topBytes]; omega) fun v1 τ k1 k2 => ?_
          have c0 := k2.lim.trans t0
          have cn := k2.next
          have cg : ∀ z, z < 4 → τ.get z = σ0.get z := fun z hz => (k2.get z hz).trans (tg z hz)
          have hB' : Buf 4 10 eStp τ v1 (insL S (hereL p) k) := by unfold insL; rw [if_pos hkk]; exact k1
          have hLl : (insL S (hereL p) k).length = S.length + 2 := by
            have := insT_len (S := S) (h := hereL p) (k := k) (rns_here p) S.length (Nat.le_refl _)
            rw [rnT_all] at this
            unfold insL
            rw [if_pos hkk, List.length_append, this, if_neg (by omega)]; rfl
          rcases hB' with ⟨_, h⟩ | ⟨o, rfl, o4, og, _⟩
          · rw [h] at hLl; cases hLl
          · have x0 : τ.get 0 = _ := (cg 0 (by omega)).trans g0
            have x2 : τ.get 2 = _ := (cg 2 (by omega)).trans g2
            have lx0 := AH.get_lt x0
            have lx2 := AH.get_lt x2
            by_cases hl12 : (insL S (hereL p) k).length ≤ 12
            · have hl12' : ¬ (12 : Int) < (insL S (hereL p) k).length := by omega
              simp (disch := omega) [Und, c0, x0, lx0, hl12', hkk', -Bool.exists_bool]
              have hokL := ins_ok (k := k) hp hok hl12
              have hzL : szLog (insL S (hereL p) k) := ⟨by omega, fun j hj => by
                have := hokL.2.2.2 j hj
                rcases this with h | h | h
                · rw [h.2.2.2.2]; decide
                · rw [h.2.2.2.2.2]; decide
                · rw [h.2.2.2.2.1]; decide⟩
              have hwL := Where_ok E N false (insL S (hereL p) k) hzL
              unfold whereV at hwL
              rw [if_pos hokL] at hwL
              have ham := among_ok false w p.lo p.hi (by omega)
              have hiff := ins_iff (E := E) (N := N) hkR hp
              rw [← hw] at hiff
              refine fun _ => pc_ro (.cons (log_snap (AH.cel_get og) (.inl rfl)) .nil) (fun h => by cases h) (by simp) (oo (args := []) (by decide)).1 (fun z hz => by rw [c0]; omega) hwL fun τ3 oo3 ce3 => ?_
              have y0 := oo3.lim.trans c0
              have y2 : τ3.get 2 = _ := (oo3.get 2 lx2 (by simp; omega)).trans x2
              have ly2 := AH.get_lt y2
              by_cases hpw : p ∈ w
              · rw [if_neg (hiff.2 hpw)]
                rw [decide_eq_true (show (⟨p.lo, p.hi⟩ : Span) ∈ w from hpw)] at ham
                simp (disch := omega) [Und, y0, y2, ly2, ham, -Bool.exists_bool]
              · rw [if_pos (Classical.byContradiction fun h => hpw (hiff.1 h))]
                rw [decide_eq_false (show ¬ (⟨p.lo, p.hi⟩ : Span) ∈ w from hpw)] at ham
                simp (disch := omega) [Und, y0, y2, ly2, ham, -Bool.exists_bool]
            · have hl12' : (12 : Int) < (insL S (hereL p) k).length := by omega
              simp (disch := omega) [Und, c0, x0, lx0, hl12', hkk', -Bool.exists_bool]
              have hLu : (insL S (hereL p) k).length = (insT S (hereL p) k S.length).length + (hereL p).length := by unfold insL; rw [if_pos hkk, List.length_append]
              intro hh
              omega
        · have hkk' : ¬ ((rnT S S.length).length : Int) = k := by rw [rnT_all]; omega
          have hB' : Buf 4 10 eStp σ v (insL S (hereL p) k) := by unfold insL; rw [if_neg hkk]; exact hb
          have hLl : (insL S (hereL p) k).length = S.length + 2 := by
            have := insT_len (S := S) (h := hereL p) (k := k) (rns_here p) S.length (Nat.le_refl _)
            rw [rnT_all] at this
            unfold insL
            rw [if_neg hkk, this, if_pos (by omega)]; rfl
          rcases hB' with ⟨_, h⟩ | ⟨o, rfl, o4, og, _⟩
          · rw [h] at hLl; cases hLl
          · have x0 : σ.get 0 = _ := (tg 0 (by omega)).trans g0
            have x2 : σ.get 2 = _ := (tg 2 (by omega)).trans g2
            have lx0 := AH.get_lt x0
            have lx2 := AH.get_lt x2
            by_cases hl12 : (insL S (hereL p) k).length ≤ 12
            · have hl12' : ¬ (12 : Int) < (insL S (hereL p) k).length := by omega
              simp (disch := omega) [Und, t0, x0, lx0, hl12', hkk', -Bool.exists_bool]
              have hokL := ins_ok (k := k) hp hok hl12
              have hzL : szLog (insL S (hereL p) k) := ⟨by omega, fun j hj => by
                have := hokL.2.2.2 j hj
                rcases this with h | h | h
                · rw [h.2.2.2.2]; decide
                · rw [h.2.2.2.2.2]; decide
                · rw [h.2.2.2.2.1]; decide⟩
              have hwL := Where_ok E N false (insL S (hereL p) k) hzL
              unfold whereV at hwL
              rw [if_pos hokL] at hwL
              have ham := among_ok false w p.lo p.hi (by omega)
              have hiff := ins_iff (E := E) (N := N) hkR hp
              rw [← hw] at hiff
              refine fun _ => pc_ro (.cons (log_snap (AH.cel_get og) (.inl rfl)) .nil) (fun h => by cases h) (by simp) (oo (args := []) (by decide)).1 (fun z hz => by rw [t0]; omega) hwL fun τ3 oo3 ce3 => ?_
              have y0 := oo3.lim.trans t0
              have y2 : τ3.get 2 = _ := (oo3.get 2 lx2 (by simp; omega)).trans x2
              have ly2 := AH.get_lt y2
              by_cases hpw : p ∈ w
              · rw [if_neg (hiff.2 hpw)]
                rw [decide_eq_true (show (⟨p.lo, p.hi⟩ : Span) ∈ w from hpw)] at ham
                simp (disch := omega) [Und, y0, y2, ly2, ham, -Bool.exists_bool]
              · rw [if_pos (Classical.byContradiction fun h => hpw (hiff.1 h))]
                rw [decide_eq_false (show ¬ (⟨p.lo, p.hi⟩ : Span) ∈ w from hpw)] at ham
                simp (disch := omega) [Und, y0, y2, ly2, ham, -Bool.exists_bool]
            · have hl12' : (12 : Int) < (insL S (hereL p) k).length := by omega
              simp (disch := omega) [Und, t0, x0, lx0, hl12', hkk', -Bool.exists_bool]
              have hLu : (insL S (hereL p) k).length = (insT S (hereL p) k S.length).length := by unfold insL; rw [if_neg hkk]
              intro hh
              omega
  · by_cases hok : okLog E N S
    · have hem : ptsL (canR E N S) = [] := Classical.byContradiction fun h => hm ⟨hok, h⟩
      have h1 : wasV E N S k = .tuple [vl eSpan true [], .int .i64 4] := by unfold wasV; rw [if_pos hok, if_pos ⟨by omega, by omega⟩, if_pos hem]
      have h2 : whereV E N S = .tuple [vl eSpan true [], .int .i64 4] := by unfold whereV; rw [if_pos hok, if_pos hem]
      rw [h1] at hwas
      rw [h2] at hwh
      simp (disch := omega) [eLog, Und, eqf1, eqf2, hru, hk, hwas, hwh, -Bool.exists_bool]
    · have h1 : wasV E N S k = .tuple [vl eSpan true [], .int .i64 80] := by unfold wasV; rw [if_neg hok]
      have h2 : whereV E N S = .tuple [vl eSpan true [], .int .i64 80] := by unfold whereV; rw [if_neg hok]
      rw [h1] at hwas
      rw [h2] at hwh
      simp (disch := omega) [eLog, Und, eqf1, eqf2, hru, hk, hwas, hwh, -Bool.exists_bool]
theorem FixThrough_ok (E N : Span) (nS : Bool) (S : List Stp) (n0 n1 : Int) (hs : Slice eStp stpOK (vl eStp nS S) nS S) (hE : i64 E.lo ∧ i64 E.hi) (hN : i64 N.lo ∧ i64 N.hi) (hn0 : i64 n0) (hn1 : i64 n1) : ans prog O 9 [eLog E N nS S, .agg [.int .i64 n0, .int .i64 n1]] = some (.bool true) :=
  FixThrough_law E N nS S n0 n1 (szLog_of hs)
end Go.Oct.Fix
