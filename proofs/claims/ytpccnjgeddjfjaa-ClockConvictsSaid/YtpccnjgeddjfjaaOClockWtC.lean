/- Watches: can one be? The program's. -/
import Derived.Test.YtpccnjgeddjfjaaOClockWtU
set_option maxRecDepth 100000
set_option maxHeartbeats 1000000
set_option linter.unusedVariables false
set_option linter.unusedSimpArgs false
namespace Go.Oct.Clock
open Go.Oct
theorem tabI_take (b : Nat → Int) : (tabI b 60).take 60 = tabI b 60 := List.take_of_length_le (by simp)
@[simp] theorem tabI_all (b : Nat → Int) (n : Nat) : (tabI b n).all AV.one = true := by
  rw [List.all_eq_true]
  intro x hx
  obtain ⟨y, _, rfl⟩ := List.mem_map.1 hx
  rfl
theorem tabI_put (f g : Nat → Int) (n : Nat) : putCells (tabI f n) 0 (tabI g n) = tabI g n := by
  have := putCells_mid (tabI g n) [] (tabI f n) [] (by simp)
  simpa using this
theorem tabI_60 : [AV.int .i64 0, .int .i64 0, .int .i64 0, .int .i64 0, .int .i64 0, .int .i64 0, .int .i64 0, .int .i64 0, .int .i64 0, .int .i64 0, .int .i64 0, .int .i64 0, .int .i64 0, .int .i64 0, .int .i64 0, .int .i64 0, .int .i64 0, .int .i64 0, .int .i64 0, .int .i64 0, .int .i64 0, .int .i64 0, .int .i64 0, .int .i64 0, .int .i64 0, .int .i64 0, .int .i64 0, .int .i64 0, .int .i64 0, .int .i64 0, .int .i64 0, .int .i64 0, .int .i64 0, .int .i64 0, .int .i64 0, .int .i64 0, .int .i64 0, .int .i64 0, .int .i64 0, .int .i64 0, .int .i64 0, .int .i64 0, .int .i64 0, .int .i64 0, .int .i64 0, .int .i64 0, .int .i64 0, .int .i64 0, .int .i64 0, .int .i64 0, .int .i64 0, .int .i64 0, .int .i64 0, .int .i64 0, .int .i64 0, .int .i64 0, .int .i64 0, .int .i64 0, .int .i64 0, .int .i64 0] = tabI (fun _ => 0) 60 := rfl
theorem eq_tab (f g : Nat → Int) : ∀ l : List Nat, eqCells (List.replicate l.length Leaf.int) (l.map fun v : Nat => AV.int .i64 (f v)) (l.map fun v : Nat => AV.int .i64 (g v)) = some (decide (∀ v ∈ l, f v = g v))
  | [] => rfl
  | x :: l => by
    have h := eq_tab f g l
    simp only [List.length_cons, List.replicate_succ, List.map_cons, eqCells, if_true, h, Option.map_some]
    congr 1
    rw [Bool.eq_iff_iff]
    simp
theorem eq_60 (f g : Nat → Int) : eqCells (List.replicate 60 Leaf.int) (tabI f 60) (tabI g 60) = some (decide (∀ v ∈ List.range 60, f v = g v)) := by
  have h := eq_tab f g (List.range 60)
  rw [List.length_range] at h
  exact h
theorem leaf_60 : [Leaf.int, Leaf.int, Leaf.int, Leaf.int, Leaf.int, Leaf.int, Leaf.int, Leaf.int, Leaf.int, Leaf.int, Leaf.int, Leaf.int, Leaf.int, Leaf.int, Leaf.int, Leaf.int, Leaf.int, Leaf.int, Leaf.int, Leaf.int, Leaf.int, Leaf.int, Leaf.int, Leaf.int, Leaf.int, Leaf.int, Leaf.int, Leaf.int, Leaf.int, Leaf.int, Leaf.int, Leaf.int, Leaf.int, Leaf.int, Leaf.int, Leaf.int, Leaf.int, Leaf.int, Leaf.int, Leaf.int, Leaf.int, Leaf.int, Leaf.int, Leaf.int, Leaf.int, Leaf.int, Leaf.int, Leaf.int, Leaf.int, Leaf.int, Leaf.int, Leaf.int, Leaf.int, Leaf.int, Leaf.int, Leaf.int, Leaf.int, Leaf.int, Leaf.int, Leaf.int] = List.replicate 60 Leaf.int := rfl
theorem can_call {nF nS : Bool} {w : Wt} {mp : Nat} (hw : okWt w) {n J : Nat} (hn : n ≤ w.F.length) (hn1 : 1 ≤ n) (hJ : J < 8) {σ : AH} {K : AV → AH → Prop} (hl0 : σ.lim = 0) (hmp : σ.get mp = some (.map (mapM w.F.length 3 0) (3 * w.F.length)))
    (hK : ∀ b : Bool, (b = true ↔ canBe w J n) → ∀ σ', σ'.lim = 0 → σ.next ≤ σ'.next → (∀ i, i < σ.next → σ'.get i = σ.get i) → K (.bool b) σ') :
    Call prog O (.fn 77) [.agg (c11 nF nS w mp), .int .i64 n, .int .i64 J] σ K := by
  have h20 := hw.1.1
  have hmpl := AH.get_lt hmp
  refine @call_of' _ _ pl _ _ _ _ _ _ _ ⟨K⟩ get77 ((oo (by decide)).2 _) rfl ?_
  simp (disch := omega) [c11, hl0, eqF1, eqF2, -Bool.exists_bool]
  refine rules_call (nF := nF) (nS := nS) (mp := mp) hw hn hJ (by simpa using hl0) fun v R σ1 s0 sn sg hb hR => ?_
  have e0 : σ1.get σ.next = some (.cells (c11 nF nS w mp)) := by rw [sg σ.next (by simp)]; simp [c11]
  have hm1 : σ1.get mp = some (.map (mapM w.F.length 3 0) (3 * w.F.length)) := by rw [sg mp (by simp; omega), AH.get_push_old _ _ _ (by omega)]; exact hmp
  simp (disch := omega) [s0, tabI_60, -Bool.exists_bool]
  have hgd : ∀ c ∈ daysL νP w J n, goodC 60 c := days_good hw n hn fun k e hk he => by unfold νP; omega
  have hlen := days_len νP w J n
  have hrest := rest_iff (C := daysL νP w J n) (V := 60) fun c hc => ⟨(hgd c hc).1, (hgd c hc).2.1⟩
  have hout := fun (v : Nat) (hv : 60 ≤ v) => round_out (C := daysL νP w J n) (V := 60) (fun c hc => ⟨(hgd c hc).1, (hgd c hc).2.1⟩) hv
  rw [canP (by omega)] at hrest
  have hne : daysL νP w J n ≠ [] := by
    obtain ⟨e, rfl⟩ : ∃ e, n = e + 1 := ⟨n - 1, by omega⟩
    simp [daysL, dayL, wi]
  have hRl := hR.len
  have hmap := hR.1
  have hin := hR.2
  have fnd : ∀ a b t : Nat, a < 3 → b < n → t = νP a b → ∃ j bb, findE true [.int, .int] (.agg [.int .i64 a, .int .i64 b]) (mapM w.F.length 3 0) 0 = some (some (j, .int .i64 t, bb)) ∧ keyEq true [.int, .int] (.agg [.int .i64 a, .int .i64 b]) (.agg [.int .i64 a, .int .i64 b]) = some true := by
    rintro a b _ ha hb' rfl
    obtain ⟨m1, m2, _⟩ := mapM_ok w.F.length 3 0
    obtain ⟨r, h1, h2⟩ := find_M (k := a) (d := b) _ 0 m1
    rcases h2 with ⟨_, h2⟩ | ⟨j, bb, rfl, _⟩
    · exact absurd ((m2 a b).2 (.inl ⟨ha, by omega⟩)) h2
    · exact ⟨0 + j, bb, h1, by have := keyEq_M a a b b; simpa [kM] using this⟩
  clear hR
  generalize hC : daysL νP w J n = C at *
  have hnx : σ.next + 1 ≤ σ1.next := by simpa using sn
  have hold : ∀ i, i < σ.next → σ1.get i = σ.get i := fun i hi => by rw [sg i (by simp; omega), AH.get_push_old _ _ _ (by omega)]
  clear sg sn
  rcases hb with ⟨_, h⟩ | ⟨a, rfl, a1, a2, _⟩
  · subst h
    exact absurd hmap.symm hne
  have a3 := AH.get_lt a2
  have a1' : σ.next + 1 ≤ a := by simpa using a1
  have hrl := rowOf_length encRl R
  refine lp_loop pl (fun k fr τ => ∃ r : Nat, r + k = 61 ∧ fr = ⟨[(3, .ptr (some (σ.next, 0))), (7, .slice (some (a, 0)) R.length (.op 5)), (8, .ptr (some (σ1.next, 0))), (9, .bool false), (19, .int .i64 r)], []⟩ ∧
      τ.lim = 0 ∧ σ1.next + 1 ≤ τ.next ∧ (∀ i, i < σ.next → τ.get i = σ.get i) ∧ τ.get σ.next = some (.cells (c11 nF nS w mp)) ∧ τ.get a = some (.cells (rowOf eRl R)) ∧ τ.get σ1.next = some (.cells (tabI (bk C r) 60)) ∧ ∀ r', r' < r → ¬ ∀ v, bk C (r' + 1) v = bk C r' v)
    ⟨61, 0, by omega, rfl, s0, by simp, fun i hi => by rw [AH.get_push_old _ _ _ (by omega)]; exact hold i hi, by rw [AH.get_push_old _ _ _ (by omega)]; exact e0, by rw [AH.get_push_old _ _ _ (by omega)]; exact a2, by rw [AH.get_push_new]; rfl, fun r' h => by omega⟩ ?_
  rintro k _ τ ⟨r, hr, rfl, q0, qn, qo, qg, qa, qb, hno⟩
  have l0 := AH.get_lt qg
  have l1 := AH.get_lt qa
  have l2 := AH.get_lt qb
  by_cases hr61 : r < 61
  · have hr61' : (r : Int) < 61 := by omega
    simp (disch := omega) [Und, q0, hr61', qb, l2, tabI_take, tabI_put, -Bool.exists_bool]
    refine lp_loop pl (fun k2 fr ρ => ∃ q : Nat, q + k2 = R.length ∧ fr = ⟨[(3, .ptr (some (σ.next, 0))), (7, .slice (some (a, 0)) R.length (.op 5)), (8, .ptr (some (σ1.next, 0))), (9, .bool false), (10, .ptr (some (τ.next, 0))), (19, .int .i64 r), (22, .slice (some (a, 0)) R.length (.op 5)), (23, .int .i64 R.length), (24, .int .i64 q)], []⟩ ∧
        ρ.lim = 0 ∧ τ.next + 1 ≤ ρ.next ∧ (∀ i, i < σ.next → ρ.get i = σ.get i) ∧ ρ.get σ.next = some (.cells (c11 nF nS w mp)) ∧ ρ.get a = some (.cells (rowOf eRl R)) ∧ ρ.get σ1.next = some (.cells (tabI (partR C (bk C r) q) 60)) ∧ ρ.get τ.next = some (.cells (tabI (bk C r) 60)))
      ⟨R.length, 0, by omega, rfl, q0, by simp, fun i hi => by rw [AH.get_set_other _ _ _ _ (by omega), AH.get_push_old _ _ _ (by omega)]; exact qo i hi, by rw [AH.get_set_other _ _ _ _ (by omega), AH.get_push_old _ _ _ (by omega)]; exact qg, by rw [AH.get_set_other _ _ _ _ (by omega), AH.get_push_old _ _ _ (by omega)]; exact qa, by rw [AH.get_set_other _ _ _ _ (by omega), AH.get_push_old _ _ _ (by omega)]; exact qb, by simp⟩ ?_
    rintro k2 _ ρ ⟨q, hq, rfl, p0, pn, po, pg, pa, pb, pt⟩
    have m0 := AH.get_lt pg
    have m1 := AH.get_lt pa
    have m2 := AH.get_lt pb
    have m3 := AH.get_lt pt
    by_cases hql : q < R.length
    · have hx := hin _ (nth_mem hql)
      obtain ⟨⟨x1, x2⟩, x3, x4⟩ := hx
      have hcq : nth C q = toC (nth R q) := by rw [← hmap, nth_map _ hql]
      have hqC : q < C.length := by omega
      obtain ⟨c1, c2, c3, c4⟩ := hgd _ (nth_mem hqC)
      have hst := partR_succ (C := C) (b := bk C r) hqC
      have hlb := partR_lb (C := C) (V := 60) hgd (bk_lb hgd (by omega) r) q (by omega)
      have hub := fun v => Int.le_trans (partR_le C (bk C r) q v) (bk_bd C r v)
      have tf := tabI_get (b := partR C (bk C r) q) c2
      have tt := tabI_get (b := partR C (bk C r) q) c1
      have lf := hlb (nth C q).fr
      have uf := hub (nth C q).fr
      have ra := row_at encRl (xs := R) (j := q) hql
      have rc : (eRl (nth R q)).cells = [.int .i64 (nth R q).a1, .int .i64 (nth R q).a2, .int .i64 (nth R q).b1, .int .i64 (nth R q).b2, .int .i64 (nth C q).more] := by rw [hcq]; rfl
      rw [rc] at ra
      obtain ⟨j1, b1, f1, f1'⟩ := fnd (nth R q).a1 (nth R q).a2 (nth C q).to x1 x2 (by rw [hcq]; rfl)
      obtain ⟨j2, b2, f2, f2'⟩ := fnd (nth R q).b1 (nth R q).b2 (nth C q).fr x3 x4 (by rw [hcq]; rfl)
      have pm : ρ.get mp = some (.map (mapM w.F.length 3 0) (3 * w.F.length)) := (po mp hmpl).trans hmp
      generalize hb : partR C (bk C r) q = b at *
      have hw64 : w64 (b (nth C q).fr + (nth C q).more) = b (nth C q).fr + (nth C q).more := w64_id _ (by omega) (by omega)
      have tse := tabI_set (b := b) (n := 60) (x := min (b (nth C q).to) (b (nth C q).fr + (nth C q).more)) c1
      have hrel : rel b (nth C q) = fun u => if u = (nth C q).to then min (b (nth C q).to) (b (nth C q).fr + (nth C q).more) else b u := rfl
      simp (disch := omega) [Und, p0, hql, pa, pb, pg, pm, eqF1, eqF2, m0, m1, m2, m3, hrl, ra, c11, ahop_lookup, alookup, f1, f1', f2, f2', tf, tt, c1, c2, hw64, -Bool.exists_bool, -List.map_set, -getElem?_pos]
      refine ⟨by omega, by omega, by omega, by omega, by omega, by omega, by omega, k2 - 1, by omega, q + 1, by omega, by omega, by omega, fun i hi => ?_, ⟨by omega, by rw [tse, hst, hrel]⟩, pt⟩
      rw [if_neg (by omega), if_neg (by omega), if_neg (by omega)]
      exact po i hi
    · obtain rfl : q = R.length := by omega
      have hbk : partR C (bk C r) R.length = bk C (r + 1) := by rw [hRl]; unfold partR; rw [List.take_length]; rfl
      rw [hbk] at pb
      have he := eq_60 (bk C (r + 1)) (bk C r)
      by_cases hfix : ∀ v, bk C (r + 1) v = bk C r v
      · have := hrest.2 ⟨r, by omega, hfix⟩
        rw [decide_eq_true (fun v _ => hfix v)] at he
        simp (disch := omega) [Und, p0, pb, pt, m2, m3, tabI_take, leaf_60, he, -Bool.exists_bool, -List.reduceReplicate]
        exact hK true ⟨fun _ => this, fun _ => rfl⟩ ρ p0 (by omega) po
      · have hn60 : ¬ ∀ v ∈ List.range 60, bk C (r + 1) v = bk C r v := fun h => hfix fun v => by
          by_cases hv : v < 60
          · exact h v (List.mem_range.2 hv)
          · exact hout v (by omega) _
        rw [decide_eq_false hn60] at he
        simp (disch := omega) [Und, p0, pb, pt, m2, m3, tabI_take, leaf_60, he, -Bool.exists_bool, -List.reduceReplicate]
        refine ⟨k - 1, by omega, r + 1, by omega, by omega, by omega, po, pg, pa, rfl, fun r' hr' => Classical.not_forall.1 ?_⟩
        by_cases e : r' = r
        · subst e; exact fun h => hfix h
        · exact hno r' (by omega)
  · have hcan : ¬ canBe w J n := fun h => by
      obtain ⟨r', r1, r2⟩ := hrest.1 h
      exact hno r' (by omega) r2
    have hr61' : ¬ (r : Int) < 61 := by omega
    simp (disch := omega) [Und, q0, hr61', -Bool.exists_bool]
    exact hK false ⟨(fun h => by cases h), fun h => absurd h hcan⟩ τ q0 (by omega) qo
end Go.Oct.Clock
