/- Logs: the runs of a log, and what must hold between them. -/
import Derived.Test.YtddkghgfbhhcdaaDoorOWreSeaE
import Derived.Test.YtddkghgfbhhcdaaDoorOT4
set_option maxRecDepth 100000
set_option maxHeartbeats 4000000
set_option linter.unusedVariables false
set_option linter.unusedSimpArgs false
namespace Go.Oct.Wre.Fx
open Go.Oct
def eW : Option (Nat × Nat) → AV
  | none => .vsl true []
  | some (i, n) => .slice (some (i, 0)) n (.op 10)
theorem encW : Enc eW 1 := ⟨fun w => by cases w <;> rfl, fun w => by cases w <;> rfl, fun w => by cases w <;> rfl, by decide⟩
theorem sgs_sum (S : List Stp) : ∀ i, i ≤ S.length → ∀ j, j < (sgs S i).length → (nth (sgs S i) j).length ≤ i
  | 0, _, j, hj => by
    obtain rfl : j = 0 := by simpa [sgs] using hj
    exact Nat.le_refl _
  | i + 1, h, j, hj => by
    have ih := sgs_sum S i (by omega)
    have hl := sgs_len (S := S) i (by omega)
    simp only [sgs] at hj ⊢
    by_cases e : isRun (nth S i) = true
    · rw [if_pos e] at hj ⊢
      by_cases e2 : j < (sgs S i).length
      · rw [nth_app_lo e2]; have := ih j e2; omega
      · have : j = (sgs S i).length := by simp at hj; omega
        rw [this, nth_app_hi]; simp
    · rw [if_neg e] at hj ⊢
      unfold addL at hj ⊢
      rw [List.length_set] at hj
      rw [nth_set (by omega)]
      by_cases e2 : j = (sgs S i).length - 1
      · rw [if_pos e2, List.length_append]
        have := ih ((sgs S i).length - 1) (by omega)
        simp; omega
      · rw [if_neg e2]; have := ih j hj; omega
theorem eW_of {lo : Nat} {σ : AH} {v : AV} {g : List Stp} (h : Buf lo 10 eStp σ v g) : ∃ w, v = eW w := by
  rcases h with ⟨rfl, rfl⟩ | ⟨i, rfl, _⟩
  · exact ⟨none, rfl⟩
  · exact ⟨some (i, g.length), rfl⟩
structure RnI (lo : Nat) (σ : AH) (v2 : AV) (R : List Stp) (v3 : AV) (G : List (List Stp)) (ws : List (Option (Nat × Nat))) : Prop where
  len : ws.length = G.length
  b2 : Buf lo 10 eStp σ v2 R
  b3 : Buf lo 1 eW σ v3 ws
  bj : ∀ j, j < G.length → Buf lo 10 eStp σ (eW (nth ws j)) (nth G j)
  d23 : ∀ i ∈ obj v2, i ∉ obj v3
  d2j : ∀ j, j < G.length → ∀ i ∈ obj v2, i ∉ obj (eW (nth ws j))
  d3j : ∀ j, j < G.length → ∀ i ∈ obj v3, i ∉ obj (eW (nth ws j))
  djk : ∀ j k, j < G.length → k < G.length → j ≠ k → ∀ i ∈ obj (eW (nth ws j)), i ∉ obj (eW (nth ws k))
section
variable {lo : Nat} {σ σ' : AH} {v2 v2' v3 v3' : AV} {R : List Stp} {G : List (List Stp)} {ws : List (Option (Nat × Nat))}
theorem RnI.keep (h : RnI lo σ v2 R v3 G ws) (hk : ∀ i, lo ≤ i → i < σ.next → σ'.get i = σ.get i) : RnI lo σ' v2 R v3 G ws :=
  ⟨h.len, h.b2.keep hk, h.b3.keep hk, fun j hj => (h.bj j hj).keep hk, h.d23, h.d2j, h.d3j, h.djk⟩
theorem RnI.run (h : RnI lo σ v2 R v3 G ws) {s : Stp} (hb : Buf lo 10 eStp σ' v2' (R ++ [s])) (hg : Grew lo v2 v2' σ σ') : RnI lo σ' v2' (R ++ [s]) v3 G ws := by
  have fr : ∀ i ∈ obj v2', i ∈ obj v2 ∨ σ.next ≤ i := hg.fresh
  refine ⟨h.len, hb, h.b3.stay hg.only fun i h1 h2 => h.d23 i h2 h1, fun j hj => (h.bj j hj).stay hg.only fun i h1 h2 => h.d2j j hj i h2 h1, fun i hi h3 => ?_, fun j hj i hi h3 => ?_, h.d3j, h.djk⟩
  · rcases fr i hi with h1 | h1
    · exact h.d23 i h1 h3
    · have := (h.b3.obj_lt i h3).2; omega
  · rcases fr i hi with h1 | h1
    · exact h.d2j j hj i h1 h3
    · have := ((h.bj j hj).obj_lt i h3).2; omega
theorem RnI.part (h : RnI lo σ v2 R v3 G ws) (hb : Buf lo 1 eW σ' v3' (ws ++ [none])) (hg : Grew lo v3 v3' σ σ') : RnI lo σ' v2 R v3' (G ++ [[]]) (ws ++ [none]) := by
  have fr : ∀ i ∈ obj v3', i ∈ obj v3 ∨ σ.next ≤ i := hg.fresh
  have hn : ∀ j, j < (G ++ [[]]).length → (j < G.length ∧ nth (ws ++ [none]) j = nth ws j ∧ nth (G ++ [[]]) j = nth G j) ∨ (nth (ws ++ [none]) j = none ∧ nth (G ++ [[]]) j = []) := fun j hj => by
    by_cases e : j < G.length
    · exact .inl ⟨e, nth_app_lo (by rw [h.len]; exact e), nth_app_lo e⟩
    · have : j = G.length := by simp at hj; omega
      subst this
      exact .inr ⟨by rw [← h.len]; exact nth_app_hi, nth_app_hi⟩
  refine ⟨by simp [h.len], h.b2.stay hg.only fun i h1 h2 => h.d23 i h1 h2, hb, fun j hj => ?_, fun i hi h3 => ?_, fun j hj i hi h3 => ?_, fun j hj i hi h3 => ?_, fun j k hj hk hjk i hi h3 => ?_⟩
  · rcases hn j hj with ⟨e, h1, h2⟩ | ⟨h1, h2⟩
    · rw [h1, h2]; exact (h.bj j e).stay hg.only fun i a b => h.d3j j e i b a
    · rw [h1, h2]; exact Buf.nil
  · rcases fr i h3 with h1 | h1
    · exact h.d23 i hi h1
    · have := (h.b2.obj_lt i hi).2; omega
  · rcases hn j hj with ⟨e, h1, h2⟩ | ⟨h1, h2⟩
    · rw [h1] at h3; exact h.d2j j e i hi h3
    · rw [h1] at h3; cases h3
  · rcases hn j hj with ⟨e, h1, h2⟩ | ⟨h1, h2⟩
    · rw [h1] at h3
      rcases fr i hi with h4 | h4
      · exact h.d3j j e i h4 h3
      · have := ((h.bj j e).obj_lt i h3).2; omega
    · rw [h1] at h3; cases h3
  · rcases hn j hj with ⟨e, h1, h2⟩ | ⟨h1, h2⟩
    · rcases hn k hk with ⟨e2, h4, h5⟩ | ⟨h4, h5⟩
      · rw [h1] at hi; rw [h4] at h3; exact h.djk j k e e2 hjk i hi h3
      · rw [h4] at h3; cases h3
    · rw [h1] at hi; cases hi
theorem RnI.step (h : RnI lo σ v2 R v3 G ws) {m : Nat} (hm : m < G.length) {s : Stp} {w' : Option (Nat × Nat)} {τ : AH} (hb : Buf lo 10 eStp τ (eW w') (nth G m ++ [s])) (hg : Grew lo (eW (nth ws m)) (eW w') σ τ) {o : Nat} (ho : obj v3 = [o])
    (h3 : Buf lo 1 eW σ' v3 (ws.set m w')) (hk : ∀ i, lo ≤ i → i < τ.next → i ≠ o → σ'.get i = τ.get i) (hn : τ.next ≤ σ'.next) : RnI lo σ' v2 R v3 (G.set m (nth G m ++ [s])) (ws.set m w') := by
  have fr : ∀ i ∈ obj (eW w'), i ∈ obj (eW (nth ws m)) ∨ σ.next ≤ i := hg.fresh
  have hmw : m < ws.length := by rw [h.len]; exact hm
  have nw : ∀ j, nth (ws.set m w') j = if j = m then w' else nth ws j := fun j => nth_set hmw
  have nG : ∀ j, nth (G.set m (nth G m ++ [s])) j = if j = m then nth G m ++ [s] else nth G j := fun j => nth_set hm
  have ho3 := h.b3.obj_lt o (by rw [ho]; simp)
  have n2 : ∀ i ∈ obj v2, i ≠ o := fun i hi e => h.d23 i hi (by rw [ho]; simp [e])
  have nj : ∀ j, j < G.length → ∀ i ∈ obj (eW (nth ws j)), i ≠ o := fun j hj i hi e => h.d3j j hj o (by rw [ho]; simp) (by rw [← e]; exact hi)
  have gn := hg.next
  have wo : o ∉ obj (eW w') := fun hi => by
    rcases fr o hi with h1 | h1
    · exact h.d3j m hm o (by rw [ho]; simp) h1
    · omega
  have keepB : ∀ {v : AV} {g : List Stp}, Buf lo 10 eStp τ v g → (∀ i ∈ obj v, i ≠ o) → Buf lo 10 eStp σ' v g := fun {v g} hB hno => by
    rcases hB with ⟨rfl, rfl⟩ | ⟨i, rfl, a, b, c⟩
    · exact Buf.nil
    · exact .inr ⟨i, rfl, a, by rw [hk i a (AH.get_lt b) (hno i (by simp [obj]))]; exact b, c⟩
  have b2τ : Buf lo 10 eStp τ v2 R := h.b2.stay hg.only fun i h1 h2 => h.d2j m hm i h1 h2
  refine ⟨by simp [h.len], keepB b2τ n2, h3, fun j hj => ?_, h.d23, fun j hj i hi h4 => ?_, fun j hj i hi h4 => ?_, fun j k hj hk2 hjk i hi h4 => ?_⟩
  · rw [List.length_set] at hj
    rw [nw, nG]
    by_cases e : j = m
    · rw [if_pos e, if_pos e]
      exact keepB hb fun i hi e2 => wo (by rw [← e2]; exact hi)
    · rw [if_neg e, if_neg e]
      exact keepB ((h.bj j hj).stay hg.only fun i a b => h.djk j m hj hm e i a b) (nj j hj)
  · rw [List.length_set] at hj
    rw [nw] at h4
    by_cases e : j = m
    · rw [if_pos e] at h4
      rcases fr i h4 with h5 | h5
      · exact h.d2j m hm i hi h5
      · have := (h.b2.obj_lt i hi).2; omega
    · rw [if_neg e] at h4; exact h.d2j j hj i hi h4
  · rw [List.length_set] at hj
    rw [nw] at h4
    by_cases e : j = m
    · rw [if_pos e] at h4
      rw [ho] at hi
      obtain rfl := List.mem_singleton.1 hi
      exact wo h4
    · rw [if_neg e] at h4; exact h.d3j j hj i hi h4
  · rw [List.length_set] at hj hk2
    rw [nw] at hi h4
    by_cases e : j = m
    · rw [if_pos e] at hi
      rw [if_neg (by omega)] at h4
      rcases fr i hi with h5 | h5
      · exact h.djk m k hm hk2 (by omega) i h5 h4
      · have := ((h.bj k hk2).obj_lt i h4).2; omega
    · rw [if_neg e] at hi
      by_cases e2 : k = m
      · rw [if_pos e2] at h4
        rcases fr i h4 with h5 | h5
        · exact h.djk j m hj hm e i hi h5
        · have := ((h.bj j hj).obj_lt i hi).2; omega
      · rw [if_neg e2] at h4; exact h.djk j k hj hk2 hjk i hi h4
end
theorem rowW (ws : List (Option (Nat × Nat))) : rowOf eW ws = ws.map eW := by
  unfold rowOf
  induction ws with
  | nil => rfl
  | cons w ws ih => rw [List.flatMap_cons, ih]; cases w <;> rfl
theorem RnI.fz {lo : Nat} {σ : AH} {v2 v3 : AV} {R : List Stp} {G : List (List Stp)} {ws : List (Option (Nat × Nat))} (h : RnI lo σ v2 R v3 G ws) (hG : G ≠ []) : fzV 7 σ.cel v2 = vl eStp R.isEmpty R ∧ fzV 7 σ.cel v3 = vl eSeg false G := by
  have fl : ∀ (k : Nat) (xs : List Stp), ∀ x ∈ xs, (eStp x).cells.map (fun c => (fzV (k + 1) σ.cel c).na) = (eStp x).cells := fun k xs x _ => by
    conv => rhs; rw [← List.map_id (eStp x).cells]
    exact List.map_congr_left fun c hc => (flatStp x c hc k σ.cel).2
  refine ⟨h.b2.fz encStp 5 (fl 5 _), ?_⟩
  have hl := h.len
  rcases id h.b3 with ⟨rfl, h2⟩ | ⟨i, rfl, h7, h8, hne⟩
  · rw [h2] at hl; exact absurd (List.eq_nil_of_length_eq_zero hl.symm) hG
  have hcel : σ.cel i = some (rowOf eW ws) := by simp [h8]
  show (match σ.cel i with
    | some cs => if 0 ≤ cs.length then
        match ACap.cellsOf ws.length (cs.length - 0) (.op 1) with
        | some z => AV.vsl false (chunks z ws.length ((cs.drop 0).map fun x => (fzV 6 σ.cel x).na))
        | none => .undef
      else .undef
    | none => .undef) = _
  rw [hcel, rowW]
  simp only [Nat.zero_le, if_true, List.drop_zero, Nat.sub_zero, List.length_map, ACap.cellsOf, Nat.mul_one, Nat.le_refl, List.map_map]
  have hm : ws.map ((fun x => (fzV 6 σ.cel x).na) ∘ eW) = G.map eSeg := by
    refine List.ext_getElem? fun j => ?_
    rw [List.getElem?_map, List.getElem?_map]
    by_cases hj : j < G.length
    · have e1 : ws[j]? = some (nth ws j) := nth_get? (by omega)
      have e2 : G[j]? = some (nth G j) := nth_get? hj
      rw [e1, e2]
      have := (h.bj j hj).fz encStp 4 (fl 4 _)
      simp only [Option.map_some, Function.comp_apply]
      rw [this]; rfl
    · rw [List.getElem?_eq_none (by omega), List.getElem?_eq_none (by omega)]; rfl
  rw [hm]
  have := chunks_one (G.map eSeg)
  rw [List.length_map] at this
  rw [hl, this]
  simp only [vl, List.map_map]
  rfl
theorem runs_ok (E N : Span) (nS : Bool) (S : List Stp) (h12 : S.length ≤ 12) : ans prog O 79 [eLog E N nS S] = some (.tuple [vl eStp (rns S).isEmpty (rns S), vl eSeg false (sgs S S.length)]) := by
  refine fn_of' pl get79 (oo (by decide)) rfl rfl ?_
  simp (disch := omega) [eLog, -Bool.exists_bool]
  refine Buf.push (lo := 1) (e := eW) (σ := (⟨0, 0, .leaf⟩ : AH).push (.cells [.int .i64 E.lo, .int .i64 E.hi, .int .i64 N.lo, .int .i64 N.hi, vl eStp nS S])) (v := .vsl true []) Buf.nil encW (by simp) (by simp) none (by simp [topBytes]) rfl fun v3 τ h3 g3 => ?_
  have n3 := g3.next
  have z0 : τ.get 0 = some (.cells [.int .i64 E.lo, .int .i64 E.hi, .int .i64 N.lo, .int .i64 N.hi, vl eStp nS S]) := by rw [g3.get 0 (by omega)]; simp
  have t0 : τ.lim = 0 := g3.lim
  have l0 := AH.get_lt z0
  simp (disch := omega) [Und, z0, l0, t0, -Bool.exists_bool]
  have hst : RnI 1 τ (.vsl true []) [] v3 [[]] [none] := by
    refine ⟨rfl, Buf.nil, h3, fun j hj => ?_, fun i hi => (by cases hi), fun j hj i hi => (by cases hi), fun j hj i hi h => ?_, fun j k hj hk hjk => ?_⟩
    · obtain rfl : j = 0 := by simpa using hj
      exact Buf.nil
    · obtain rfl : j = 0 := by simpa using hj
      cases h
    · simp at hj hk; omega
  refine lp_loop pl (fun k fr σ => ∃ (i : Nat) (v2 v3 : AV) (ws : List (Option (Nat × Nat))), i + k = S.length ∧ fr = ⟨[(2, v2), (3, v3), (11, vl eStp nS S), (12, .int .i64 S.length), (13, .int .i64 i)], []⟩ ∧ σ.lim = 0 ∧ 1 ≤ σ.next ∧ RnI 1 σ v2 (rnT S i) v3 (sgs S i) ws)
    ⟨S.length, 0, .vsl true [], v3, [none], by omega, rfl, t0, by omega, hst⟩ ?_
  rintro k _ σ ⟨i, v2, v3, ws, hi, rfl, s0, sn, hI⟩
  have hgl := sgs_len (S := S) i (by omega)
  have hrl := rnT_le S i
  by_cases hiS : i < S.length
  · have hiS' : (i : Int) < S.length := by omega
    have hrs := rnT_succ hiS
    have hrb : isRun (nth S i) = decide ((nth S i).k = 2) := rfl
    have hl2 := hI.b2.len
    have pre : ∀ τ : AH, τ.lim = 0 → τ.next = σ.next + 2 → (∀ z, z < σ.next → τ.get z = σ.get z) → RnI 1 τ v2 (rnT S i) v3 (sgs S i) ws := fun τ _ _ h => hI.keep fun z _ hz => h z hz
    by_cases hk : (nth S i).k = 2
    · rw [hrb, if_pos (by simp [hk])] at hrs
      have hsg : sgs S (i + 1) = sgs S i ++ [[]] := by simp only [sgs]; rw [hrb, if_pos (by simp [hk])]
      simp (disch := omega) [eStp, Und, s0, hiS', eq_true hk, -Bool.exists_bool]
      generalize hτ : AH.set (AH.push (AH.set (AH.push σ _) _ _) _) _ _ = τ
      have t0 : τ.lim = 0 := by rw [← hτ]; exact s0
      have tn : τ.next = σ.next + 2 := by rw [← hτ]; rfl
      have hI2 := pre τ t0 tn fun z hz => by
        have y1 : ¬ z = σ.next := by omega
        have y2 : ¬ z = σ.next + 1 := by omega
        rw [← hτ]; simp (disch := omega) [y1, y2]
      clear hτ
      rw [show σ.next + 1 + 1 = τ.next by omega]
      refine hI2.b2.push encStp (by omega) (by omega) (nth S i) (by simp only [topBytes]; omega) rfl fun v2' τ1 h1 g1 => ?_
      have hI3 := hI2.run h1 g1
      have u0 : τ1.lim = 0 := g1.lim.trans t0
      have un := g1.next
      simp (disch := omega) [Und, u0, -Bool.exists_bool]
      have hwl := hI3.len
      refine hI3.b3.push encW (by omega) (by omega) none (by rw [hwl]; simp only [topBytes]; omega) rfl fun v3' τ2 h2 g2 => ?_
      have w0 : τ2.lim = 0 := g2.lim.trans u0
      have wn := g2.next
      simp (disch := omega) [Und, w0, -Bool.exists_bool]
      exact ⟨k - 1, by omega, i + 1, by omega, v2', v3', ⟨rfl, rfl, by omega⟩, by omega, ws ++ [none], by rw [hrs, hsg]; exact hI3.part h2 g2⟩
    · rw [hrb, if_neg (by simp [hk]), List.append_nil] at hrs
      have hsg : sgs S (i + 1) = addL (sgs S i) (nth S i) := by simp only [sgs]; rw [hrb, if_neg (by simp [hk])]
      rcases id hI.b3 with ⟨e1, e2⟩ | ⟨o, rfl, o1, og, o4⟩
      · have := hI.len
        rw [e2] at this; simp at this; omega
      have hwl := hI.len
      have rl := rowOf_length encW ws
      have rc := row_cell encW (xs := ws) (j := (rnT S i).length) (c := 0) (by omega) (by omega)
      have lo := AH.get_lt og
      have b1 : ((rnT S i).length : Int) < ws.length := by omega
      have b2 : (rnT S i).length < ws.length := by omega
      have b3 : (rnT S i).length + 1 ≤ ws.length := by omega
      have z1 : ¬ o = σ.next := by omega
      have z2 : ¬ o = σ.next + 1 := by omega
      have hcw : (eW (nth ws (rnT S i).length)).cells[0]? = some (eW (nth ws (rnT S i).length)) := by cases nth ws (rnT S i).length <;> rfl
      rw [hcw] at rc
      simp at rl rc
      simp (disch := omega) [eStp, Und, eqf1, eqf2, s0, hiS', hk, hl2, og, lo, rl, rc, b1, b2, b3, z1, z2, -Bool.exists_bool, -getElem?_pos]
      refine ⟨by omega, ?_⟩
      generalize hτ : AH.under (AH.set (AH.push (AH.set (AH.push σ _) _ _) _) _ _) 0 = τ
      have t0 : τ.lim = 0 := by rw [← hτ]; rfl
      have tn : τ.next = σ.next + 2 := by rw [← hτ]; rfl
      have hI2 := pre τ t0 tn fun z hz => by
        have y1 : ¬ z = σ.next := by omega
        have y2 : ¬ z = σ.next + 1 := by omega
        rw [← hτ]; simp (disch := omega) [y1, y2]
      clear hτ
      rw [show σ.next + 1 + 1 = τ.next by omega]
      have hm : (rnT S i).length < (sgs S i).length := by omega
      have hgl2 : (nth (sgs S i) (rnT S i).length).length ≤ 12 := by
        have := sgs_sum S i (by omega) (rnT S i).length hm; omega
      refine (hI2.bj _ hm).push encStp (by omega) (by omega) (nth S i) (by simp only [topBytes]; omega) rfl fun v' τ1 h1 g1 => ?_
      obtain ⟨w', rfl⟩ := eW_of h1
      have u0 : τ1.lim = 0 := g1.lim.trans t0
      have un := g1.next
      have ng : o ∉ obj (eW (nth ws (rnT S i).length)) := hI.d3j _ hm o (by simp [obj])
      have og2 : τ1.get o = some (.cells (rowOf eW ws)) := by
        rw [g1.only.get o (by omega) ng]
        rcases id hI2.b3 with ⟨e1, _⟩ | ⟨o', e1, _, e3, _⟩
        · cases e1
        · cases e1; exact e3
      have lo2 := AH.get_lt og2
      have hw1 : (eW w').cells = [eW w'] := by cases w' <;> rfl
      have hw2 : (eW w').dfd = true := by cases w' <;> rfl
      have hw3 : (eW w').one = true := by cases w' <;> rfl
      have rs := rowOf_set encW (xs := ws) (j := (rnT S i).length) b2 w'
      rw [hw1] at rs
      simp at rs
      simp (disch := omega) [Und, eqf1, eqf2, u0, og2, lo2, rl, b3, hw1, hw2, hw3, rs, -Bool.exists_bool, -getElem?_pos]
      have hfin : RnI 1 (τ1.set o (.cells (rowOf eW (ws.set (rnT S i).length w')))) v2 (rnT S i) (.slice (some (o, 0)) ws.length (.op 1)) ((sgs S i).set (rnT S i).length (nth (sgs S i) (rnT S i).length ++ [nth S i])) (ws.set (rnT S i).length w') := by
        refine hI2.step hm h1 g1 (o := o) rfl ?_ (fun z _ _ hz => AH.get_set_other _ _ _ _ hz) (Nat.le_refl _)
        refine .inr ⟨o, by simp, o1, AH.get_set_same _ _ _ lo2, ?_⟩
        intro h; have := congrArg List.length h; simp at this; rw [this] at b2; simp at b2
      refine ⟨b2, k - 1, by omega, i + 1, by omega, v2, _, ⟨rfl, rfl, by omega⟩, by omega, ws.set (rnT S i).length w', ?_⟩
      rw [hrs, hsg]
      have ha : addL (sgs S i) (nth S i) = (sgs S i).set (rnT S i).length (nth (sgs S i) (rnT S i).length ++ [nth S i]) := by
        unfold addL
        rw [show (sgs S i).length - 1 = (rnT S i).length by omega]
      rw [ha]
      exact hfin
  · obtain rfl : i = S.length := by omega
    simp (disch := omega) [Und, s0, -Bool.exists_bool]
    have := hI.fz (by intro h; rw [h] at hgl; simp at hgl)
    rw [rnT_all] at this
    exact this
end Go.Oct.Wre.Fx
