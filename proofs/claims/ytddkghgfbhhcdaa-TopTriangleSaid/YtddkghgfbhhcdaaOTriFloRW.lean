/- Nets: what is reached, walked. -/
import Derived.Test.YtddkghgfbhhcdaaOTriFloR
set_option maxRecDepth 100000
set_option maxHeartbeats 4000000
set_option linter.unusedVariables false
set_option linter.unusedSimpArgs false
namespace Go.Oct.Tri
open Go.Oct
theorem eqf1 {a b : Nat} (h : a < b) : (a = b) = False := by simp; omega
theorem eqf2 {a b : Nat} (h : b < a) : (a = b) = False := by simp; omega
theorem marks_ok : ∀ (M : List Nat) (σ : AH), (∀ m ∈ M, σ.lim ≤ m) → M.Nodup → (∀ m ∈ M, σ.get m = some .dfr) → ∃ σ', takeMarks σ M = some σ' ∧ σ'.lim = σ.lim ∧ σ'.next = σ.next ∧ ∀ i, i ∉ M → σ'.get i = σ.get i
  | [], σ, hl, _, _ => ⟨σ, rfl, rfl, rfl, fun _ _ => rfl⟩
  | d :: M, σ, hl, hM, hd => by
    have hn := List.nodup_cons.1 hM
    have h1 := hd d (List.mem_cons_self ..)
    obtain ⟨σ', e1, e3, e4, e2⟩ := marks_ok M (σ.set d .dead) (fun m hm => hl m (List.mem_cons_of_mem _ hm)) hn.2 fun m hm => by
      rw [AH.get_set_other _ _ _ _ (by intro e; subst e; exact hn.1 hm)]; exact hd m (List.mem_cons_of_mem _ hm)
    refine ⟨σ', by simp only [takeMarks, h1, hl d (List.mem_cons_self ..), if_true, e1], e3, e4, fun i hi => ?_⟩
    rw [e2 i fun h => hi (List.mem_cons_of_mem _ h), AH.get_set_other _ _ _ _ (by intro e; subst e; exact hi (List.mem_cons_self ..))]
theorem putCells_all : ∀ (xs cs pre : List AV), xs.length = cs.length → putCells (pre ++ cs) pre.length xs = pre ++ xs
  | [], cs, pre, h => by
    have : cs = [] := List.eq_nil_of_length_eq_zero (by simpa using h.symm)
    subst this; rfl
  | x :: xs, [], pre, h => by simp at h
  | x :: xs, c :: cs, pre, h => by
    have := putCells_all xs cs (pre ++ [x]) (by simpa using h)
    rw [putCells_cons]
    have e : (pre ++ c :: cs).set pre.length x = (pre ++ [x]) ++ cs := by simp
    rw [e]
    have e2 : pre.length + 1 = (pre ++ [x]).length := by simp
    rw [e2, this]; simp
theorem putCells_full {xs cs : List AV} (h : xs.length = cs.length) : putCells cs 0 xs = xs := putCells_all xs cs [] h
theorem putCells_pre {xs cs ys : List AV} (h : xs.length = cs.length) : putCells (cs ++ ys) 0 xs = xs ++ ys := by
  have key : ∀ (xs cs pre : List AV), xs.length = cs.length → putCells (pre ++ (cs ++ ys)) pre.length xs = pre ++ (xs ++ ys) := by
    intro xs
    induction xs with
    | nil =>
      intro cs pre h
      have : cs = [] := List.eq_nil_of_length_eq_zero (by simpa using h.symm)
      subst this; rfl
    | cons x xs ih =>
      intro cs pre h
      cases cs with
      | nil => simp at h
      | cons c cs =>
        have := ih cs (pre ++ [x]) (by simpa using h)
        rw [putCells_cons]
        have e : (pre ++ (c :: cs ++ ys)).set pre.length x = (pre ++ [x]) ++ (cs ++ ys) := by simp
        have e2 : pre.length + 1 = (pre ++ [x]).length := by simp
        rw [e, e2, this]; simp
  exact key xs cs [] h
theorem eqCells_bools : ∀ (R W : List Bool), R.length = W.length → eqCells (List.replicate R.length .bool) (R.map AV.bool) (W.map AV.bool) = some (decide (R = W))
  | [], [], _ => rfl
  | [], _ :: _, h => by simp at h
  | _ :: _, [], h => by simp at h
  | a :: R, b :: W, h => by
    have := eqCells_bools R W (by simpa using h)
    simp only [List.length_cons, List.replicate_succ, List.map_cons, eqCells, this, Option.map_some, List.cons.injEq]
    congr 1
    cases a <;> cases b <;> simp
/-- A set of places, in cells. -/
def bC (R : List Bool) : List AV := R.map AV.bool
theorem bC_len {R : List Bool} (h : R.length = 17) : (bC R).length = 17 := by simp [bC, h]
theorem bC_one (R : List Bool) : (bC R).all AV.one = true := by simp [bC, Function.comp_def]
theorem bC_get {R : List Bool} {q : Nat} (h1 : R.length = 17) (hq : q < 17) : (bC R)[q]? = some (.bool (nth R q)) := by
  unfold bC
  rw [List.getElem?_map, nth_get? (by omega)]; rfl
theorem bC_set (R : List Bool) (q : Nat) (y : Bool) : (bC R).set q (.bool y) = bC (R.set q y) := by
  unfold bC; rw [List.map_set]
/-- What is reached, in cells. -/
def rC (R : List Bool) (F : List Int) : List AV := R.map AV.bool ++ F.map (AV.int .i64)
theorem rC_len {R : List Bool} {F : List Int} (h1 : R.length = 17) (h2 : F.length = 17) : (rC R F).length = 34 := by simp [rC, h1, h2]
theorem rC_is {R : List Bool} {F : List Int} {q : Nat} (h1 : R.length = 17) (hq : q < 17) : (rC R F)[q]? = some (.bool (nth R q)) := by
  unfold rC
  rw [List.getElem?_append_left (by simpa [h1] using hq), List.getElem?_map, nth_get? (by omega)]; rfl
theorem rC_far {R : List Bool} {F : List Int} {q : Nat} (h1 : R.length = 17) (h2 : F.length = 17) (hq : q < 17) : (rC R F)[17 + q]? = some (.int .i64 (nth F q)) := by
  unfold rC
  rw [List.getElem?_append_right (by simp [h1])]
  simp only [List.length_map, h1, Nat.add_sub_cancel_left]
  rw [List.getElem?_map, nth_get? (by omega)]; rfl
theorem rC_setR {R : List Bool} {F : List Int} {q : Nat} (h1 : R.length = 17) (hq : q < 17) (y : Bool) : (rC R F).set q (.bool y) = rC (R.set q y) F := by
  unfold rC
  rw [List.set_append_left _ _ (by simpa [h1] using hq), List.map_set]
theorem rC_setF {R : List Bool} {F : List Int} {q : Nat} (h1 : R.length = 17) (y : Int) : (rC R F).set (17 + q) (.int .i64 y) = rC R (F.set q y) := by
  unfold rC
  rw [List.set_append_right _ _ (by simp [h1])]
  simp [h1, List.map_set]
theorem rC_take {R : List Bool} {F : List Int} (h1 : R.length = 17) : (rC R F).take 17 = bC R := by
  unfold rC bC
  rw [List.take_left' (by simpa using h1)]
section
variable {T : Int} {nC : Bool} {C : List Bool} {aA : AV} {E : List Ed} {n i : Nat} {h L : List Int}
/-- One round of the steps. -/
structure RY (lm : Nat) (n0 : Nat) (σ0 : AH) (env : Env) (n : Nat) (p : Nat) (b : Int) (r : Nat) (E : List Ed) (h : List Int) (d : Int) (W : List Bool) (F0 : List Int) (m : Nat) (σ : AH) : Prop where
  lim : σ.lim = lm
  next : n0 + 5 ≤ σ.next
  low : ∀ k, k < n0 → k ≠ r → σ.get k = σ0.get k
  b1 : σ.get n0 = some (.cells [.ptr (some (n, 0))])
  b3 : σ.get (n0 + 1) = some (.cells [.int .i64 p])
  b2 : σ.get (n0 + 2) = some (.cells [.int .i64 b])
  mark : σ.get (n0 + 3) = some .dfr
  loop : σ.get (n0 + 4) = some (.loop 97 0 env .ready none (n0 + 3))
  mid : ∃ R F, σ.get r = some (.cells (rC R F)) ∧ RMid E h b d W F0 p m R F
theorem reached_call (hE : okE E) {S : List Bool} {b : Int} {σ : AH} {lm : Nat} (hl0 : σ.lim = lm) (hlm : lm ≤ σ.next) (hn : NetR T nC C aA E n i h L σ) (hS : S.length = 17) {K : AV → AH → Prop}
    (hk : ∀ R F σ', Reached E h b S R F → Only [] σ σ' → K (.agg (rC R F)) σ') :
    Call prog O (.fn 97) [.ptr (some (n, 0)),   .agg (bC S), .int .i64 b] σ K := by
  refine @call_of' _ _ pl _ _ _ _ _ _ _ ⟨K⟩ get97 ((oo (by decide)).2 _) rfl ?_
  have f1 : lm ≤ σ.next + 1 := by omega
  have f2 : lm ≤ σ.next + 1 + 1 := by omega
  have f3 : lm ≤ σ.next + 1 + 1 + 1 := by omega
  have ln := AH.get_lt hn.net
  have li := AH.get_lt hn.ang
  have hSl := bC_len hS
  have hS1 := bC_one S
  have hS2 : (bC S).take 17 = bC S := List.take_of_length_le (by omega)
  have hp1 : putCells [AV.bool false, AV.bool false, AV.bool false, AV.bool false, AV.bool false, AV.bool false, AV.bool false, AV.bool false, AV.bool false, AV.bool false, AV.bool false, AV.bool false, AV.bool false, AV.bool false, AV.bool false, AV.bool false, AV.bool false, Oct.L.z 0, Oct.L.z 0, Oct.L.z 0, Oct.L.z 0, Oct.L.z 0, Oct.L.z 0, Oct.L.z 0, Oct.L.z 0, Oct.L.z 0, Oct.L.z 0, Oct.L.z 0, Oct.L.z 0, Oct.L.z 0, Oct.L.z 0, Oct.L.z 0, Oct.L.z 0, Oct.L.z 0] 0 (bC S) = rC S zF :=
    putCells_pre (cs := List.replicate 17 (AV.bool false)) (ys := List.replicate 17 (Oct.L.z 0)) (xs := bC S) (by rw [bC_len hS]; rfl)
  have hp2 := rC_len hS zF_len
  have hp3 : ∀ (R : List Bool) (F : List Int), (rC R F).all AV.one = true := fun R F => by simp [rC, Function.comp_def]
  have hp3' := hp3 S zF
  simp (disch := omega) [hl0, f1, f2, f3, hSl, hS1, hS2, hp1, hp2, hp3', -Bool.exists_bool]
  have hzl := zF_len
  refine lp_loop pl (fun k fr τ => ∃ (d : Int) (R : List Bool) (F : List Int) (f : Nat) (M : List Nat), k + cnt R = 17 ∧ fr = ⟨[(0, .ptr (some (n, 0))), (2, .int .i64 b), (6, .ptr (some (σ.next + 1, 0))), (7, .ptr (some (σ.next + 1 + 1, 0))), (8, .ptr (some (f, 0)))], M⟩ ∧
      τ.lim = lm ∧ σ.next + 4 ≤ τ.next ∧ (∀ k, k < σ.next → τ.get k = σ.get k) ∧ (∃ cs, τ.get (σ.next + 1) = some (.cells cs) ∧ cs.length = 34) ∧ τ.get (σ.next + 2) = some (.cells (rC R F)) ∧ τ.get f = some (.cells [.int .i64 d]) ∧ σ.next + 3 ≤ f ∧ RInv E h b S d R F ∧ M.Nodup ∧ ∀ m ∈ M, σ.next + 3 ≤ m ∧ τ.get m = some .dfr)
    ⟨17 - cnt S, 1, S, zF, σ.next + 3, [], ?_, rfl, ?_, ?_, ?_, ?_, ?_, ?_, ?_, rinv_start hS, .nil, by simp⟩ ?_
  · have := cnt_le S; omega
  · simp [hl0]
  · simp
  · intro k hk
    simp (disch := omega) [eqf1, eqf2]
  · simp (disch := omega) [eqf1, eqf2]
  · simp (disch := omega) [eqf1, eqf2]
    exact putCells_full (by rw [hp2]; rfl)
  · simp (disch := omega) [eqf1, eqf2]
  · omega
  rintro k _ τ ⟨d, R, F, f, M, hkc, rfl, t0, tn, tg, ⟨cs, tcs, csl⟩, tr, tf, hf, hri, hM, hMd⟩
  have lf := AH.get_lt tf
  have hRt := rC_take (F := F) hri.rl
  have hRl := rC_len hri.rl hri.fl
  have hRm := bC_len hri.rl
  have hRo := bC_one R
  have f4 : lm ≤ τ.next := by omega
  simp (disch := omega) [Und, eqf1, eqf2, t0, f4, tr, hRt, hRl, hRm, hRo, -Bool.exists_bool]
  generalize hτ1 : AH.set (τ.push _) τ.next _ = τ1
  have u0 : τ1.lim = lm := by rw [← hτ1]; exact t0
  have un : τ1.next = τ.next + 1 := by rw [← hτ1]; rfl
  have ug : ∀ k, k < τ.next → τ1.get k = τ.get k := fun k hk => by rw [← hτ1, AH.get_set_other _ _ _ _ (by omega), AH.get_push_old _ _ _ (by omega)]
  have uw : τ1.get τ.next = some (.cells (bC R)) := by
    rw [← hτ1, AH.get_set_same _ _ _ (Nat.lt_succ_self _), putCells_full (by rw [hRm]; rfl)]
  refine lp_loop pl (fun k2 fr υ => ∃ (j : Nat) (R' : List Bool) (F' : List Int) (M' : List Nat), k2 + j = 17 ∧ fr = ⟨[(0, .ptr (some (n, 0))), (2, .int .i64 b), (6, .ptr (some (σ.next + 1, 0))), (7, .ptr (some (σ.next + 1 + 1, 0))), (8, .ptr (some (f, 0))), (9, .ptr (some (τ.next, 0))), (18, .int .i64 j)], M'⟩ ∧
      υ.lim = lm ∧ τ1.next ≤ υ.next ∧ (∀ k, k < τ1.next → k ≠ σ.next + 2 → υ.get k = τ1.get k) ∧ υ.get (σ.next + 2) = some (.cells (rC R' F')) ∧ RMid E h b d R F j 0 R' F' ∧ M'.Nodup ∧ ∀ m ∈ M', σ.next + 3 ≤ m ∧ υ.get m = some .dfr)
    ⟨17, 0, R, F, M, rfl, rfl, u0, Nat.le_refl _, fun _ _ _ => rfl, (ug _ (by omega)).trans tr, rmid_start hri, hM, fun m hm => ⟨(hMd m hm).1, by rw [ug m (AH.get_lt (hMd m hm).2)]; exact (hMd m hm).2⟩⟩ ?_
  rintro k2 _ υ ⟨j, R', F', M', hj, rfl, v0, vn, vg, vr, hmid, hM', hMd'⟩
  have vw : υ.get τ.next = some (.cells (bC R)) := (vg _ (by omega) (by omega)).trans uw
  have vf : υ.get f = some (.cells [.int .i64 d]) := (vg f (by omega) (by omega)).trans ((ug f lf).trans tf)
  by_cases hj17 : j < 17
  · have hRj := bC_get hri.rl hj17
    have hj17' : (j : Int) < 17 := by omega
    have hj16 : j ≤ 16 := by omega
    cases hRt : nth R j with
    | false =>
      rw [hRt] at hRj
      simp (disch := omega) [Und, v0, vw, hj17', hj16, hRj, hRm, -Bool.exists_bool, -getElem?_pos]
      exact ⟨k2 - 1, by omega, j + 1, by omega, R', F', M', ⟨by omega, rfl⟩, by omega, vg, vr, rmid_skip hmid hRt, hM', hMd'⟩
    | true =>
      rw [hRt] at hRj
      simp (disch := omega) [Und, v0, vw, hj17', hj16, hRj, hRm, -Bool.exists_bool, -getElem?_pos]
      refine steps_call ?_
      simp (disch := omega) [Und, -Bool.exists_bool]
      refine rg_of (h := 149) (xs := []) (ys := [.ptr (some (υ.next, 0)), .ptr (some (υ.next + 2, 0)), .ptr (some (υ.next + 1, 0))]) rfl ?_
      generalize hυ1 : AH.push _ (.cells [.int .i64 b]) = υ1
      have w0 : υ1.lim = lm := by rw [← hυ1]; exact v0
      have wn : υ1.next = υ.next + 3 := by rw [← hυ1]; rfl
      have wg : ∀ k, k < υ.next → υ1.get k = υ.get k := fun k hk => by rw [← hυ1]; simp (disch := omega) [eqf1, eqf2]
      have wb1 : υ1.get υ.next = some (.cells [.ptr (some (n, 0))]) := by rw [← hυ1]; simp (disch := omega) [eqf1, eqf2]
      have wb3 : υ1.get (υ.next + 1) = some (.cells [.int .i64 j]) := by rw [← hυ1]; simp (disch := omega) [eqf1, eqf2]
      have wb2 : υ1.get (υ.next + 2) = some (.cells [.int .i64 b]) := by rw [← hυ1]; simp (disch := omega) [eqf1, eqf2]
      show Call prog O (.fn 149) [.func (.yield (υ1.next + 1)) [] [], .ptr (some (υ.next, 0)), .ptr (some (υ.next + 2, 0)), .ptr (some (υ.next + 1, 0))] _ _
      have vnn : υ.get n = some (.cells (netC T nC C aA i E.length L)) := by
        rw [vg n (by omega) (by omega), ug n (by omega), tg n ln]; exact hn.net
      have vni : υ.get i = some (.cells (gRow E h)) := by
        rw [vg i (by omega) (by omega), ug i (by omega), tg i li]; exact hn.ang
      generalize henv : (List.cons _ _ : Env) = env
      rw [wn]
      refine steps1_ok (T := T) (nC := nC) (C := C) (aA := aA) (n := n) (i := i) (h := h) (L := L) hE (b1 := υ.next) (b2 := υ.next + 2) (b3 := υ.next + 1) (lo := υ.next + 5) (lm := lm) (b := b) (p := j)
        (I := fun m s => RY lm υ.next υ env n j b (σ.next + 2) E h d R F m s) (J := fun _ => False) (fun m s hI => ?_) (fun m s s' hI ho => ?_) (fun m s hI hm hno => ?_) (fun m s q w hI hm hs => ?_) ?_ (fun s hI => ?_) (fun s hj => hj.elim)
      · obtain ⟨y0, y1, y2, y3, y4, y5, y6, y7, y8⟩ := hI
        have z1 : s.get n = _ := (y2 n (by omega) (by omega)).trans vnn
        have z2 : s.get i = _ := (y2 i (by omega) (by omega)).trans vni
        exact ⟨⟨z1, z2, hn.ne, hn.ll, hn.bd⟩, y3, y5, y4, y1, by omega, by omega, by omega, y0, by omega⟩
      · obtain ⟨y0, y1, y2, y3, y4, y5, y6, y7, Q, G, y8, y9⟩ := hI
        have og : ∀ k, k < s.next → s'.get k = s.get k := fun k hk => ho.get k hk (by simp)
        have hnx := ho.next
        exact ⟨ho.lim.trans y0, by omega, fun k h1 h2 => (og k (by omega)).trans (y2 k h1 h2), (og _ (by omega)).trans y3, (og _ (by omega)).trans y4, (og _ (by omega)).trans y5, (og _ (by omega)).trans y6, (og _ (by omega)).trans y7, Q, G, (og _ (AH.get_lt y8)).trans y8, y9⟩
      · obtain ⟨y0, y1, y2, y3, y4, y5, y6, y7, Q, G, y8, y9⟩ := hI
        exact ⟨y0, y1, y2, y3, y4, y5, y6, y7, Q, G, y8, rmid_none y9 hno⟩
      · obtain ⟨y0, y1, y2, y3, y4, y5, y6, y7, Q, G, y8, y9⟩ := hI
        obtain ⟨_, q17⟩ := stp_lt hE hs
        have q17' : (q : Int) < 17 := by omega
        have q16 : q ≤ 16 := by omega
        have hQ := rC_is (F := G) y9.rl q17
        have hQl := rC_len y9.rl y9.fl
        have hGl := rC_far y9.rl y9.fl q17
        have sf : s.get f = some (.cells [.int .i64 d]) := (y2 f (by omega) (by omega)).trans vf
        refine yield_of' pl y7 get97 rfl rfl (by omega) rfl ?_
        subst henv
        have f5 : lm ≤ s.next := by omega
        simp (disch := omega) [y0, f5, Und, -Bool.exists_bool]
        generalize hs1 : AH.set (s.push _) s.next _ = s1
        have x0 : s1.lim = lm := by rw [← hs1]; exact y0
        have xn : s1.next = s.next + 1 := by rw [← hs1]; rfl
        have xg : ∀ k, k < s.next → s1.get k = s.get k := fun k hk => by rw [← hs1, AH.get_set_other _ _ _ _ (by omega), AH.get_push_old _ _ _ (by omega)]
        have xs : s1.get s.next = some (.cells [.int .i64 m, .int .i64 q, .int .i64 w]) := by rw [← hs1, AH.get_set_same _ _ _ (Nat.lt_succ_self _)]
        have x7 : s1.get (υ.next + 3 + 1) = _ := (xg (υ.next + 4) (by omega)).trans y7
        have x8 : s1.get (σ.next + 1 + 1) = _ := (xg (σ.next + 2) (by omega)).trans y8
        have xf : s1.get f = _ := (xg f (by omega)).trans sf
        rw [ak_of x7]
        have r1 := AH.get_lt x8
        have q33 : q ≤ 33 := by omega
        have r3 : s.next < s1.next := by omega
        have r4 : f < s1.next := by omega
        have r2 : ¬ f = σ.next + 1 + 1 := by rintro rfl; rw [x8] at xf; simp at xf; have := congrArg List.length xf; rw [hQl] at this; simp at this
        have r5 := AH.get_lt x7
        generalize hob : AObj.loop _ _ _ LoopState.busy none (υ.next + 3) = ob
        generalize hs2 : s1.set (υ.next + 3 + 1) ob = s2
        have t0' : s2.lim = lm := by rw [← hs2]; exact x0
        have tn' : s2.next = s1.next := by rw [← hs2]; rfl
        have tg' : ∀ k, k ≠ υ.next + 4 → s2.get k = s1.get k := fun k hk => by rw [← hs2, AH.get_set_other _ _ _ _ hk]
        have t7' : s2.get (υ.next + 3 + 1) = some ob := by rw [← hs2, AH.get_set_same _ _ _ r5]
        rw [← hob] at t7'
        have t8' : s2.get (σ.next + 1 + 1) = _ := (tg' _ (by omega)).trans x8
        have tf' : s2.get f = _ := (tg' f (by omega)).trans xf
        have ts' : s2.get s.next = _ := (tg' s.next (by omega)).trans xs
        cases hQq : nth Q q with
        | true =>
          rw [hQq] at hQ
          simp (disch := omega) [eqf1, eqf2, t0', t8', tf', ts', q17', q16, q33, hQ, hQl, Und, -Bool.exists_bool, -getElem?_pos]
          refine bd_normal t7' ⟨rfl, ⟨t0', by simp [tn', xn]; omega, fun k h1 h2 => ?_, ?_, ?_, ?_, ?_, ?_, Q, G, ?_, rmid_old hE y9 hs hQq⟩, ⟨t0'.trans y0.symm, by simp [tn', xn], fun k h1 h2 => ?_⟩⟩
          · rw [AH.get_set_other _ _ _ _ (by omega), tg' k (by omega), xg k (by omega)]; exact y2 k h1 h2
          · rw [AH.get_set_other _ _ _ _ (by omega), tg' _ (by omega), xg _ (by omega)]; exact y3
          · rw [AH.get_set_other _ _ _ _ (by omega), tg' _ (by omega), xg _ (by omega)]; exact y4
          · rw [AH.get_set_other _ _ _ _ (by omega), tg' _ (by omega), xg _ (by omega)]; exact y5
          · rw [AH.get_set_other _ _ _ _ (by omega), tg' _ (by omega), xg _ (by omega)]; exact y6
          · exact AH.get_set_same _ _ _ (by omega)
          · rw [AH.get_set_other _ _ _ _ (by omega)]; exact t8'
          · rw [AH.get_set_other _ _ _ _ (by omega), tg' k (by omega), xg k h2]
        | false =>
          rw [hQq] at hQ
          have e1 := rC_setR (F := G) y9.rl q17 true
          have e2 := rC_setF (R := Q.set q true) (F := G) (q := q) (by simpa using y9.rl) d
          have e3 := rC_len (R := Q.set q true) (F := G) (by simpa using y9.rl) y9.fl
          have r6 : σ.next + 1 + 1 < s2.next := by omega
          simp (disch := omega) [eqf1, eqf2, t0', f2, tn', t8', tf', ts', r1, r2, r3, r4, q17', q16, q33, hQ, hQl, e1, Und, -Bool.exists_bool, -getElem?_pos]
          refine ⟨by omega, ?_⟩
          rw [e2]
          generalize hs3 : AH.set (s2.set (σ.next + 1 + 1) _) (σ.next + 1 + 1) _ = s3
          have g0 : s3.lim = lm := by rw [← hs3]; exact t0'
          have gn : s3.next = s2.next := by rw [← hs3]; rfl
          have gg : ∀ k, k ≠ σ.next + 2 → s3.get k = s2.get k := fun k hk => by rw [← hs3, AH.get_set_other _ _ _ _ hk, AH.get_set_other _ _ _ _ hk]
          have g8 : s3.get (σ.next + 2) = some (.cells (rC (Q.set q true) (G.set q d))) := by rw [← hs3]; exact AH.get_set_same _ _ _ (by exact r6)
          have g7 : s3.get (υ.next + 3 + 1) = _ := (gg _ (by omega)).trans t7'
          refine bd_normal g7 ⟨rfl, ⟨g0, by simp [gn, tn', xn]; omega, fun k h1 h2 => ?_, ?_, ?_, ?_, ?_, ?_, Q.set q true, G.set q d, ?_, rmid_new hE hri y9 hRt hs hQq⟩, ⟨g0.trans y0.symm, by simp [gn, tn', xn], fun k h1 h2 => ?_⟩⟩
          · rw [AH.get_set_other _ _ _ _ (by omega), gg k (by omega), tg' k (by omega), xg k (by omega)]; exact y2 k h1 h2
          · rw [AH.get_set_other _ _ _ _ (by omega), gg _ (by omega), tg' _ (by omega), xg _ (by omega)]; exact y3
          · rw [AH.get_set_other _ _ _ _ (by omega), gg _ (by omega), tg' _ (by omega), xg _ (by omega)]; exact y4
          · rw [AH.get_set_other _ _ _ _ (by omega), gg _ (by omega), tg' _ (by omega), xg _ (by omega)]; exact y5
          · rw [AH.get_set_other _ _ _ _ (by omega), gg _ (by omega), tg' _ (by omega), xg _ (by omega)]; exact y6
          · exact AH.get_set_same _ _ _ (by omega)
          · rw [AH.get_set_other _ _ _ _ (by omega)]; exact g8
          · rw [AH.get_set_other _ _ _ _ (by omega), gg k (by omega), tg' k (by omega), xg k h2]
      · refine ⟨w0, by simp [wn], fun k h1 h2 => ?_, ?_, ?_, ?_, ?_, ?_, R', F', ?_, hmid⟩
        · simp (disch := omega) [eqf1, eqf2, wn, wg k h1]
        · simp (disch := omega) [eqf1, eqf2, wn, wb1]
        · simp (disch := omega) [eqf1, eqf2, wn, wb3]
        · simp (disch := omega) [eqf1, eqf2, wn, wb2]
        · simp (disch := omega) [eqf1, eqf2, wn]
        · simp (disch := omega) [eqf1, eqf2, wn]
        · simp (disch := omega) [eqf1, eqf2, wn, wg (σ.next + 2) (by omega), vr]
      · obtain ⟨y0, y1, y2, y3, y4, y5, y6, y7, Q, G, y8, y9⟩ := hI
        refine ⟨_, _, _, _, _, _, y7, by simp, by rw [y0]; omega, ?_⟩
        subst henv
        generalize hs4 : s.set (υ.next + 3 + 1) _ = s4
        have f0 : s4.lim = lm := by rw [← hs4]; exact y0
        have fn : s4.next = s.next := by rw [← hs4]; rfl
        have fg : ∀ k, k ≠ υ.next + 4 → s4.get k = s.get k := fun k hk => by rw [← hs4]; exact AH.get_set_other _ _ _ _ hk
        simp (disch := omega) [Und, -Bool.exists_bool]
        refine ⟨k2 - 1, by omega, j + 1, by omega, Q, G, (υ.next + 3) :: M', ⟨by omega, rfl⟩, f0, by omega, fun k h1 h2 => ?_, ?_, rmid_next y9, List.nodup_cons.2 ⟨fun hm => by have := AH.get_lt (hMd' _ hm).2; omega, hM'⟩, fun m hm => ?_⟩
        · rw [fg k (by omega), y2 k (by omega) (by omega)]; exact vg k h1 h2
        · rw [fg _ (by omega)]; exact y8
        · rcases List.mem_cons.1 hm with rfl | hm
          · exact ⟨by omega, by rw [fg _ (by omega)]; exact y6⟩
          · have h1 := hMd' m hm
            have h2 := AH.get_lt h1.2
            refine ⟨h1.1, ?_⟩
            rw [fg m (by omega), y2 m h2 (by rintro rfl; rw [vr] at h1; cases h1.2)]; exact h1.2
  · obtain rfl : j = 17 := by omega
    have e1 := bC_len hmid.rl
    have e2 := rC_take (F := F') hmid.rl
    have e3 := rC_len hmid.rl hmid.fl
    have e4 : eqCells [Leaf.bool, Leaf.bool, Leaf.bool, Leaf.bool, Leaf.bool, Leaf.bool, Leaf.bool, Leaf.bool, Leaf.bool, Leaf.bool, Leaf.bool, Leaf.bool, Leaf.bool, Leaf.bool, Leaf.bool, Leaf.bool, Leaf.bool] (bC R) (bC R') = some (decide (R = R')) := by
      have := eqCells_bools R R' (hri.rl.trans hmid.rl.symm)
      rw [hri.rl] at this; exact this
    have e5 := bC_one R'
    have e6 : (bC R).take 17 = bC R := List.take_of_length_le (by omega)
    by_cases hRR : R = R'
    · have hro := hp3 R' F'
      have vc : υ.get (σ.next + 1) = some (.cells cs) := by rw [vg _ (by omega) (by omega), ug _ (by omega)]; exact tcs
      have lc := AH.get_lt vc
      have hpc : putCells cs 0 (rC R' F') = rC R' F' := putCells_full (by rw [e3, csl])
      have e7 : (rC R' F').take 34 = rC R' F' := List.take_of_length_le (by omega)
      rw [hRR] at e4 e6 hRm
      simp (disch := omega) [eqf1, eqf2, Und, v0, f1, vw, vr, vf, vc, lc, csl, hRR, hRm, e1, e2, e3, e4, e6, e7, hro, hpc, -Bool.exists_bool, -getElem?_pos]
      have hfin : Reached E h b S R' F' := by
        have a := hri
        have b := hmid
        rw [hRR] at a b
        exact rmid_end hE a b
      generalize hω : υ.set (σ.next + 1) _ = ω
      have o0 : ω.lim = lm := by rw [← hω]; exact v0
      have on : ω.next = υ.next := by rw [← hω]; rfl
      have og : ∀ k, k ≠ σ.next + 1 → ω.get k = υ.get k := fun k hk => by rw [← hω]; exact AH.get_set_other _ _ _ _ hk
      have o1 : ω.get (σ.next + 1) = some (.cells (rC R' F')) := by rw [← hω]; exact AH.get_set_same _ _ _ lc
      obtain ⟨ω2, p1, p2, p3, p4⟩ := marks_ok M' ω (fun m hm => by have := (hMd' m hm).1; omega) hM' fun m hm => by
        have h1 := hMd' m hm
        rw [og m (by omega)]; exact h1.2
      refine ⟨ω2, p1, [.agg (rC R' F')], ?_, hk R' F' ω2 hfin ⟨p2.trans (o0.trans hl0.symm), by omega, fun k hk _ => ?_⟩⟩
      · have e8 : ω2.get (σ.next + 1) = some (.cells (rC R' F')) := by
          rw [p4 _ fun hm => by have := (hMd' _ hm).1; omega]; exact o1
        simp (disch := omega) [e8, e3, e7]
      · rw [p4 k fun hm => by have := (hMd' k hm).1; omega, og k (by omega), vg k (by omega) (by omega), ug k (by omega), tg k hk]
    · have f6 : lm ≤ υ.next := by omega
      simp (disch := omega) [eqf1, eqf2, Und, v0, f6, vw, vr, vf, hRm, e1, e2, e3, e4, e6, hRR, -Bool.exists_bool, -getElem?_pos]
      have hd := hri.lo
      have hd2 := hri.hi
      have hsub : ∀ q, q < R.length → nth R q = true → nth R' q = true := fun q hq hw => (hmid.old q (by have := hri.rl; omega) hw).1
      have hc := cnt_lt (hri.rl.trans hmid.rl.symm) hsub hRR
      have hc2 := cnt_le R'
      rw [hmid.rl] at hc2
      refine ⟨17 - cnt R', by omega, d + 1, R', by omega, F', υ.next, M', ⟨rfl, rfl⟩, by omega, fun k hk => ?_, ⟨cs, ?_, csl⟩, rfl, ?_, by omega, rmid_round hE hri hmid hRR, hM', fun m hm => ?_⟩
      · rw [if_neg (by omega), if_neg (by omega), vg k (by omega) (by omega), ug k (by omega), tg k hk, if_neg (by omega)]
      · rw [vg _ (by omega) (by omega), ug _ (by omega)]; exact tcs
      · rw [if_pos rfl, w64_id _ (by omega) (by omega)]
      · have h1 := hMd' m hm
        have h2 := AH.get_lt h1.2
        exact ⟨h1.1, by rw [if_neg (by omega), if_neg (by omega), if_neg (by omega)]; exact h1.2⟩
end
end Go.Oct.Tri
