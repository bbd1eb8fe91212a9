/- Plan: the pieces that can be made today, and the program's plan. -/
import Derived.Test.YtddkghgfbhhcdaaGreatDoorOStkCan
import Derived.Test.YtddkghgfbhhcdaaGreatDoorOStkPrt
import Derived.Test.YtddkghgfbhhcdaaGreatDoorOT4
set_option maxRecDepth 100000
set_option maxHeartbeats 8000000
set_option linter.unusedVariables false
set_option linter.unusedSimpArgs false
namespace Go.Oct.Stk.Sh
open Go.Oct
theorem marks_ok : ∀ (M : List Nat) (σ : AH), σ.lim = 0 → M.Nodup → (∀ m ∈ M, σ.get m = some .dfr) → ∃ σ', takeMarks σ M = some σ' ∧ ∀ i, i ∉ M → σ'.get i = σ.get i
  | [], σ, _, _, _ => ⟨σ, rfl, fun _ _ => rfl⟩
  | d :: M, σ, hl, hM, hd => by
    have hn := List.nodup_cons.1 hM
    have h1 := hd d (List.mem_cons_self ..)
    obtain ⟨σ', e1, e2⟩ := marks_ok M (σ.set d .dead) hl hn.2 fun m hm => by
      rw [AH.get_set_other _ _ _ _ (by intro e; subst e; exact hn.1 hm)]; exact hd m (List.mem_cons_of_mem _ hm)
    refine ⟨σ', by simp only [takeMarks, h1, hl, Nat.zero_le, if_true, e1], fun i hi => ?_⟩
    rw [e2 i fun h => hi (List.mem_cons_of_mem _ h), AH.get_set_other _ _ _ _ (by intro e; subst e; exact hi (List.mem_cons_self ..))]
structure YI (l : List Pc) (D : Nat → Bool) (n0 : Nat) (σ0 : AH) (env : Env) (j : Nat) (σ : AH) : Prop where
  lim : σ.lim = 0
  next : n0 + 5 ≤ σ.next
  b1 : σ.get (n0 + 1) = some (.cells [vl eP5 false (pcsL l l.length)])
  b2 : σ.get (n0 + 2) = some (.cells (bc D))
  mark : σ.get (n0 + 3) = some .dfr
  loop : σ.get (n0 + 4) = some (.loop 22 0 env .ready none (n0 + 3))
  low : ∀ k, k < n0 → σ.get k = σ0.get k
  buf : ∃ v, σ.get n0 = some (.cells [v]) ∧ Buf (n0 + 5) 5 eP5 σ v ((tdy l D j).map (p5At l))
theorem YI.stay {l : List Pc} {D : Nat → Bool} {n0 : Nat} {σ0 : AH} {env : Env} {j : Nat} {σ τ : AH} (h : YI l D n0 σ0 env j σ) (h1 : τ.lim = σ.lim) (h2 : σ.next ≤ τ.next) (h3 : ∀ i, i < σ.next → τ.get i = σ.get i) : YI l D n0 σ0 env j τ := by
  have hn := h.next
  obtain ⟨v, v1, v2⟩ := h.buf
  exact ⟨by rw [h1]; exact h.lim, by omega, by rw [h3 _ (by omega)]; exact h.b1, by rw [h3 _ (by omega)]; exact h.b2, by rw [h3 _ (by omega)]; exact h.mark, by rw [h3 _ (by omega)]; exact h.loop, fun k hk => by rw [h3 _ (by omega)]; exact h.low k hk,
    v, by rw [h3 _ (by omega)]; exact v1, v2.keep fun i _ h5 => h3 i h5⟩
abbrev envP (n0 : Nat) (v1 v4 v5 v7 v8 v9 : AV) : Env := [(1, v1), (4, v4), (5, v5), (7, v7), (8, v8), (9, v9), (10, .ptr (some (n0, 0))), (26, .func (.func 72) [] [.ptr (some (n0 + 1, 0)), .ptr (some (n0 + 1 + 1, 0))])]
theorem eqCells_bc (f g : Nat → Bool) : eqCells [Leaf.bool, Leaf.bool, Leaf.bool, Leaf.bool, Leaf.bool, Leaf.bool, Leaf.bool, Leaf.bool, Leaf.bool, Leaf.bool, Leaf.bool, Leaf.bool] (bc f) (bc g) = some ((List.range 12).all fun i => f i == g i) := rfl
theorem asl_op {i len n : Nat} (h : n ≤ len) : ∃ c', aslS 5 (.slice (some (i, 0)) len (.op 5)) none (some (.int .i64 n)) none = some (.slice (some (i, 0)) n c') := by
  simp only [aslS, abounds_h]
  rw [if_pos (by simp only [ACap.sure]; omega)]
  simp [ACap.less]
theorem yieldP {l : List Pc} (ho : okOrd l) {D : Nat → Bool} {n0 : Nat} {σ0 : AH} {env : Env} {j : Nat} {σ : AH} {v1 v4 v5 v7 v8 v9 : AV} (henv : env = envP n0 v1 v4 v5 v7 v8 v9) (hj : j < l.length) (hi : YI l D n0 σ0 env j σ) (ha : av l D j = true) :
    Call prog O (.yield (n0 + 4)) [eP5 (p5At l j)] σ (fun r σ' => r = .bool true ∧ YI l D n0 σ0 env (j + 1) σ') := by
  have hl := ho.1
  obtain ⟨l0, l1, l2, l3, l4, l5, l6, v, g0, hbuf⟩ := hi
  refine yield_of' pl l5 get22 rfl rfl (by omega) rfl ?_
  subst henv
  have k0 : n0 < σ.next := by omega
  have k4 : ¬ n0 = σ.next := by omega
  have k5 : ¬ n0 = n0 + 4 := by omega
  simp (disch := omega) [l0, g0, k0, k4, k5, eqF1, eqF2, p5At, eP5]
  generalize hτ : AH.set _ σ.next _ = τ
  have τl : τ.lim = 0 := by rw [← hτ]; exact l0
  have τn : τ.next = σ.next + 1 := by rw [← hτ]; rfl
  have τg : ∀ i, i < σ.next → τ.get i = σ.get i := fun i h1 => by rw [← hτ]; simp (disch := omega) [eqF1]
  have τ5 : τ.get σ.next = some (.cells (pcC (p5At l j))) := by rw [← hτ]; simp [p5At]
  have τL := (τg _ (by omega)).trans l5
  have τ0 := (τg _ (by omega)).trans g0
  have τb : Buf (n0 + 5) 5 eP5 τ v ((tdy l D j).map (p5At l)) := hbuf.keep fun i _ h5 => τg i h5
  have w0 := AH.get_lt τ0
  have w5 := AH.get_lt τ5
  have hlen := tdy_le l D j
  simp (disch := omega) [ak_of τL, τl, τ0, τ5, w0, w5, k4, k5, eqF1, eqF2, -Bool.exists_bool]
  rw [← AH.next_set τ (n0 + 4)]
  refine (τb.keep (σ' := τ.set (n0 + 4) _) fun i h5 _ => AH.get_set_other _ _ _ _ (by omega)).push encP5 (by simp [τl]) (by simp; omega) (p5At l j) (by rw [List.length_map]; simp only [topBytes]; omega) rfl fun v' σ1 h3 h4 => ?_
  have s0 : σ1.get n0 = some (.cells [v]) := by rw [h4.get n0 (by omega), AH.get_set_other _ _ _ _ (by omega)]; exact τ0
  have sL : σ1.get (n0 + 4) = some (.loop 22 0 (envP n0 v1 v4 v5 v7 v8 v9) .busy none (n0 + 3)) := by rw [h4.get _ (by omega)]; exact AH.get_set_same _ _ _ (by omega)
  have sg : ∀ i, i < n0 + 4 → σ1.get i = σ.get i := fun i hi => by rw [h4.get i (by omega), AH.get_set_other _ _ _ _ (by omega)]; exact τg i (by omega)
  have sl := h4.lim
  have sn := h4.next
  have w1 := AH.get_lt s0
  have w2 := AH.get_lt sL
  have sl2 : σ1.lim = 0 := by rw [sl]; exact τl
  have hv : v'.dfd = true ∧ v'.cells = [v'] ∧ v'.one = true := by rcases h3 with ⟨rfl, _⟩ | ⟨i', rfl, _⟩ <;> exact ⟨rfl, rfl, rfl⟩
  simp (disch := omega) [sl2, s0, w1, hv, -Bool.exists_bool]
  refine bd_normal (f := 22) (i := 0) (env := envP n0 v1 v4 v5 v7 v8 v9) (st := .busy) (pd := none) (d := n0 + 3) ?_ ?_
  · rw [AH.get_set_other _ _ _ _ (by omega)]; exact sL
  refine ⟨rfl, ?_⟩
  refine ⟨sl2, by simp; simp at sn; omega, ?_, ?_, ?_, ?_, ?_, v', ?_, ?_⟩
  · simp (disch := omega) [eqF1, eqF2]; rw [sg _ (by omega)]; exact l2
  · simp (disch := omega) [eqF1, eqF2]; rw [sg _ (by omega)]; exact l3
  · simp (disch := omega) [eqF1, eqF2]; rw [sg _ (by omega)]; exact l4
  · exact AH.get_set_same _ _ _ (by simpa using w2)
  · intro k hk
    simp (disch := omega) [eqF1, eqF2]; rw [sg _ (by omega)]; exact l6 k hk
  · simp (disch := omega) [eqF1, eqF2, w1]
  · rw [tdy_succ, ha, if_pos rfl, List.map_append]
    exact h3.keep fun i h5 _ => by rw [AH.get_set_other _ _ _ _ (by omega), AH.get_set_other _ _ _ _ (by omega)]
theorem Part_len {l : List Pc} {m : Nat} {P : Plan} (h : Part l m P) : ∀ d, d ≤ P.length → d ≤ (flat P d).length
  | 0, _ => Nat.zero_le _
  | d + 1, hd => by
    have h1 := Part_len h d (by omega)
    have h2 := List.length_pos_iff.2 (h.ne d (by omega))
    simp only [flat, List.length_append]
    omega
theorem rowsKeep {α : Type} {e : α → AV} {z lo : Nat} {σ σ' : AH} {v : AV} {rs : List (List α)} (h : RowsB lo z e σ v rs) (hk : ∀ k, lo ≤ k → k < σ.next → σ'.get k = σ.get k) : RowsB lo z e σ' v rs := by
  obtain ⟨xs, h1, h3, h5⟩ := h
  refine ⟨xs, h1, h3.keep hk, fun x hx => ?_⟩
  obtain ⟨a, b, c⟩ := h5 x hx
  exact ⟨a, by rw [hk _ a (AH.get_lt b)]; exact b, c⟩
theorem rowsCells {α : Type} {e : α → AV} {z lo : Nat} {σ : AH} {v : AV} {rs : List (List α)} (h : RowsB lo z e σ v rs) : ∀ i ∈ obj v, ∃ cs, σ.get i = some (.cells cs) := by
  obtain ⟨xs, h1, h3, h5⟩ := h
  rcases h3 with ⟨rfl, _⟩ | ⟨i, rfl, _, h3, _⟩
  · intro i hi; simp [obj] at hi
  · intro q hq; simp [obj] at hq; subst hq; exact ⟨_, h3⟩
theorem sortNil_ok {σ : AH} {K : AV → AH → Prop} (hK : K (.tuple []) σ) : Call prog O (.fn 45) [.vsl true [], .func (.func 46) [] []] σ K := by
  refine @call_of' _ _ pl _ _ _ _ _ _ _ ⟨K⟩ get45 ((oo (by decide)).2 _) rfl ?_
  obtain ⟨l, hl⟩ := Len_ok 0 (by omega)
  simp (disch := omega) [aconv_u64]
  simp at hl
  simp (disch := omega) [hl]
  refine @call_of' _ _ pl _ _ _ _ _ _ _ ⟨_⟩ get75 ((oo (by decide)).2 _) rfl ?_
  simp (disch := omega) []
  refine lp_loop pl (fun k fr σ' => k = 0 ∧ fr = ⟨[(0, .vsl true []), (1, .int .i64 0), (2, .int .i64 0), (3, .int .i64 l), (4, .func (.func 46) [] []), (10, .bool true), (11, .bool true)], []⟩ ∧ σ' = σ) ⟨0, rfl, rfl, rfl⟩ ?_
  rintro k _ s ⟨rfl, rfl, rfl⟩
  simp (disch := omega) [Und]
  refine @call_of' _ _ pl _ _ _ _ _ _ _ ⟨_⟩ get109 ((oo (by decide)).2 _) rfl ?_
  simp (disch := omega) []
  refine lp_loop pl (fun k fr σ' => k = 0 ∧ fr = ⟨[(0, .vsl true []), (1, .int .i64 0), (2, .int .i64 0), (3, .func (.func 46) [] []), (8, .int .i64 1)], []⟩ ∧ σ' = s) ⟨0, rfl, rfl, rfl⟩ ?_
  rintro k _ s ⟨rfl, rfl, rfl⟩
  simp (disch := omega) [Und]
  exact hK
theorem Plan_ok (nl : Bool) (l : List Pc) (men : Int) (ho : okOrd l) (hm : 1 ≤ men ∧ men ≤ 12) :
    ∃ v, (∃ Q : Plan, v = .tuple [vl eRow false Q, .int .i64 0] ∧ okPlan l men Q ∧ ∃ j : Nat, j < height l ∧ (Q.length : Int) ≤ bnd l men j) ∧ ans prog O 22 [vl ePc nl l, .int .i64 men] = some v := by
  have hl := ho.1
  refine fn_ex pl _ get22 (oo (by decide)) rfl rfl ?_
  have hpc := pieces_ok nl l ho
  have hask : askV l men = 0 := by unfold askV; rw [if_pos ho, if_pos hm]
  simp (disch := omega) [hask, hpc, -Bool.exists_bool]
  refine lp_loop pl (fun k fr σ => ∃ (P : Plan) (v : AV) (M : List Nat), (flat P P.length).length + k = l.length + 1 ∧ Part l men.toNat P ∧ (P.map (·.2)).map (fun x => ((false, x) : Bool × List Int)) = P ∧ fr = ⟨[(1, .int .i64 men), (4, .vsl true []), (5, .int .i64 0), (7, vl eP5 false (pcsL l l.length)), (8, .ptr (some (0, 0))), (9, v)], M⟩ ∧ σ.lim = 0 ∧ σ.get 0 = some (.cells (bc (has (flat P P.length)))) ∧
      RowsB 1 1 (AV.int .i64) σ v (P.map (·.2)) ∧ M.Nodup ∧ ∀ m ∈ M, 1 ≤ m ∧ σ.get m = some .dfr) ⟨l.length + 1, [], .vsl true [], [], by simp [flat], Part.nil _ _, rfl, rfl, rfl, rfl, RowsB.nil, .nil, by simp⟩ ?_
  rintro k _ σ ⟨P, v, M, hk, hpart, hfl, rfl, hl0, hg, hrows, hM, hMd⟩
  have gl := AH.get_lt hg
  simp (disch := omega) [Und, hl0, hg, gl, eqF1, eqF2, -Bool.exists_bool]
  refine can_ok rfl ?_
  simp (disch := omega) [Und, -Bool.exists_bool]
  refine rg_of (h := 72) (xs := []) (ys := [.ptr (some (σ.next + 1, 0)), .ptr (some (σ.next + 1 + 1, 0))]) rfl ?_
  show Call prog O (.fn 72) [.func (.yield (σ.next + 4)) [] [], .ptr (some (σ.next + 1, 0)), .ptr (some (σ.next + 2, 0))] _ _
  refine can1_ok ho (D := has (flat P P.length)) (b := σ.next + 1) (I := fun j s => YI l (has (flat P P.length)) σ.next σ (envP σ.next (.int .i64 men) (.vsl true []) (.int .i64 0) (vl eP5 false (pcsL l l.length)) (.ptr (some (0, 0))) v) j s)
    (fun j s h => ⟨h.lim, h.b1, h.b2⟩) (fun j s τ h h1 h2 h3 => h.stay h1 h2 h3) (fun j s hj h ha => yieldP ho rfl hj h ha)
    (fun j s hj h ha => ⟨h.lim, h.next, h.b1, h.b2, h.mark, h.loop, h.low, by rw [tdy_succ, ha]; simpa using h.buf⟩) ?_ ?_
  · refine ⟨hl0, by simp, ?_, ?_, ?_, ?_, ?_, .vsl true [], ?_, ?_⟩
    · simp (disch := omega) [eqF1, eqF2]
    · simp (disch := omega) [eqF1, eqF2]
    · simp (disch := omega) [eqF1, eqF2]
    · simp (disch := omega) [eqF1, eqF2]
    · intro k hk
      simp (disch := omega) [eqF1, eqF2]
    · simp (disch := omega) [eqF1, eqF2]
    · simpa [tdy] using Buf.nil
  · intro σ2 hY
    obtain ⟨y0, y1, y2, y3, y4, y5, y6, w, y7, y8⟩ := hY
    refine ⟨_, _, _, _, _, _, y5, by simp, by rw [y0]; omega, ?_⟩
    have u0 := AH.get_lt y7
    have e0 : σ2.get 0 = _ := (y6 0 (by omega)).trans hg
    simp (disch := omega) [Und, eqF1, eqF2, y0, y7, u0, e0, -Bool.exists_bool]
    have htd := tdy_le l (has (flat P P.length)) l.length
    generalize hτ : AH.set σ2 _ _ = τ
    have τl : τ.lim = 0 := by rw [← hτ]; exact y0
    have τn : τ.next = σ2.next := by rw [← hτ]; rfl
    have τg : ∀ i, i ≠ σ.next + 4 → τ.get i = σ2.get i := fun i h1 => by rw [← hτ, AH.get_set_other _ _ _ _ (by omega)]
    by_cases hz : tdy l (has (flat P P.length)) l.length = []
    · rw [hz] at y8
      have hw : w = .vsl true [] := by
        rcases y8 with ⟨h, _⟩ | ⟨i, _, _, _, h⟩
        · exact h
        · exact absurd rfl h
      subst hw
      refine sortNil_ok ?_
      have e0' : τ.get 0 = some (.cells (bc (has (flat P P.length)))) := by rw [τg 0 (by omega)]; exact e0
      have e7 : τ.get σ.next = some (.cells [.vsl true []]) := by rw [τg _ (by omega)]; exact y7
      have v0 := AH.get_lt e0'
      have v7 := AH.get_lt e7
      have hmn : min men 0 = 0 := by omega
      have hsl0 : aslS 5 (.vsl true []) none (some (.int .i64 0)) none = some (.vsl true []) := rfl
      simp (disch := omega) [Und, eqF1, eqF2, τl, e0', e7, v0, v7, hmn, hsl0, -Bool.exists_bool]
      generalize hT3 : (τ.push _).set τ.next _ = τ3
      have t3l : τ3.lim = 0 := by rw [← hT3]; simpa using τl
      have t3g : ∀ k, k < τ.next → τ3.get k = τ.get k := fun k h1 => by rw [← hT3]; simp (disch := omega) [eqF1]
      have t3w : τ3.get τ.next = some (.cells (bc (has (flat P P.length)))) := by rw [← hT3]; simp
      have t30 : τ3.get 0 = some (.cells (bc (has (flat P P.length)))) := by rw [t3g 0 (by omega)]; exact e0'
      refine lp_loop pl (fun k fr ρ => k = 0 ∧ fr = ⟨[(1, .int .i64 men), (4, .vsl true []), (5, .int .i64 0), (7, vl eP5 false (pcsL l l.length)), (8, .ptr (some (0, 0))), (9, v), (12, .ptr (some (τ.next, 0))), (13, .vsl true []), (40, .vsl true []), (41, .int .i64 0), (42, .int .i64 0)], (σ.next + 1 + 1 + 1) :: M⟩ ∧ ρ = τ3) ⟨0, rfl, rfl, rfl⟩ ?_
      rintro k2 _ ρ ⟨rfl, rfl, rfl⟩
      have w0 := AH.get_lt t30
      have w1 := AH.get_lt t3w
      have hsame : ((List.range 12).all fun i => has (flat P P.length) i == has (flat P P.length) i) = true := by simp
      simp (disch := omega) [Und, t3l, t30, t3w, w0, w1, eqCells_bc, hsame, -Bool.exists_bool]
      have hmt : ((men.toNat : Nat) : Int) = men := by omega
      have hfin := hpart.fin ho (by omega) hz
      rw [hmt] at hfin
      have hlow : ∀ k, 1 ≤ k → k < σ.next → ρ.get k = σ.get k := fun k h1 h2 => by
        rw [t3g k (by omega), τg k (by omega)]; exact y6 k h2
      have hmark : ρ.get (σ.next + 1 + 1 + 1) = some .dfr := by
        rw [t3g _ (by omega), τg _ (by omega)]; exact y4
      have hmk : ∀ m ∈ (σ.next + 1 + 1 + 1) :: M, 1 ≤ m ∧ ρ.get m = some .dfr := fun m hm => by
        rcases List.mem_cons.1 hm with rfl | hm
        · exact ⟨by omega, hmark⟩
        · have h1 := hMd m hm
          exact ⟨h1.1, by rw [hlow m h1.1 (AH.get_lt h1.2)]; exact h1.2⟩
      obtain ⟨s, e1, e2⟩ := marks_ok ((σ.next + 1 + 1 + 1) :: M) ρ t3l (List.nodup_cons.2 ⟨fun hc => by have := AH.get_lt (hMd _ hc).2; omega, hM⟩) fun m hm => (hmk m hm).2
      have hrs : RowsB 1 1 (AV.int .i64) s v (P.map (·.2)) := by
        have h0 := rowsKeep hrows hlow
        obtain ⟨xs, h1, h3, h5⟩ := h0
        have hk : ∀ i cs, ρ.get i = some (.cells cs) → s.get i = some (.cells cs) := fun i cs hi => by
          rw [e2 i fun hc => by rw [(hmk i hc).2] at hi; cases hi]; exact hi
        refine ⟨xs, h1, ?_, fun x hx => ?_⟩
        · rcases h3 with h3 | ⟨i, q1, q2, q3, q4⟩
          · exact .inl h3
          · exact .inr ⟨i, q1, q2, hk _ _ q3, q4⟩
        · obtain ⟨a, b, c⟩ := h5 x hx
          exact ⟨a, hk _ _ b, c⟩
      have hne : (P.map (·.2)).isEmpty = false := by
        have := hfin.1.ne
        cases P with
        | nil => exact absurd rfl this
        | cons => rfl
      have hf := hrs.fz encI flatI 4
      rw [hfl, hne] at hf
      refine ⟨_, ⟨P, rfl, hfin⟩, s, e1, [v, .int .i64 0], rfl, ?_⟩
      simp only [oneOf, fzV_tuple, List.map_cons, List.map_nil]
      rw [hf]
      rfl
    · obtain ⟨i, rfl, i1, i2, i3⟩ : ∃ i, w = .slice (some (i, 0)) (tdy l (has (flat P P.length)) l.length).length (.op 5) ∧ σ.next + 5 ≤ i ∧ σ2.get i = some (.cells (rowOf eP5 ((tdy l (has (flat P P.length)) l.length).map (p5At l)))) ∧ True := by
        rcases y8 with ⟨_, h⟩ | ⟨i, h1, h2, h3, _⟩
        · exact absurd (List.map_eq_nil_iff.1 h) hz
        · rw [List.length_map] at h1
          exact ⟨i, h1, h2, h3, trivial⟩
      refine SortFunc_ok (i := i) (xs := (tdy l (has (flat P P.length)) l.length).map (p5At l)) (by omega) (by rw [τg i (by omega)]; exact i2) (by simp) (by omega) (fun x hx => ?_) fun ys σ3 hS hT => ?_
      · obtain ⟨q, hq, rfl⟩ := List.mem_map.1 hx
        have hq2 : q < l.length := List.mem_range.1 (List.mem_filter.1 hq).1
        have := lev_in ho hq2
        exact ⟨⟨by simp only [p5At]; omega, by simp only [p5At]; omega⟩, by simp only [p5At]; omega, by simp only [p5At]; omega⟩
      have hyl : ys.length = (tdy l (has (flat P P.length)) l.length).length := by rw [hS.perm.length_eq, List.length_map]
      have z0 := hS.lim
      have zn := hS.next
      have e0' : σ3.get 0 = some (.cells (bc (has (flat P P.length)))) := by rw [hS.get 0 (by omega), τg 0 (by omega)]; exact e0
      have e7 : σ3.get σ.next = some (.cells [.slice (some (i, 0)) (tdy l (has (flat P P.length)) l.length).length (.op 5)]) := by rw [hS.get _ (by omega), τg _ (by omega)]; exact y7
      have hrow := hS.row
      have v0 := AH.get_lt e0'
      have v7 := AH.get_lt e7
      have hi3 := AH.get_lt hrow
      obtain ⟨n, hn⟩ : ∃ n : Nat, min men ((tdy l (has (flat P P.length)) l.length).length : Int) = n := ⟨(min men ((tdy l (has (flat P P.length)) l.length).length : Int)).toNat, by omega⟩
      have hnl : n ≤ (tdy l (has (flat P P.length)) l.length).length := by omega
      obtain ⟨c', hc'⟩ := asl_op (i := i) hnl
      simp (disch := omega) [Und, eqF1, eqF2, z0, τl, e0', e7, v0, v7, hn, hc', -Bool.exists_bool]
      generalize hT3 : (σ3.push _).set σ3.next _ = τ3
      have t3l : τ3.lim = 0 := by rw [← hT3]; simpa using z0.trans τl
      have t3n : τ3.next = σ3.next + 1 := by rw [← hT3]; rfl
      have t3g : ∀ k, k < σ3.next → τ3.get k = σ3.get k := fun k h1 => by rw [← hT3]; simp (disch := omega) [eqF1]
      have t3w : τ3.get σ3.next = some (.cells (bc (has (flat P P.length)))) := by rw [← hT3]; simp
      refine lp_loop pl (fun k fr ρ => ∃ (q : Nat) (u : AV), q + k = n ∧ fr = ⟨[(1, .int .i64 men), (4, .vsl true []), (5, .int .i64 0), (7, vl eP5 false (pcsL l l.length)), (8, .ptr (some (0, 0))), (9, v), (12, .ptr (some (σ3.next, 0))), (13, u), (40, .slice (some (i, 0)) n c'), (41, .int .i64 n), (42, .int .i64 q)], (σ.next + 1 + 1 + 1) :: M⟩ ∧
          ρ.lim = 0 ∧ σ3.next + 1 ≤ ρ.next ∧ (∀ k, k < σ3.next → k ≠ 0 → ρ.get k = σ3.get k) ∧ ρ.get 0 = some (.cells (bc (has (flat P P.length ++ (ys.take q).map (·.ix))))) ∧ ρ.get σ3.next = some (.cells (bc (has (flat P P.length)))) ∧ Buf (σ3.next + 1) 1 (AV.int .i64) ρ u ((ys.take q).map (·.ix)))
        ⟨n, 0, .vsl true [], by omega, rfl, t3l, by omega, fun k h1 _ => t3g k h1, by rw [t3g 0 (by omega), e0']; simp, t3w, Buf.nil⟩ ?_
      rintro k2 _ ρ ⟨q, u, hq, rfl, r0, r1, r2, r3, r4, r5⟩
      have hri : ρ.get i = some (.cells (rowOf eP5 ys)) := by rw [r2 i (by omega) (by omega)]; exact hrow
      have r3l := AH.get_lt r3
      have r4l := AH.get_lt r4
      have hril := AH.get_lt hri
      have hrl := rowOf_length encP5 ys
      by_cases hqn : q < n
      · have ra := row_at encP5 (xs := ys) (j := q) (by omega)
        have q3 : q * 5 + 5 ≤ ys.length * 5 := by omega
        have hmem : nth ys q ∈ (tdy l (has (flat P P.length)) l.length).map (p5At l) := hS.perm.mem_iff.1 (nth_mem (by omega))
        obtain ⟨x, hx, hxe⟩ := List.mem_map.1 hmem
        have hx2 : x < l.length := List.mem_range.1 (List.mem_filter.1 hx).1
        have ra' : ((rowOf eP5 ys).drop (q * 5)).take 5 = pcC (p5At l x) := by rw [ra, ← hxe]; rfl
        have hx12 : (x : Int) < 12 := by omega
        have hx11 : x ≤ 11 := by omega
        simp (disch := omega) [Und, r0, hqn, hri, hril, hrl, ra', q3, pcC, p5At, eqF1, eqF2, -Bool.exists_bool]
        generalize hτ4 : (ρ.push _).set ρ.next _ = τ4
        have t4l : τ4.lim = 0 := by rw [← hτ4]; exact r0
        have t4n : τ4.next = ρ.next + 1 := by rw [← hτ4]; rfl
        have t4g : ∀ k, k < ρ.next → τ4.get k = ρ.get k := fun k h1 => by rw [← hτ4]; simp (disch := omega) [eqF1]
        have t4c : τ4.get ρ.next = some (.cells (pcC (p5At l x))) := by rw [← hτ4]; simp [p5At]
        have t4b : Buf (σ3.next + 1) 1 (AV.int .i64) τ4 u ((ys.take q).map (·.ix)) := r5.keep fun k _ h1 => t4g k h1
        rw [← t4n]
        have htk : ((ys.take q).map (·.ix)).length ≤ 12 := by simp; omega
        refine t4b.push encI (by omega) (by omega) (x : Int) (by simp only [topBytes]; omega) rfl fun u' ρ1 h3 h4 => ?_
        have p0 : ρ1.get 0 = some (.cells (bc (has (flat P P.length ++ (ys.take q).map (·.ix))))) := by rw [h4.get 0 (by omega), t4g 0 (by omega)]; exact r3
        have pc : ρ1.get ρ.next = some (.cells (pcC (p5At l x))) := by
          have hno : ρ.next ∉ obj u := fun hc => by have := (r5.obj_lt _ hc).2; omega
          rw [h4.only.get ρ.next (by omega) hno]; exact t4c
        have pl1 := h4.lim
        have pn := h4.next
        have p0l := AH.get_lt p0
        have pcl := AH.get_lt pc
        have pl2 : ρ1.lim = 0 := by rw [pl1]; exact t4l
        have hlist : (ys.take (q + 1)).map (·.ix) = (ys.take q).map (·.ix) ++ [(x : Int)] := by rw [take_succ_nth (by omega), List.map_append, ← hxe]; rfl
        have hset : (bc (has (flat P P.length ++ (ys.take q).map (·.ix)))).set x (.bool true) = bc (has (flat P P.length ++ (ys.take (q + 1)).map (·.ix))) := by
          have hs := has_set (xs := flat P P.length ++ (ys.take q).map (·.ix)) (x := (x : Int)) (by omega)
          rw [Int.toNat_natCast] at hs
          rw [bc_set _ (by omega), hs, hlist, List.append_assoc]
        have h3' : Buf (σ3.next + 1) 1 (AV.int .i64) ρ1 u' ((ys.take (q + 1)).map (·.ix)) := by rw [hlist]; exact h3
        simp (disch := omega) [pl2, p0, pc, p0l, pcl, pcC, p5At, hx12, hx11, eqF1, eqF2, -List.map_take, -Bool.exists_bool]
        refine ⟨k2 - 1, by omega, q + 1, by omega, u', ⟨rfl, by omega⟩, by omega, fun k h1 h2 => ?_, hset, ?_, ?_⟩
        · rw [if_neg h2, h4.get k (by omega), t4g k (by omega)]; exact r2 k h1 h2
        · rw [h4.get _ (by omega), t4g _ (by omega)]; exact r4
        · exact h3'.keep fun i h5 _ => AH.get_set_other _ _ _ _ (by omega)
      · obtain rfl : q = n := by omega
        have hn1 : 1 ≤ q := by
          have := List.length_pos_iff.2 hz
          omega
        have hfresh : ((List.range 12).all fun i => has (flat P P.length ++ (ys.take q).map (·.ix)) i == has (flat P P.length) i) = false := by
          obtain ⟨x, hx, hxe⟩ := List.mem_map.1 (hS.perm.mem_iff.1 (nth_mem (xs := ys) (i := 0) (by omega)))
          have hx2 := av_iff.1 (tdy_mem.1 hx)
          rw [List.all_eq_false]
          refine ⟨x, List.mem_range.2 (by omega), ?_⟩
          have h1 : has (flat P P.length ++ (ys.take q).map (·.ix)) x = true := has_iff.2 (List.mem_append_right _ (List.mem_map.2 ⟨nth ys 0, by rw [← nth_take (n := q) (xs := ys) (j := 0) (by omega) (by omega)]; exact nth_mem (by rw [List.length_take]; omega), by rw [← hxe]; rfl⟩))
          rw [h1, hx2.2.1]; simp
        simp (disch := omega) [Und, r0, r3, r4, r3l, r4l, eqCells_bc, -List.map_take, hfresh, -Bool.exists_bool]
        obtain ⟨i5, rfl, j1, j2⟩ : ∃ i5, u = .slice (some (i5, 0)) q (.op 1) ∧ σ3.next + 1 ≤ i5 ∧ ρ.get i5 = some (.cells (rowOf (AV.int .i64) ((ys.take q).map (·.ix)))) := by
          have hlen : ((ys.take q).map (·.ix)).length = q := by simp; omega
          rcases r5 with ⟨_, h⟩ | ⟨i5, h1, h2, h3, _⟩
          · rw [h] at hlen; simp at hlen; omega
          · rw [hlen] at h1
            exact ⟨i5, h1, h2, h3⟩
        refine SortI_ok (i := i5) (xs := (ys.take q).map (·.ix)) (by omega) j2 (by simp; omega) (by omega) fun rs ρ2 hS2 hT2 => ?_
        have hrsl : rs.length = q := by rw [hS2.perm.length_eq]; simp; omega
        have m0 := hS2.lim
        have mn := hS2.next
        have m0' : ρ2.lim = 0 := by rw [m0]; exact r0
        have hc5 : aslS 1 (.slice (some (i5, 0)) q (.op 1)) none (some (.int .i64 q)) (some (.int .i64 q)) = some (.slice (some (i5, 0)) q (.ex q)) := by
          simp [aslS, abounds, abound, ACap.sure, ACap.less]
        simp (disch := omega) [Und, m0', hc5, -Bool.exists_bool]
        have hol := hrows.obj_lt
        have hoc := rowsCells hrows
        have hlow : ∀ k, 1 ≤ k → k < σ.next → ρ2.get k = σ.get k := fun k h1 h2 => by
          rw [hS2.get k (by omega), r2 k (by omega) (by omega), hS.get k (by omega), τg k (by omega)]; exact y6 k h2
        have hmark : ρ2.get (σ.next + 1 + 1 + 1) = some .dfr := by
          rw [hS2.get _ (by omega), r2 _ (by omega) (by omega), hS.get _ (by omega), τg _ (by omega)]; exact y4
        have hpart2 := hpart.step hS.perm (by rw [hyl]; exact hT) hS2.perm (by rw [hrsl]; exact hT2) (by omega) (by omega)
        refine (rowsKeep hrows hlow).push (by omega) (by omega) rs (by omega) hS2.row (fun hc => by have := (hol _ hc).2; omega) hrsl.symm (.inr rfl) (by have a1 := Part_len hpart _ (Nat.le_refl _); have a2 := hpart.flat_le; rw [List.length_map]; simp only [topBytes]; omega) fun v' σ5 g1 g2 => ?_
        have gl := g2.lim
        have gn := g2.next
        simp (disch := omega) [-Bool.exists_bool]
        have hfl2 := hpart2.flat_le
        have hfn := flat_new P (false, rs)
        have hln : (flat (P ++ [(false, rs)]) (P ++ [(false, rs)]).length).length = (flat P P.length).length + q := by rw [hfn, List.length_append, hrsl]
        refine ⟨k - q, by omega, P ++ [(false, rs)], by omega, hpart2, by rw [List.map_append, ← List.map_map, hfl] <;> rfl, v', (σ.next + 1 + 1 + 1) :: M, ⟨rfl, rfl⟩, by omega, ?_, by simpa using g1, List.nodup_cons.2 ⟨fun hc => by have := AH.get_lt (hMd _ hc).2; omega, hM⟩, fun m hm => ?_⟩
        · rw [g2.get 0 (by omega), hS2.get 0 (by omega), r3, hfn]
          congr 2
          refine bc_congr fun i _ => ?_
          unfold has
          rw [decide_eq_decide, List.mem_append, List.mem_append, hS2.perm.mem_iff]
        · have hdf : ∀ m, 1 ≤ m → m < ρ2.next → ρ2.get m = some .dfr → (∀ cs, σ.get m ≠ some (.cells cs)) → σ5.get m = some .dfr := fun m h1 h2 h3 h4 => by
            rw [g2.only.get m h2 (fun hc => by obtain ⟨cs, h5⟩ := hoc m hc; exact h4 cs h5)]; exact h3
          rcases List.mem_cons.1 hm with rfl | hm
          · exact ⟨by omega, hdf _ (by omega) (by omega) hmark fun cs hc => by have := AH.get_lt hc; omega⟩
          · have h1 := hMd m hm
            have h2 := AH.get_lt h1.2
            exact ⟨h1.1, hdf m h1.1 (by omega) (by rw [hlow m h1.1 h2]; exact h1.2) fun cs hc => by rw [h1.2] at hc; cases hc⟩
end Go.Oct.Stk.Sh
