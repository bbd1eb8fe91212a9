/- Logs: a true track that ends at a point, as the program finds it. -/
import Derived.Test.YtddclpecmjibkaaDoorOFixBckW
set_option maxRecDepth 100000
set_option maxHeartbeats 8000000
set_option linter.unusedVariables false
set_option linter.unusedSimpArgs false
namespace Go.Oct.Fix
open Go.Oct
/-- The first point with a property. -/
def fstP (f : Nat → Bool) : Nat := ((List.range 3600).find? f).getD 0
theorem fstP_ok {f : Nat → Bool} {m : Nat} (hm : m < 3600) (h : f m = true) : fstP f < 3600 ∧ f (fstP f) = true ∧ ∀ n, n < fstP f → f n = false := by
  unfold fstP
  cases e : (List.range 3600).find? f with
  | none =>
    have := List.find?_eq_none.1 e m (List.mem_range.2 hm)
    exact absurd h this
  | some q =>
    have h1 := List.mem_of_find?_eq_some e
    have h2 := List.find?_some e
    refine ⟨List.mem_range.1 h1, h2, fun n hn => ?_⟩
    rw [Option.getD_some] at hn
    obtain ⟨_, ps, bs, e1, e2⟩ := List.find?_eq_some_iff_append.1 e
    have hq : ps.length = q := by
      have h3 : (List.range 3600)[ps.length]? = some q := by rw [e1]; simp
      have h4 := List.getElem?_range (i := ps.length) (n := 3600) (by
        have : ps.length < (List.range 3600).length := by rw [e1]; simp
        simpa using this)
      rw [h4] at h3
      exact Option.some.inj h3
    have h5 : n ∈ ps := by
      have h6 : (List.range 3600)[n]? = some n := List.getElem?_range (by have := List.mem_range.1 h1; omega)
      rw [e1, List.getElem?_append_left (by omega)] at h6
      exact List.mem_of_getElem? h6
    have := e2 n h5
    simpa using this
/-- From where the ship came. -/
def prevP (E N : Span) (R : List Stp) (G : List (List Stp)) (i p : Nat) : Nat := fstP fun m => can E N R G i m && go (nth R i) m p
def trk (E N : Span) (R : List Stp) (G : List (List Stp)) : Nat → Nat → List Span
  | 0, p => [pt p]
  | i + 1, p => trk E N R G i (prevP E N R G i p) ++ [pt p]
theorem prev_ok {E N : Span} {R : List Stp} {G : List (List Stp)} {i p : Nat} (h : can E N R G (i + 1) p = true) : prevP E N R G i p < 3600 ∧ can E N R G i (prevP E N R G i p) = true ∧ go (nth R i) (prevP E N R G i p) p = true ∧ ∀ n, n < prevP E N R G i p → (can E N R G i n && go (nth R i) n p) = false := by
  simp only [can, Bool.and_eq_true] at h
  obtain ⟨m, h1, h2, h3⟩ := mv_iff.1 h.1
  obtain ⟨a, b, c⟩ := fstP_ok (f := fun m => can E N R G i m && go (nth R i) m p) h1 (by simp [h2, h3])
  simp only [Bool.and_eq_true] at b
  exact ⟨a, b.1, b.2, c⟩
theorem trk_true {E N : Span} {R : List Stp} {G : List (List Stp)} : ∀ (i p : Nat), p < 3600 → can E N R G i p = true → TrT E N R G i (trk E N R G i p) ∧ nth (trk E N R G i p) i = pt p
  | 0, p, hp, h => by
    simp only [can, in0, Bool.and_eq_true] at h
    refine ⟨⟨rfl, h.1.1, h.1.2, fun i hi => ?_, fun i hi => ?_, fun i hi => by omega⟩, rfl⟩
    · obtain rfl : i = 0 := by omega
      exact pt_sea hp
    · obtain rfl : i = 0 := by omega
      exact h.2
  | i + 1, p, hp, h => by
    obtain ⟨a, b, c, _⟩ := prev_ok h
    obtain ⟨d, e⟩ := trk_true i _ a b
    have h2 := h
    simp only [can, Bool.and_eq_true] at h2
    exact d.snoc e hp c h2.2
theorem trk_len {E N : Span} {R : List Stp} {G : List (List Stp)} : ∀ (i p : Nat), (trk E N R G i p).length = i + 1
  | 0, p => rfl
  | i + 1, p => by simp only [trk, List.length_append, List.length_singleton, trk_len i]
/-- A round over the points before. -/
structure RgT (lm : Nat) (U : AH) (env : Env) (f : Nat → Bool) (n : Nat) (σ : AH) : Prop where
  lim : σ.lim = lm
  nx : U.next + 2 ≤ σ.next
  low : ∀ k, k < U.next → σ.get k = U.get k
  mark : σ.get U.next = some .dfr
  loop : σ.get (U.next + 1) = some (.loop 76 0 env .ready none U.next)
  no : ∀ m, m < n → f m = false
structure RgF (lm : Nat) (U : AH) (env : Env) (b : Nat) (f : Nat → Bool) (σ : AH) : Prop where
  lim : σ.lim = lm
  nx : U.next + 2 ≤ σ.next
  low : ∀ k, k < U.next → k ≠ b → σ.get k = U.get k
  mark : σ.get U.next = some .dfr
  loop : ∃ env, σ.get (U.next + 1) = some (.loop 76 0 env .done (some (.exit 0)) U.next)
  hit : ∃ n, n < 3600 ∧ f n = true ∧ (∀ m, m < n → f m = false) ∧ σ.get b = some (.cells [.int .i64 (pt n).lo, .int .i64 (pt n).hi])
theorem back_call (E N : Span) (nS : Bool) (S : List Stp) (hz : szLog S) (hok : okLog E N S) {b6 b8 : Nat} : ∀ (i p : Nat), i ≤ (rns S).length → p < 3600 → can E N (rns S) (sgs S S.length) i p = true → ∀ (lm : Nat) (σ : AH) (K : AV → AH → Prop), σ.lim = lm → lm ≤ σ.next → σ.get b6 = some (.cells [logP E N nS S]) → σ.get b8 = some (.cells [.func (.func 76) [] [.ptr (some (b6, 0)), .ptr (some (b8, 0))]]) →
    (∀ v σ', Whole σ.next 2 eSpan σ' v (trk E N (rns S) (sgs S S.length) i p) → Only [] σ σ' → K v σ') →
    Call prog O (.fn 76) [.int .i64 i, .agg [.int .i64 (pt p).lo, .int .i64 (pt p).hi], .ptr (some (b6, 0)), .ptr (some (b8, 0))] σ K
  | 0, p, _, hp, hc, lm, σ, K, h0, hlm, g6, g8, hK => by
    have l6 := AH.get_lt g6
    have l8 := AH.get_lt g8
    refine @call_of' _ _ pl _ _ _ _ _ _ _ ⟨K⟩ get76 ((oo (by decide)).2 _) rfl ?_
    simp (disch := omega) [h0, g6, g8, l6, l8, Und, eqf1, eqf2, -Bool.exists_bool]
    refine hK _ _ ⟨σ.next + 1 + 1, .ex 1, rfl, by omega, AH.get_push_new _ _, .inr rfl⟩ ⟨rfl, ?_, fun z hz _ => ?_⟩
    · show σ.next ≤ σ.next + 1 + 1 + 1; omega
    · rw [AH.get_push_old _ _ _ (by show z ≠ σ.next + 1 + 1; omega), AH.get_push_old _ _ _ (by show z ≠ σ.next + 1; omega), AH.get_push_old _ _ _ (by omega)]
  | i + 1, p, hi, hp, hc, lm, σ, K, h0, hlm, g6, g8, hK => by
    have l6 := AH.get_lt g6
    have l8 := AH.get_lt g8
    have h12 := hok.2.2.1
    have hRle := rnT_le S S.length
    rw [rnT_all] at hRle
    have hiR : i < (rns S).length := by omega
    have hiR' : (i : Int) < (rns S).length := by omega
    have hi0 : ¬ (i : Int) + 1 = 0 := by omega
    obtain ⟨pv1, pv2, pv3, pv4⟩ := prev_ok hc
    have hst := okLog_run hok i hiR
    refine @call_of' _ _ pl _ _ _ _ _ _ _ ⟨K⟩ get76 ((oo (by decide)).2 _) rfl ?_
    simp (disch := omega) [h0, g6, g8, l6, l8, logP, hiR, hiR', hi0, Und, eqf1, eqf2, -Bool.exists_bool]
    refine next_call (s := (nth (rns S) i)) (by show σ.lim ≤ σ.next + 1 + 1 + 1; omega) ?_
    simp (disch := omega) [eqf1, eqf2, Und, -Bool.exists_bool, -getElem?_pos]
    generalize hU : AH.push (AH.push (AH.push (AH.push _ _) _) _) _ = U
    have u0 : U.lim = lm := by rw [← hU]; exact h0
    have un : U.next = σ.next + 6 := by rw [← hU]; rfl
    have ug : ∀ z, z < σ.next → U.get z = σ.get z := fun z hz => by rw [← hU]; simp (disch := omega) [eqf1, eqf2]
    have up : U.get σ.next = some (.cells [.int .i64 ((i : Int) + 1)]) := by rw [← hU]; simp (disch := omega) [eqf1, eqf2]
    have uq : U.get (σ.next + 1) = some (.cells [.int .i64 (pt p).lo, .int .i64 (pt p).hi]) := by rw [← hU]; simp (disch := omega) [eqf1, eqf2]
    have ub : U.get (σ.next + 2) = some (.cells [.int .i64 0, .int .i64 0]) := by rw [← hU]; simp (disch := omega) [eqf1, eqf2]
    have ub1 : U.get (σ.next + 3) = some (.cells (eStp (nth (rns S) i)).cells) := by rw [← hU]; simp (disch := omega) [eqf1, eqf2]
    have ub3 : U.get (σ.next + 4) = some (.cells [.int .i64 (pt p).lo, .int .i64 (pt p).hi]) := by rw [← hU]; simp (disch := omega) [eqf1, eqf2]
    have ub2 : U.get (σ.next + 5) = some (.cells [.bool true]) := by rw [← hU]; simp (disch := omega) [eqf1, eqf2]
    clear hU
    have u6 := (ug b6 l6).trans g6
    have u8 := (ug b8 l8).trans g8
    refine rg_of (h := 96) (xs := []) (ys := [.ptr (some (σ.next + 3, 0)), .ptr (some (σ.next + 5, 0)), .ptr (some (σ.next + 4, 0))]) rfl ?_
    show Call prog O (.fn 96) [.func (.yield (U.next + 1)) [] [], .ptr (some (σ.next + 3, 0)), .ptr (some (σ.next + 5, 0)), .ptr (some (σ.next + 4, 0))] _ _
    generalize henv : (List.cons _ _ : Env) = env
    obtain ⟨f, hf⟩ : ∃ f : Nat → Bool, f = fun m => can E N (rns S) (sgs S S.length) i m && go (nth (rns S) i) m p := ⟨_, rfl⟩
    refine next1_ok (lo := U.next + 2) (lm := lm) (s := (nth (rns S) i)) (back := true) (p := p) (I := fun n u => RgT lm U env f n u) (J := fun u => RgF lm U env (σ.next + 2) f u) hst.1 hp (fun n u hI => ?_) (fun n u u' hI ho => ?_) (fun n u hI hn hf2 => ?_) (fun n u hI hn hf2 => ?_) ?_ (fun u hI => ?_) (fun u hJ => ?_)
    · obtain ⟨z0, z1, z2, z3, z4, z5⟩ := hI
      exact ⟨(z2 _ (by omega)).trans ub1, (z2 _ (by omega)).trans ub2, (z2 _ (by omega)).trans ub3, by omega, by omega, by omega, by omega, z0, by omega⟩
    · obtain ⟨z0, z1, z2, z3, z4, z5⟩ := hI
      have og : ∀ k, k < u.next → u'.get k = u.get k := fun k hk => ho.get k hk (by simp)
      have onx := ho.next
      exact ⟨ho.lim.trans z0, by omega, fun k h1 => (og k (by omega)).trans (z2 k h1), (og _ (by omega)).trans z3, (og _ (by omega)).trans z4, z5⟩
    · obtain ⟨z0, z1, z2, z3, z4, z5⟩ := hI
      refine ⟨z0, z1, z2, z3, z4, fun m hm => ?_⟩
      by_cases e : m = n
      · rw [e, hf]
        have : go (nth (rns S) i) n p = false := hf2
        simp [this]
      · exact z5 m (by omega)
    · obtain ⟨z0, z1, z2, z3, z4, z5⟩ := hI
      obtain ⟨qe, hqe⟩ : ∃ qe : Nat, n / 60 = qe := ⟨_, rfl⟩
      obtain ⟨qn, hqn⟩ : ∃ qn : Nat, n % 60 = qn := ⟨_, rfl⟩
      rw [hqe, hqn]
      refine yield_of' pl z4 get76 rfl rfl (by omega) rfl ?_
      subst henv
      have hlu : lm ≤ u.next := by omega
      simp (disch := omega) [z0, hlu, Und, -Bool.exists_bool]
      generalize hv1 : AH.set (u.push _) u.next _ = v1
      have a0 : v1.lim = lm := by rw [← hv1]; exact z0
      have an : v1.next = u.next + 1 := by rw [← hv1]; rfl
      have ag : ∀ k, k < u.next → v1.get k = u.get k := fun k hk => by rw [← hv1, AH.get_set_other _ _ _ _ (by omega), AH.get_push_old _ _ _ (by omega)]
      have ax : v1.get u.next = some (.cells [.int .i64 qe, .int .i64 qn]) := by rw [← hv1, AH.get_set_same _ _ _ (Nat.lt_succ_self _)]
      clear hv1
      have a4 : v1.get (U.next + 1) = _ := (ag _ (by omega)).trans z4
      have al : ∀ z, z < U.next → v1.get z = U.get z := fun z h1 => (ag z (by omega)).trans (z2 z h1)
      rw [ak_of a4]
      have ra := AH.get_lt a4
      generalize hob2 : AObj.loop _ _ _ LoopState.busy none U.next = ob2
      generalize hv2 : v1.set (U.next + 1) ob2 = v2
      have c0 : v2.lim = lm := by rw [← hv2]; exact a0
      have cn : v2.next = v1.next := by rw [← hv2]; rfl
      have cg : ∀ k, k ≠ U.next + 1 → v2.get k = v1.get k := fun k hk => by rw [← hv2, AH.get_set_other _ _ _ _ hk]
      have c3 : v2.get (U.next + 1) = some ob2 := by rw [← hv2, AH.get_set_same _ _ _ ra]
      clear hv2
      have cl : ∀ z, z < U.next → v2.get z = U.get z := fun z h1 => (cg z (by omega)).trans (al z h1)
      have cp : v2.get σ.next = _ := (cl _ (by omega)).trans up
      have c6 : v2.get b6 = _ := (cl _ (by omega)).trans u6
      have cb : v2.get (σ.next + 2) = _ := (cl _ (by omega)).trans ub
      have cx : v2.get u.next = _ := (cg _ (by omega)).trans ax
      rw [← hob2] at c3
      have lcp := AH.get_lt cp
      have lc6 := AH.get_lt c6
      have lcb := AH.get_lt cb
      have lcx := AH.get_lt cx
      have ix : qe * 60 + qn < 3600 := by omega
      have ix1 : qe * 60 + qn + 1 ≤ 3600 := by omega
      have ix2 : qe * 60 + 60 ≤ 3600 := by omega
      have ix3 : (qe : Int) < 60 := by omega
      have ix4 : (qn : Int) < 60 := by omega
      have ix5 : qe * 60 + qn = n := by omega
      have hsq := seas_len E N S
      have j1 : (i : Int) < (seas E N S).length := by omega
      have j2 : i < (seas E N S).length := by omega
      have j3 := seas_nth (E := E) (N := N) (S := S) (j := i) (by omega)
      have j4 := seaC_len (can E N (rns S) (sgs S S.length) i)
      have j5 := seaC_get (f := (can E N (rns S) (sgs S S.length) i)) ix
      unfold logP at c6
      have hlu2 : lm ≤ σ.next + 1 + 1 := by omega
      cases hcn : can E N (rns S) (sgs S S.length) i (qe * 60 + qn)
      · rw [hcn] at j5
        simp (disch := omega) [Und, eqf1, eqf2, hlu2, c0, cp, c6, cb, cx, lcp, lc6, lcb, lcx, ix, ix1, ix2, ix3, ix4, j1, j2, j3, eSea, j4, j5, -Bool.exists_bool, -getElem?_pos]
        refine bd_normal c3 (.inl ⟨rfl, ⟨c0, by show _ ≤ v2.next; omega, fun k h1 => (AH.get_set_other _ _ _ _ (by omega)).trans (cl k h1), (AH.get_set_other _ _ _ _ (by omega)).trans ((cg _ (by omega)).trans ((ag _ (by omega)).trans z3)), AH.get_set_same _ _ _ (AH.get_lt c3), fun m hm => ?_⟩, ⟨c0.trans z0.symm, by show _ ≤ v2.next; omega, fun k h1 h2 => (AH.get_set_other _ _ _ _ (by omega)).trans ((cg _ (by omega)).trans (ag _ (by omega)))⟩⟩)
        by_cases e : m = n
        · rw [e, hf, ← ix5]
          simp only [hcn, Bool.false_and]
        · exact z5 m (by omega)
      · rw [hcn] at j5
        simp (disch := omega) [Und, eqf1, eqf2, hlu2, c0, cp, c6, cb, cx, lcp, lc6, lcb, lcx, ix, ix1, ix2, ix3, ix4, j1, j2, j3, eSea, j4, j5, -Bool.exists_bool, -getElem?_pos]
        refine bd_exit ((AH.get_set_other _ _ _ _ (by omega)).trans c3) (.inr ⟨rfl, c0, by show _ ≤ v2.next; omega, fun k h1 h2 => (AH.get_set_other _ _ _ _ (by omega)).trans ((AH.get_set_other _ _ _ _ (by omega)).trans (cl k h1)), (AH.get_set_other _ _ _ _ (by omega)).trans ((AH.get_set_other _ _ _ _ (by omega)).trans ((cg _ (by omega)).trans ((ag _ (by omega)).trans z3))), ⟨_, AH.get_set_same _ _ _ ?_⟩, n, hn, ?_, z5, ?_⟩)
        · show U.next + 1 < v2.next; omega
        · rw [hf]
          have : go (nth (rns S) i) n p = true := hf2
          simp only [this, Bool.and_true]
          rw [← ix5]; exact hcn
        · rw [AH.get_set_other _ _ _ _ (by omega), AH.get_set_same _ _ _ (by omega), pt_lo, pt_hi, hqe, hqn]
    · exact ⟨by exact u0, by show U.next + 2 ≤ U.next + 1 + 1; omega, fun k hk => by rw [AH.get_push_old _ _ _ (by show k ≠ U.next + 1; omega), AH.get_push_old _ _ _ (by omega)], by rw [AH.get_push_old _ _ _ (by show U.next ≠ U.next + 1; omega), AH.get_push_new], AH.get_push_new _ _, fun m hm => by omega⟩
    · obtain ⟨z0, z1, z2, z3, z4, z5⟩ := hI
      have := z5 _ pv1
      rw [hf] at this
      simp only [pv2, pv3, Bool.and_self] at this
      cases this
    · obtain ⟨z0, z1, z2, z3, ⟨env2, z4⟩, m, q1, q2, q3, q4⟩ := hJ
      refine ⟨_, _, env2, .done, some (.exit 0), U.next, z4, by simp, by rw [z0]; omega, ?_⟩
      have hmp : m = prevP E N (rns S) (sgs S S.length) i p := by
        rw [hf] at q2 q3
        simp only at q2 q3
        rcases Nat.lt_trichotomy m (prevP E N (rns S) (sgs S S.length) i p) with h | h | h
        · have := pv4 m h; rw [this] at q2; cases q2
        · exact h
        · have := q3 _ h
          simp only [pv2, pv3, Bool.and_self] at this
          cases this
      subst henv
      rw [hmp] at q4
      obtain ⟨q, hq⟩ : ∃ q, q = prevP E N (rns S) (sgs S S.length) i p := ⟨_, rfl⟩
      rw [← hq] at q4 pv1 pv2 pv3
      have l0 := AH.get_lt z4
      generalize hW : u.set (U.next + 1) _ = W
      have w0 : W.lim = lm := by rw [← hW]; exact z0
      have wn : W.next = u.next := by rw [← hW]; rfl
      have wg : ∀ k, k < U.next → k ≠ σ.next + 2 → W.get k = U.get k := fun k h1 h2 => by rw [← hW, AH.get_set_other _ _ _ _ (by omega)]; exact z2 k h1 h2
      have wq : W.get (σ.next + 2) = some (.cells [.int .i64 (pt q).lo, .int .i64 (pt q).hi]) := by rw [← hW, AH.get_set_other _ _ _ _ (by omega)]; exact q4
      have wm : W.get U.next = some .dfr := by rw [← hW, AH.get_set_other _ _ _ _ (by omega)]; exact z3
      clear hW
      have w6 : W.get b6 = _ := (wg _ (by omega) (by omega)).trans u6
      have w8 : W.get b8 = _ := (wg _ (by omega) (by omega)).trans u8
      have wp : W.get σ.next = _ := (wg _ (by omega) (by omega)).trans up
      have wp1 : W.get (σ.next + 1) = _ := (wg _ (by omega) (by omega)).trans uq
      have lw6 := AH.get_lt w6
      have lw8 := AH.get_lt w8
      have lwp := AH.get_lt wp
      have lwp1 := AH.get_lt wp1
      have lwq := AH.get_lt wq
      have lwm := AH.get_lt wm
      simp (disch := omega) [Und, eqf1, eqf2, w0, w6, w8, wp, wp1, wq, lw6, lw8, lwp, lwp1, lwq, -Bool.exists_bool, -getElem?_pos]
      refine back_call E N nS S hz hok i q (by omega) pv1 pv2 _ (W.under W.next) _ rfl (Nat.le_refl _) (by exact w6) (by exact w8) fun v τ k1 k2 => ?_
      have t0 : τ.lim = W.next := k2.lim
      have tn : W.next ≤ τ.next := k2.next
      have tg : ∀ z, z < W.next → τ.get z = W.get z := fun z hz => k2.get z hz (by simp)
      have tp1 := (tg _ lwp1).trans wp1
      have ltp1 := AH.get_lt tp1
      have tm := (tg _ lwm).trans wm
      have ltm := AH.get_lt tm
      simp (disch := omega) [Und, eqf1, eqf2, w0, t0, tp1, ltp1, tm, ltm, -Bool.exists_bool, -getElem?_pos]
      have k1' : Whole W.next 2 eSpan (τ.under lm) v (trk E N (rns S) (sgs S S.length) i q) := by
        obtain ⟨o, c, rfl, o3, g, hc⟩ := k1
        exact ⟨o, c, rfl, o3, g, hc⟩
      have htl := trk_len (E := E) (N := N) (R := rns S) (G := sgs S S.length) i q
      refine k1'.push encSpan (by show lm ≤ W.next; omega) (by exact tn) (pt p) (by simp only [topBytes]; omega) rfl fun v' υ m1 m2 => ?_
      have y0 : υ.lim = lm := m2.lim
      have yn : τ.next ≤ υ.next := m2.next
      have yg : ∀ z, z < W.next → υ.get z = τ.get z := fun z hz => m2.get z hz
      have ym := (yg _ lwm).trans tm
      have lym := AH.get_lt ym
      simp (disch := omega) [Und, eqf1, eqf2, y0, ym, lym, -Bool.exists_bool, -getElem?_pos]
      rw [retP_mark ym (by rw [y0]; omega), retP_ret]
      have hm1 : Whole σ.next 2 eSpan (υ.set U.next .dead) v' (trk E N (rns S) (sgs S S.length) (i + 1) p) := by
        obtain ⟨o, c, rfl, o3, g, hc⟩ := m1
        simp only [trk]
        rw [← hq]
        exact ⟨o, c, rfl, by omega, by rw [AH.get_set_other _ _ _ _ (by omega)]; exact g, hc⟩
      simp (disch := omega) [-Bool.exists_bool]
      refine hK _ _ hm1 ⟨y0.trans h0.symm, by show σ.next ≤ υ.next; omega, fun z hz _ => ?_⟩
      rw [AH.get_set_other _ _ _ _ (by omega), yg z (by omega), tg z (by omega), wg z (by omega) (by omega), ug z hz]
noncomputable def trackV (E N : Span) (S : List Stp) (q : Span) : AV :=
  open Classical in
  if okLog E N S then (if inSea q ∧ canR E N S (ix q) = true then .tuple [vl eSpan false (trk E N (rns S) (sgs S S.length) (rns S).length (ix q)), .int .i64 0] else .tuple [vl eSpan true [], .int .i64 4]) else .tuple [vl eSpan true [], .int .i64 80]
theorem Track_ok (E N : Span) (nS : Bool) (S : List Stp) (q : Span) (hz : szLog S) : ans prog O 27 [eLog E N nS S, .agg [.int .i64 q.lo, .int .i64 q.hi]] = some (trackV E N S q) := by
  refine fn_of' pl get27 (oo (by decide)) rfl rfl ?_
  by_cases hok : okLog E N S
  · obtain ⟨v, rfl, hlog⟩ := logOf_ok E N nS S hz hok
    have h12 := hok.2.2.1
    have hRle := rnT_le S S.length
    rw [rnT_all] at hRle
    unfold trackV
    rw [if_pos hok]
    unfold eLog at hlog
    by_cases c1 : 0 ≤ q.lo ∧ q.lo ≤ 59
    · by_cases c2 : 0 ≤ q.hi ∧ q.hi ≤ 59
      · have hsea : inSea q := ⟨c1, c2⟩
        obtain ⟨qe, hqe⟩ : ∃ qe : Nat, q.lo = qe := ⟨q.lo.toNat, by omega⟩
        obtain ⟨qn, hqn⟩ : ∃ qn : Nat, q.hi = qn := ⟨q.hi.toNat, by omega⟩
        have hix : ix q = qe * 60 + qn := by unfold ix; omega
        have ix : qe * 60 + qn < 3600 := by omega
        have ix1 : qe * 60 + qn + 1 ≤ 3600 := by omega
        have ix2 : qe * 60 + 60 ≤ 3600 := by omega
        have ix3 : (qe : Int) < 60 := by omega
        have ix4 : (qn : Int) < 60 := by omega
        have hsq := seas_len E N S
        have j1 : ((rns S).length : Int) < (seas E N S).length := by omega
        have j2 : (rns S).length < (seas E N S).length := by omega
        have j3 := seas_nth (E := E) (N := N) (S := S) (j := (rns S).length) (by omega)
        have j4 := seaC_len (can E N (rns S) (sgs S S.length) (rns S).length)
        have j5 := seaC_get (f := (can E N (rns S) (sgs S S.length) (rns S).length)) ix
        have e1 : (qe : Int) ≤ 59 := by omega
        have e2 : (qn : Int) ≤ 59 := by omega
        cases hcn : can E N (rns S) (sgs S S.length) (rns S).length (qe * 60 + qn)
        · rw [if_neg (fun h => by have h2 := h.2; rw [hix] at h2; rw [show canR E N S (qe * 60 + qn) = false from hcn] at h2; cases h2)]
          rw [hcn] at j5
          simp (disch := omega) [eLog, hlog, logP, hqe, hqn, e1, e2, ix, ix1, ix2, ix3, ix4, j1, j2, j3, eSea, j4, j5, Und, eqf1, eqf2, -Bool.exists_bool, -getElem?_pos]
          rfl
        · rw [if_pos ⟨hsea, by rw [hix]; exact hcn⟩]
          rw [hcn] at j5
          simp (disch := omega) [eLog, hlog, logP, hqe, hqn, e1, e2, ix, ix1, ix2, ix3, ix4, j1, j2, j3, eSea, j4, j5, Und, eqf1, eqf2, -Bool.exists_bool, -getElem?_pos]
          generalize hT : AH.set _ 3 _ = T
          have t0 : T.lim = 0 := by rw [← hT]; rfl
          have tn : T.next = 4 := by rw [← hT]; rfl
          have t2 : T.get 2 = some (.cells [logP E N nS S]) := by rw [← hT]; simp; rfl
          have t3 : T.get 3 = some (.cells [.func (.func 76) [] [.ptr (some (2, 0)), .ptr (some (3, 0))]]) := by rw [← hT]; simp
          clear hT
          have hlo : (pt (qe * 60 + qn)).lo = (qe : Int) := by rw [pt_lo]; omega
          have hhi : (pt (qe * 60 + qn)).hi = (qn : Int) := by rw [pt_hi]; omega
          rw [← hlo, ← hhi, hix]
          refine back_call E N nS S hz hok (rns S).length (qe * 60 + qn) (Nat.le_refl _) ix hcn 0 T _ t0 (Nat.zero_le _) t2 t3 fun v τ k1 k2 => ?_
          simp (disch := omega) [Und, -Bool.exists_bool]
          exact k1.fz encSpan flatSp 5
      · rw [if_neg (fun h => c2 h.1.2)]
        simp (disch := omega) [eLog, hlog, logP, eq_true c1, eq_false c2, Und, eqf1, eqf2, -Bool.exists_bool, -getElem?_pos]
        rfl
    · rw [if_neg (fun h => c1 h.1.1)]
      simp (disch := omega) [eLog, hlog, logP, eq_false c1, Und, eqf1, eqf2, -Bool.exists_bool, -getElem?_pos]
      rfl
  · have h1 := logOf_bad E N nS S hz hok
    unfold trackV
    rw [if_neg hok]
    unfold eLog at h1
    simp (disch := omega) [eLog, h1, Und, -Bool.exists_bool]
    rfl
end Go.Oct.Fix
