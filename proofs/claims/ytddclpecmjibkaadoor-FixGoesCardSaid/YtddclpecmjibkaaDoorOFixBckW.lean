/- Logs: where the ship was. -/
import Derived.Test.YtddclpecmjibkaaDoorOFixWasW
set_option maxRecDepth 100000
set_option maxHeartbeats 8000000
set_option linter.unusedVariables false
set_option linter.unusedSimpArgs false
namespace Go.Oct.Fix
open Go.Oct
@[simp] theorem vptr_cells (cs : List AV) (o : Nat) : (AV.vptr cs o).cells = [AV.vptr cs o] := (rfl)
@[simp] theorem vptr_dfd (cs : List AV) (o : Nat) : (AV.vptr cs o).dfd = true := (rfl)
@[simp] theorem vptr_one (cs : List AV) (o : Nat) : (AV.vptr cs o).one = true := (rfl)
/-- From where a run leads to the first points. -/
def mbt (s : Stp) (f : Nat → Bool) (n q : Nat) : Bool := (List.range n).any fun m => f m && go s q m
theorem mbt_succ (s : Stp) (f : Nat → Bool) (n q : Nat) : mbt s f (n + 1) q = (mbt s f n q || (f n && go s q n)) := by
  unfold mbt
  rw [List.range_succ, List.any_append]
  simp
theorem mbt_all (s : Stp) (f : Nat → Bool) : mbt s f 3600 = mb s f := rfl
/-- A round of an outer loop over points, a sea being written. -/
structure RgS (fno idx : Nat) (T : AH) (hb : Nat) (env : Env) (c : Nat → Nat → Bool) (n : Nat) (σ : AH) : Prop where
  lim : σ.lim = 0
  nx : T.next + 2 ≤ σ.next
  low : ∀ k, k < T.next → k ≠ hb → σ.get k = T.get k
  mark : σ.get T.next = some .dfr
  loop : σ.get (T.next + 1) = some (.loop fno idx env .ready none T.next)
  sea : σ.get hb = some (.cells (seaC (c n)))
/-- A round of an inner one. -/
structure RgN (fno idx : Nat) (U : AH) (hb l d : Nat) (env : Env) (c : Nat → Nat → Bool) (m : Nat) (σ : AH) : Prop where
  lim : σ.lim = 0
  nx : l + 1 ≤ σ.next
  low : ∀ k, k < l → k ≠ hb → σ.get k = U.get k
  loop : σ.get l = some (.loop fno idx env .ready none d)
  sea : σ.get hb = some (.cells (seaC (c m)))
abbrev wasF (E N : Span) (S : List Stp) : Nat → Nat → Bool := was E N (rns S) (sgs S S.length)
theorem was_ne {E N : Span} {S : List Stp} {d : Nat} (hd : d ≤ (rns S).length) (h : ptsL (canR E N S) ≠ []) : ptsL (wasF E N S d) ≠ [] := fun e => by
  obtain ⟨q, hq⟩ := List.exists_mem_of_ne_nil _ h
  obtain ⟨n, h1, h2, _⟩ := ptsL_mem.1 hq
  obtain ⟨t, ht, _⟩ := of_can _ n h1 h2
  have hw := was_of ht d hd
  have hm : pt (ix (nth t ((rns S).length - d))) ∈ ptsL (wasF E N S d) := ptsL_mem.2 ⟨_, ix_lt (ht.sea _ (by omega)), hw, rfl⟩
  rw [e] at hm; cases hm
noncomputable def wasV (E N : Span) (S : List Stp) (run : Int) : AV := if okLog E N S then (if 0 ≤ run ∧ run ≤ (rns S).length then (if (ptsL (canR E N S)) = [] then .tuple [vl eSpan true [], .int .i64 4] else .tuple [vl eSpan false (ptsL (wasF E N S ((rns S).length - run.toNat))), .int .i64 0]) else .tuple [vl eSpan true [], .int .i64 81]) else .tuple [vl eSpan true [], .int .i64 80]
theorem Was_ok (E N : Span) (nS : Bool) (S : List Stp) (run : Int) (hz : szLog S) : ans prog O 24 [eLog E N nS S, .int .i64 run] = some (wasV E N S run) := by
  refine fn_of' pl get24 (oo (by decide)) rfl rfl ?_
  by_cases hok : okLog E N S
  · obtain ⟨v, rfl, hlog⟩ := logOf_ok E N nS S hz hok
    have h12 := hok.2.2.1
    have hRle := rnT_le S S.length
    rw [rnT_all] at hRle
    unfold wasV
    rw [if_pos hok]
    unfold eLog at hlog
    by_cases hr : 0 ≤ run ∧ run ≤ (rns S).length
    · rw [if_pos hr]
      simp (disch := omega) [eLog, hlog, logP, Und, eq_true hr, -Bool.exists_bool]
      rw [show AV.vptr (logC E N nS S (vl eSea false (seas E N S))) 0 = logP E N nS S from rfl]
      refine last_call hok.2.2.1 fun σ' ho => ?_
      have ol := ho.lim
      have on := ho.next
      simp at on
      have og1 : σ'.get 1 = some (.cells [logP E N nS S]) := by rw [ho.get 1 (by simp) (by simp)]; simp
      have ol1 := AH.get_lt og1
      cases hs : sameSea (canR E N S) fun _ => false
      · have hne := ptsL_ne hs
        rw [if_neg hne]
        have hs' : sameSea (can E N (rns S) (sgs S S.length) (rns S).length) (fun _ => false) = false := hs
        have og1' : σ'.get 1 = some (.cells [.vptr (logC E N nS S (vl eSea false (seas E N S))) 0]) := og1
        simp (disch := omega) [hs', ol, og1', ol1, Und, -Bool.exists_bool]
        obtain ⟨r, rfl⟩ : ∃ r : Nat, run = r := ⟨run.toNat, by omega⟩
        refine lp_loop pl (fun k fr σ => ∃ (d : Nat) (sv : AV) (b10 : Nat) (M : List Nat), d + k = (rns S).length - r ∧ fr = ⟨[(1, .int .i64 r), (4, .vsl true []), (5, .int .i64 0), (6, .ptr (some (1, 0))), (8, sv), (10, .ptr (some (b10, 0)))], M⟩ ∧ σ.lim = 0 ∧ 2 ≤ b10 ∧
            σ.get 1 = some (.cells [.vptr (logC E N nS S (vl eSea false (seas E N S))) 0]) ∧ σ.get b10 = some (.cells [.int .i64 (((rns S).length : Int) - 1 - d)]) ∧ SeaV σ sv (wasF E N S d) ∧ M.Nodup ∧ ∀ m ∈ M, σ.get m = some .dfr)
          ⟨(rns S).length - r, 0, _, σ'.next, [], by omega, rfl, by simpa using ol, by omega, by simp (disch := omega) [eqf1, eqf2, og1'], by simp (disch := omega) [eqf1, eqf2], .inl rfl, .nil, fun m hm => by cases hm⟩ ?_
        clear ho on ol og1 og1' ol1
        rintro k _ σ ⟨d, sv, b10, M, hdk, rfl, s0, hb10, sg1, sg10, hsv, hM, hMd⟩
        have l1 := AH.get_lt sg1
        have l10 := AH.get_lt sg10
        by_cases hd : d < (rns S).length - r
        · have hge : (r : Int) ≤ ((rns S).length : Int) - 1 - d := by omega
          obtain ⟨i, hi⟩ : ∃ i : Nat, i = (rns S).length - (d + 1) := ⟨_, rfl⟩
          have hiI : ((rns S).length : Int) - 1 - d = (i : Int) := by omega
          have hiR : i < (rns S).length := by omega
          rw [hiI] at sg10 hge
          simp (disch := omega) [Und, eqf1, eqf2, s0, sg1, sg10, l1, l10, hge, ltT, -Bool.exists_bool, -getElem?_pos]
          generalize hT : AH.set _ (σ.next + 1) _ = T
          have t0 : T.lim = 0 := by rw [← hT]; exact s0
          have tn : T.next = σ.next + 2 := by rw [← hT]; rfl
          have tg : ∀ z, z < σ.next → T.get z = σ.get z := fun z hz => by
            have y1 : ¬ z = σ.next := by omega
            have y2 : ¬ z = σ.next + 1 := by omega
            rw [← hT]; simp (disch := omega) [y1, y2]
          have tb : T.get σ.next = some (.cells (seaC fun _ => false)) := by rw [← hT]; simp (disch := omega) [eqf1, eqf2, ltT]
          have tp : T.get (σ.next + 1) = some (.cells [.ptr (some (σ.next, 0))]) := by rw [← hT]; simp (disch := omega) [eqf1, eqf2, ltT]
          clear hT
          have tg1 := (tg 1 l1).trans sg1
          have tg10 := (tg b10 l10).trans sg10
          have hst := okLog_run hok i hiR
          have hvT : SeaV T sv (wasF E N S d) := hsv.stay tg
          have hne2 : ∀ o, sv = .ptr (some (o, 0)) → o ≠ σ.next := fun o e => by
            rcases hsv with h | ⟨o', h, hg⟩
            · rw [e] at h; cases h
            · rw [e] at h; cases h; have := AH.get_lt hg; omega
          refine rg_of (h := 72) (xs := [sv]) (ys := []) rfl ?_
          show Call prog O (.fn 72) [sv, .func (.yield (T.next + 1)) [] []] _ _
          generalize henv : (List.cons _ _ : Env) = env
          refine points_ok (f := (wasF E N S d)) (lm := 0) (I := fun n s => RgS 24 1 T σ.next env (fun n q => mbt (nth (rns S) i) (wasF E N S d) n q && (can E N (rns S) (sgs S S.length) i) q) n s) (J := fun _ => False) (fun n s hI hn => ?_) (fun n s hI => hI.lim) (fun n s hI hn hf => ?_) (fun n s hI hn hf => ?_) ?_ (fun s hI => ?_) (fun s hj => hj.elim)
          · rcases hvT with h | ⟨o, h, hg⟩
            · exact (SeaV.rd (.inl h) hn)
            · exact SeaV.rd (.inr ⟨o, h, (hI.low o (AH.get_lt hg) (hne2 o h)).trans hg⟩) hn
          · refine ⟨hI.lim, hI.nx, hI.low, hI.mark, hI.loop, ?_⟩
            rw [hI.sea]
            exact congrArg (fun c => some (AObj.cells c)) (seaC_congr fun q _ => by rw [mbt_succ, hf]; simp)
          · obtain ⟨y0, y1, y2, y3, y4, y5⟩ := hI
            obtain ⟨pe, hpe⟩ : ∃ pe : Nat, n / 60 = pe := ⟨_, rfl⟩
            obtain ⟨pn, hpn⟩ : ∃ pn : Nat, n % 60 = pn := ⟨_, rfl⟩
            rw [hpe, hpn]
            refine yield_of' pl y4 get24 rfl rfl (by omega) rfl ?_
            subst henv
            simp (disch := omega) [y0, Und, -Bool.exists_bool]
            generalize hs1 : AH.set (s.push _) s.next _ = s1
            have x0 : s1.lim = 0 := by rw [← hs1]; exact y0
            have xn : s1.next = s.next + 1 := by rw [← hs1]; rfl
            have xg : ∀ k, k < s.next → s1.get k = s.get k := fun k hk => by rw [← hs1, AH.get_set_other _ _ _ _ (by omega), AH.get_push_old _ _ _ (by omega)]
            have xs : s1.get s.next = some (.cells [.int .i64 pe, .int .i64 pn]) := by rw [← hs1, AH.get_set_same _ _ _ (Nat.lt_succ_self _)]
            clear hs1
            have x4 : s1.get (T.next + 1) = _ := (xg _ (by omega)).trans y4
            have x5 : s1.get σ.next = _ := (xg _ (by omega)).trans y5
            have xl : ∀ z, z < T.next → z ≠ σ.next → s1.get z = T.get z := fun z h1 h2 => (xg z (by omega)).trans (y2 z h1 h2)
            rw [ak_of x4]
            have r5 := AH.get_lt x4
            generalize hob : AObj.loop _ _ _ LoopState.busy none T.next = ob
            generalize hs2 : s1.set (T.next + 1) ob = s2
            have t0' : s2.lim = 0 := by rw [← hs2]; exact x0
            have tn' : s2.next = s1.next := by rw [← hs2]; rfl
            have tg' : ∀ k, k ≠ T.next + 1 → s2.get k = s1.get k := fun k hk => by rw [← hs2, AH.get_set_other _ _ _ _ hk]
            have t7' : s2.get (T.next + 1) = some ob := by rw [← hs2, AH.get_set_same _ _ _ r5]
            clear hs2
            have t5' : s2.get σ.next = _ := (tg' _ (by omega)).trans x5
            have tl' : ∀ z, z < T.next → z ≠ σ.next → s2.get z = T.get z := fun z h1 h2 => (tg' z (by omega)).trans (xl z h1 h2)
            have tp' : s2.get (σ.next + 1) = _ := (tl' _ (by omega) (by omega)).trans tp
            have t1' : s2.get 1 = _ := (tl' _ (by omega) (by omega)).trans tg1
            have t10' : s2.get b10 = _ := (tl' _ (by omega) (by omega)).trans tg10
            have ts' : s2.get s.next = _ := (tg' _ (by omega)).trans xs
            have l1' := AH.get_lt t1'
            have l2' := AH.get_lt ts'
            have l3' := AH.get_lt tp'
            have l4' := AH.get_lt t10'
            have hiR' : (i : Int) < (rns S).length := by omega
            simp (disch := omega) [eqf1, eqf2, t0', t1', ts', tp', t10', l1', l2', l3', l4', hiR', hiR, Und, -Bool.exists_bool, -getElem?_pos]
            refine next_call (s := (nth (rns S) i)) (by omega) ?_
            have m1 : ¬ s2.next + 1 + 1 = s2.next := by omega
            simp (disch := omega) [eqf1, eqf2, Und, -Bool.exists_bool, -getElem?_pos]
            generalize hU : AH.push (AH.push (AH.push s2 _) _) _ = U
            have u0 : U.lim = 0 := by rw [← hU]; exact t0'
            have un : U.next = s2.next + 3 := by rw [← hU]; rfl
            have ug : ∀ z, z < s2.next → U.get z = s2.get z := fun z hz => by rw [← hU]; simp (disch := omega) [eqf1, eqf2]
            have ub1 : U.get s2.next = some (.cells (eStp (nth (rns S) i)).cells) := by rw [← hU]; simp (disch := omega) [eqf1, eqf2]
            have ub3 : U.get (s2.next + 1) = some (.cells [.int .i64 pe, .int .i64 pn]) := by rw [← hU]; simp (disch := omega) [eqf1, eqf2]
            have ub2 : U.get (s2.next + 2) = some (.cells [.bool true]) := by rw [← hU]; simp (disch := omega) [eqf1, eqf2]
            clear hU
            have u7 : U.get (T.next + 1) = some ob := (ug _ (by omega)).trans t7'
            have u5 : U.get σ.next = _ := (ug _ (by omega)).trans t5'
            have up : U.get (σ.next + 1) = _ := (ug _ (by omega)).trans tp'
            have u1 : U.get 1 = _ := (ug _ (by omega)).trans t1'
            have u10 : U.get b10 = _ := (ug _ (by omega)).trans t10'
            rw [← hob] at u7
            refine rg_in (h := 96) (xs := []) (ys := [.ptr (some (s2.next, 0)), .ptr (some (s2.next + 2, 0)), .ptr (some (s2.next + 1, 0))]) rfl u7 ?_
            show Call prog O (.fn 96) [.func (.yield U.next) [] [], .ptr (some (s2.next, 0)), .ptr (some (s2.next + 2, 0)), .ptr (some (s2.next + 1, 0))] _ _
            generalize henv2 : (List.cons _ _ : Env) = env2
            refine next1_ok (lo := s2.next + 4) (lm := 0) (s := (nth (rns S) i)) (back := true) (p := n) (I := fun m u => RgN 24 0 U σ.next U.next T.next env2 (fun m q => (mbt (nth (rns S) i) (wasF E N S d) n q || (decide (q < m) && go (nth (rns S) i) q n)) && (can E N (rns S) (sgs S S.length) i) q) m u) (J := fun _ => False) hst.1 hn (fun m u hI => ?_) (fun m u u' hI ho => ?_) (fun m u hI hm hf2 => ?_) (fun m u hI hm hf2 => ?_) ?_ (fun u hI => ?_) (fun u hj => hj.elim)
            · obtain ⟨z0, z1, z2, z3, z4⟩ := hI
              rw [hpe, hpn]
              exact ⟨(z2 _ (by omega) (by omega)).trans ub1, (z2 _ (by omega) (by omega)).trans ub2, (z2 _ (by omega) (by omega)).trans ub3, by omega, by omega, by omega, by omega, z0, by omega⟩
            · obtain ⟨z0, z1, z2, z3, z4⟩ := hI
              have og : ∀ k, k < u.next → u'.get k = u.get k := fun k hk => ho.get k hk (by simp)
              have onx := ho.next
              exact ⟨ho.lim.trans z0, by omega, fun k h1 h2 => (og k (by omega)).trans (z2 k h1 h2), (og _ (by omega)).trans z3, (og _ (AH.get_lt z4)).trans z4⟩
            · obtain ⟨z0, z1, z2, z3, z4⟩ := hI
              refine ⟨z0, z1, z2, z3, z4.trans (congrArg (fun c => some (AObj.cells c)) (seaC_congr fun q _ => ?_))⟩
              by_cases e : q = m
              · subst e
                have : go (nth (rns S) i) q n = false := hf2
                rw [this]; simp
              · by_cases e2 : q < m
                · rw [decide_eq_true e2, decide_eq_true (show q < m + 1 by omega)]
                · rw [decide_eq_false e2, decide_eq_false (show ¬ q < m + 1 by omega)]
            · obtain ⟨z0, z1, z2, z3, z4⟩ := hI
              obtain ⟨qe, hqe⟩ : ∃ qe : Nat, m / 60 = qe := ⟨_, rfl⟩
              obtain ⟨qn, hqn⟩ : ∃ qn : Nat, m % 60 = qn := ⟨_, rfl⟩
              rw [hqe, hqn]
              refine yield_of' pl z3 get24 rfl rfl (by omega) rfl ?_
              subst henv2
              simp (disch := omega) [z0, Und, -Bool.exists_bool]
              generalize hv1 : AH.set (u.push _) u.next _ = v1
              have a0 : v1.lim = 0 := by rw [← hv1]; exact z0
              have an : v1.next = u.next + 1 := by rw [← hv1]; rfl
              have ag : ∀ k, k < u.next → v1.get k = u.get k := fun k hk => by rw [← hv1, AH.get_set_other _ _ _ _ (by omega), AH.get_push_old _ _ _ (by omega)]
              have ax : v1.get u.next = some (.cells [.int .i64 qe, .int .i64 qn]) := by rw [← hv1, AH.get_set_same _ _ _ (Nat.lt_succ_self _)]
              clear hv1
              have a3 : v1.get U.next = _ := (ag _ (by omega)).trans z3
              have a4 : v1.get σ.next = _ := (ag _ (by omega)).trans z4
              have al : ∀ z, z < U.next → z ≠ σ.next → v1.get z = U.get z := fun z h1 h2 => (ag z (by omega)).trans (z2 z h1 h2)
              rw [ak_of a3]
              have ra := AH.get_lt a3
              generalize hob2 : AObj.loop _ _ _ LoopState.busy none T.next = ob2
              generalize hv2 : v1.set U.next ob2 = v2
              have b0 : v2.lim = 0 := by rw [← hv2]; exact a0
              have bn : v2.next = v1.next := by rw [← hv2]; rfl
              have bg : ∀ k, k ≠ U.next → v2.get k = v1.get k := fun k hk => by rw [← hv2, AH.get_set_other _ _ _ _ hk]
              have b3 : v2.get U.next = some ob2 := by rw [← hv2, AH.get_set_same _ _ _ ra]
              clear hv2
              have b4 : v2.get σ.next = _ := (bg _ (by omega)).trans a4
              have bl : ∀ z, z < U.next → z ≠ σ.next → v2.get z = U.get z := fun z h1 h2 => (bg z (by omega)).trans (al z h1 h2)
              have bp : v2.get (σ.next + 1) = _ := (bl _ (by omega) (by omega)).trans up
              have b1 : v2.get 1 = _ := (bl _ (by omega) (by omega)).trans u1
              have b10' : v2.get b10 = _ := (bl _ (by omega) (by omega)).trans u10
              have bs : v2.get u.next = _ := (bg _ (by omega)).trans ax
              rw [← hob2] at b3
              have lb4 := AH.get_lt b4
              have lbp := AH.get_lt bp
              have lb1 := AH.get_lt b1
              have lb10 := AH.get_lt b10'
              have lbs := AH.get_lt bs
              have hsl := seaC_len ((fun m q => (mbt (nth (rns S) i) (wasF E N S d) n q || (decide (q < m) && go (nth (rns S) i) q n)) && (can E N (rns S) (sgs S S.length) i) q) m)
              have ix : qe * 60 + qn < 3600 := by omega
              have ix1 : qe * 60 + qn + 1 ≤ 3600 := by omega
              have ix2 : qe * 60 + 60 ≤ 3600 := by omega
              have ix3 : (qe : Int) < 60 := by omega
              have ix4 : (qn : Int) < 60 := by omega
              have ix5 : qe * 60 + qn = m := by omega
              have hset := fun b => seaC_set ((fun m q => (mbt (nth (rns S) i) (wasF E N S d) n q || (decide (q < m) && go (nth (rns S) i) q n)) && (can E N (rns S) (sgs S S.length) i) q) m) (qe * 60 + qn) b
              have hsq := seas_len E N S
              have j1 : (i : Int) < (seas E N S).length := by omega
              have j2 : i < (seas E N S).length := by omega
              have j3 := seas_nth (E := E) (N := N) (S := S) (j := i) (by omega)
              have j4 := seaC_len (can E N (rns S) (sgs S S.length) i)
              have j5 := seaC_get (f := (can E N (rns S) (sgs S S.length) i)) ix
              simp only at hsl hset
              simp (disch := omega) [Und, eqf1, eqf2, b0, b4, bp, b1, b10', bs, lb4, lbp, lb1, lb10, lbs, hsl, ix, ix1, ix2, ix3, ix4, hset, j1, j2, j3, eSea, j4, j5, -Bool.exists_bool, -getElem?_pos]
              have c3 : (v2.set σ.next (AObj.cells (seaC fun m_1 => if m_1 = qe * 60 + qn then (can E N (rns S) (sgs S S.length) i) (qe * 60 + qn) else (mbt (nth (rns S) i) (wasF E N S d) n m_1 || decide (m_1 < m) && go (nth (rns S) i) m_1 n) && (can E N (rns S) (sgs S S.length) i) m_1))).get U.next = _ := (AH.get_set_other _ _ _ _ (by omega)).trans b3
              refine bd_normal c3 ⟨rfl, ⟨b0, ?_, fun k h1 h2 => ?_, ?_, ?_⟩, ⟨b0.trans z0.symm, ?_, fun k h1 h2 => ?_⟩⟩
              · show U.next + 1 ≤ v2.next; omega
              · rw [AH.get_set_other _ _ _ _ (by omega), AH.get_set_other _ _ _ _ h2, bg k (by omega), ag k (by omega)]; exact z2 k h1 h2
              · exact AH.get_set_same _ _ _ (by show U.next < v2.next; omega)
              · rw [AH.get_set_other _ _ _ _ (by omega), AH.get_set_same _ _ _ lb4]
                refine congrArg (fun c => some (AObj.cells c)) (seaC_congr fun q _ => ?_)
                have hgo : go (nth (rns S) i) m n = true := hf2
                show _ = ((mbt (nth (rns S) i) (wasF E N S d) n q || (decide (q < m + 1) && go (nth (rns S) i) q n)) && (can E N (rns S) (sgs S S.length) i) q)
                by_cases e : q = m
                · rw [if_pos (by omega), e, ix5, hgo, decide_eq_true (Nat.lt_succ_self m)]; simp
                · rw [if_neg (show ¬ q = qe * 60 + qn by omega)]
                  by_cases e2 : q < m
                  · rw [decide_eq_true e2, decide_eq_true (show q < m + 1 by omega)]
                  · rw [decide_eq_false e2, decide_eq_false (show ¬ q < m + 1 by omega)]
              · show u.next ≤ v2.next; omega
              · rw [AH.get_set_other _ _ _ _ (by omega), AH.get_set_other _ _ _ _ (by omega), bg k (by omega), ag k (by omega)]
            · refine ⟨u0, by simp, fun k h1 h2 => ?_, ?_, ?_⟩
              · simp (disch := omega) [eqf1, eqf2]
              · simp (disch := omega) [eqf1, eqf2]
              · simp (disch := omega) [eqf1, eqf2, u5]
            · obtain ⟨z0, z1, z2, z3, z4⟩ := hI
              refine ⟨_, _, _, _, _, _, z3, by simp, by omega, ?_⟩
              subst henv2
              generalize hs4 : u.set U.next _ = s4
              have f0 : s4.lim = 0 := by rw [← hs4]; exact z0
              have fn : s4.next = u.next := by rw [← hs4]; rfl
              have fg : ∀ k, k ≠ U.next → s4.get k = u.get k := fun k hk => by rw [← hs4]; exact AH.get_set_other _ _ _ _ hk
              clear hs4
              have f7 : s4.get (T.next + 1) = _ := ((fg _ (by omega)).trans (z2 _ (by omega) (by omega))).trans u7
              simp (disch := omega) [Und, eqf1, eqf2, f0, -Bool.exists_bool, -getElem?_pos]
              refine bd_normal f7 ⟨rfl, ⟨f0, ?_, fun k h1 h2 => ?_, ?_, ?_, ?_⟩⟩
              · show T.next + 2 ≤ s4.next; omega
              · rw [AH.get_set_other _ _ _ _ (by omega), fg k (by omega), z2 k (by omega) h2, ug k (by omega), tg' k (by omega), xg k (by omega)]; exact y2 k h1 h2
              · rw [AH.get_set_other _ _ _ _ (by omega), fg _ (by omega), z2 _ (by omega) (by omega), ug _ (by omega), tg' _ (by omega), xg _ (by omega)]; exact y3
              · exact AH.get_set_same _ _ _ (AH.get_lt f7)
              · rw [AH.get_set_other _ _ _ _ (by omega), fg _ (by omega), z4]
                refine congrArg (fun c => some (AObj.cells c)) (seaC_congr fun q hq => ?_)
                show ((mbt (nth (rns S) i) (wasF E N S d) n q || (decide (q < 3600) && go (nth (rns S) i) q n)) && (can E N (rns S) (sgs S S.length) i) q) = _
                rw [mbt_succ, hf, decide_eq_true hq]
          · refine ⟨t0, by simp, fun k hk _ => ?_, ?_, ?_, ?_⟩
            · simp (disch := omega) [eqf1, eqf2]
            · simp (disch := omega) [eqf1, eqf2]
            · simp (disch := omega) [eqf1, eqf2]
            · simp (disch := omega) [eqf1, eqf2, tb]
              rfl
          · refine ⟨_, _, _, _, _, _, hI.loop, by simp, by rw [hI.lim]; omega, ?_⟩
            subst henv
            generalize hs4 : s.set (T.next + 1) _ = s4
            have f0 : s4.lim = 0 := by rw [← hs4]; exact hI.lim
            have fn : s4.next = s.next := by rw [← hs4]; rfl
            have fg : ∀ k, k ≠ T.next + 1 → s4.get k = s.get k := fun k hk => by rw [← hs4]; exact AH.get_set_other _ _ _ _ hk
            have hnx := hI.nx
            clear hs4
            have f11 : s4.get (σ.next + 1) = _ := ((fg _ (by omega)).trans (hI.low _ (by omega) (by omega))).trans tp
            have f10 : s4.get b10 = _ := ((fg _ (by omega)).trans (hI.low _ (by omega) (by omega))).trans tg10
            have l11 := AH.get_lt f11
            have l10' := AH.get_lt f10
            simp (disch := omega) [Und, eqf1, eqf2, f0, f11, f10, l11, l10', ltT, -Bool.exists_bool, -getElem?_pos]
            have fb : s4.get σ.next = _ := (fg _ (by omega)).trans hI.sea
            have fm : s4.get T.next = _ := (fg _ (by omega)).trans hI.mark
            have fl : ∀ z, z < σ.next → s4.get z = σ.get z := fun z hz => by rw [fg z (by omega), hI.low z (by omega) (by omega), tg z hz]
            have hw : ∀ q, q < 3600 → (mbt (nth (rns S) i) (wasF E N S d) 3600 q && (can E N (rns S) (sgs S S.length) i) q) = wasF E N S (d + 1) q := fun q _ => by
              show _ = (can E N (rns S) (sgs S S.length) ((rns S).length - (d + 1)) q && mb (nth (rns S) ((rns S).length - (d + 1))) (was E N (rns S) (sgs S S.length) d) q)
              rw [← hi, mbt_all, Bool.and_comm]
            have fb2 : s4.get σ.next = some (.cells (seaC (wasF E N S (d + 1)))) := fb.trans (congrArg (fun c => some (AObj.cells c)) (seaC_congr hw))
            refine ⟨k - 1, by omega, d + 1, by omega, _, _, _, ⟨⟨rfl, rfl⟩, rfl⟩, by omega, (fl 1 l1).trans sg1, ?_, .inr ⟨σ.next, rfl, ?_⟩, List.nodup_cons.2 ⟨fun h => ?_, hM⟩, fun m hm => ?_⟩
            · rw [if_pos rfl, show (i : Int) - 1 = ((rns S).length : Int) - 1 - ((d + 1 : Nat) : Int) by omega]
            · rw [AH.get_set_other _ _ _ _ (by omega), AH.get_set_other _ _ _ _ (by omega), AH.get_push_old _ _ _ (by omega)]; exact fb2
            · have := AH.get_lt (hMd _ h); omega
            · rcases List.mem_cons.1 hm with rfl | hm
              · rw [if_neg (by omega), if_neg (by omega), if_neg (by omega)]; exact fm
              · have h1 := hMd m hm
                have h2 := AH.get_lt h1
                rw [if_neg (by omega), if_neg (by omega), if_neg (by omega), fl m h2]; exact h1
        · have hge : ¬ (r : Int) ≤ ((rns S).length : Int) - 1 - d := by omega
          simp (disch := omega) [Und, eqf1, eqf2, s0, sg1, sg10, l1, l10, eq_false hge, ltT, -Bool.exists_bool, -getElem?_pos]
          obtain rfl : d = (rns S).length - r := by omega
          refine all_call s0 hsv (was_ne (by omega) hne) fun o τ g1 g2 g3 => ?_
          have hg : ∀ z, z < σ.next → τ.get z = σ.get z := fun z hz => g3.get z hz (by simp)
          obtain ⟨ω2, p1, p2, p3, p4⟩ := marks_ok M τ (fun m _ => by rw [g3.lim.trans s0]; omega) hM fun m hm => by
            have h1 := hMd m hm
            rw [hg m (AH.get_lt h1)]; exact h1
          have ωo : ω2.get o = _ := (p4 o fun h => by have := AH.get_lt (hMd _ h); omega).trans g1
          have hc : ω2.cel o = some (rowOf eSpan (ptsL (wasF E N S ((rns S).length - r)))) := AH.cel_get ωo
          simp (disch := omega) [Und, -Bool.exists_bool]
          unfold RetK
          show OptK (takeMarks τ M) _
          rw [p1]
          refine ⟨ω2, rfl, [.slice (some (o, 0)) (ptsL (wasF E N S ((rns S).length - r))).length (.ex (ptsL (wasF E N S ((rns S).length - r))).length), .int .i64 0], rfl, ?_⟩
          show AV.tuple [fzV 7 ω2.cel _, .int .i64 0] = _
          have hf := fz_whole encSpan flatSp (f := ω2.cel) (o := o) (xs := ptsL (wasF E N S ((rns S).length - r))) (c := .ex _) hc (.inr rfl) 5
          rw [hf]
      · have hs' : sameSea (can E N (rns S) (sgs S S.length) (rns S).length) (fun _ => false) = true := hs
        rw [if_pos (ptsL_nil hs)]
        simp (disch := omega) [hs', ol, Und, -Bool.exists_bool]
        rfl
    · rw [if_neg hr]
      simp (disch := omega) [eLog, hlog, logP, Und, eq_false hr, -Bool.exists_bool]
      rfl
  · have h1 := logOf_bad E N nS S hz hok
    unfold wasV
    rw [if_neg hok]
    unfold eLog at h1
    simp (disch := omega) [eLog, h1, Und, -Bool.exists_bool]
    rfl
end Go.Oct.Fix
