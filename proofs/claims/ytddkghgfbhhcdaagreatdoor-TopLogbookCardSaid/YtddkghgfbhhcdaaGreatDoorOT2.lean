/- The theory, part T2. -/
import Derived.Test.YtddkghgfbhhcdaaGreatDoorOT1
import Derived.Orders
import Derived.ProofKit
/- Calls and rounds: the run of the abstract interpreter, the run of the machine. -/
section
set_option linter.unusedVariables false
set_option linter.unusedSimpArgs false
set_option linter.unusedSectionVars false
namespace Go.Oct
variable [Gl]
open Go.RowKit

section
variable {P : Program} {p : AProg} {B0 : Nat} {w0 : World}

theorem step_unwind {fr : Frame} {cs : List Frame} {w : World} {ds : List Deferred} {blk : Nat} (hm : fr.mode = .returning) (hd : fr.defers = { target := .collected blk, args := #[] } :: ds) (hb : w.heap[blk]? = some (.deferred (some []))) :
    step P (lone fr cs w) = .next (lone { fr with defers := ds } cs (w.putObj blk (.deferred none))) :=
  step_lone_go (by simp [stepG, unwind, hm, hd, Sem.runT_eq, run_takeDeferred hb, GStep.bare_after])

theorem marks_sound {φ : Phi} : ∀ (ms : List Nat) (ds : List Deferred) (σ σ' : AH) (w : World), DefR φ ms ds → RR P p B0 w0 φ σ w → takeMarks σ ms = some σ' → ∀ (fr : Frame) (cs : List Frame), fr.mode = .returning → fr.defers = ds →
    ∃ w', Steps P (lone fr cs w) (lone { fr with defers := [] } cs w') ∧ RR P p B0 w0 φ σ' w' ∧ Ext φ φ σ σ'
  | _, _, σ, σ', w, .nil, hR, ht, fr, cs, hm, hd => by
    cases ht
    have : fr = { fr with defers := [] } := by rw [← hd]
    rw [← this]
    exact ⟨w, .refl _ _, hR, Ext.refl _ _⟩
  | _, _, σ, σ', w, .cons (d := d) (pd := pd) (ms := ms) (ds := ds) h hs, hR, ht, fr, cs, hm, hd => by
    simp only [takeMarks] at ht
    split at ht
    · rename_i hg
      split at ht
      · rename_i hl
        obtain ⟨o, g1, g2⟩ := hR.obj d pd h
        rw [hg] at g1; cases g1
        have g2 : w.heap[pd.b]? = some (.deferred (some [])) := g2
        have hlt := (hR.dom d pd h).2
        have hR' := hR.set h hl hg rfl .dead (turned_putObj (o := .deferred none) hlt) trivial
        obtain ⟨w', s, r, e⟩ := marks_sound ms ds _ σ' _ hs hR' ht { fr with defers := ds } cs hm rfl
        exact ⟨w', .head (step_unwind hm hd g2) s, r, (Ext.set φ σ d .dead).trans e⟩
      · cases ht
    · cases ht

theorem argEnv_get : ∀ (args : List AV) (k t : Nat), (argEnv k args).get t = if k ≤ t then args.getD (t - k) .undef else .undef
  | [], k, t => by simp [argEnv, Env.get]
  | v :: vs, k, t => by
    simp only [argEnv, Env.get]
    by_cases h : k = t
    · subst h; simp
    · rw [if_neg h, argEnv_get vs (k + 1) t]
      by_cases h2 : k ≤ t
      · have : t - k = (t - (k + 1)) + 1 := by omega
        rw [if_pos (by omega), if_pos h2, this]
        simp
      · rw [if_neg (by omega), if_neg h2]

theorem argEnv_R {φ : Phi} {args : List AV} {vs : List Value} (h : VRL φ args vs) {n : Nat} (hn : args.length ≤ n) :
    EnvR φ n (argEnv 0 args) (vs.toArray ++ Array.replicate (n - vs.toArray.size) undef) := by
  have hl := h.1
  refine ⟨by simp; omega, fun t => ?_⟩
  rw [argEnv_get, if_pos (Nat.zero_le _), Nat.sub_zero]
  by_cases ht : t < args.length
  · have := h.2 t
    have e : (vs.toArray ++ Array.replicate (n - vs.toArray.size) undef).getD t undef = vs.getD t undef := by
      have ht' : t < vs.length := by omega
      simp [Array.getD_eq_getD_getElem?, Array.getElem?_append, ht', List.getD_eq_getElem?_getD]
    rw [e]; exact this
  · have : args.getD t .undef = .undef := by simp [List.getD_eq_getElem?_getD, List.getElem?_eq_none (Nat.le_of_not_lt ht)]
    rw [this]; exact .undef _

theorem results_ok {φ : Phi} {σ : AH} {w : World} {env : Env} {N : Nat} {tmps : Array Value} (hR : RR P p B0 w0 φ σ w) (hE : EnvR φ N env tmps) : ∀ (rs : List ResultVar) (ars : List ARes) (avs : List AV), compRes P rs = some ars → aresults env σ ars = some avs →
    ∃ vs, VRL φ avs vs ∧ ∀ g : ResultVar → Sem Value, (∀ t, g (.tmp t) = pure (tmps.getD t undef)) → (∀ a t, g (.cell a t) = (do loadVar t (← asAddr (tmps.getD a undef)) : Sem Value)) → (rs.mapM g : Sem (List Value)).run P w = .ok vs w
  | [], ars, avs, hc, hv => by
    cases hc; cases hv
    exact ⟨[], VRL.nil _, fun g _ _ => by simp⟩
  | .tmp t :: rs, ars, avs, hc, hv => by
    simp only [compRes] at hc
    obtain ⟨r, hr, e⟩ := Option.map_eq_some_iff.1 hc
    cases e
    simp only [aresults, aresult] at hv
    split at hv
    · rename_i v vs h1 h2
      cases hv; cases h1
      obtain ⟨us, u1, u2⟩ := results_ok hR hE rs r vs hr h2
      refine ⟨tmps.getD t undef :: us, VRL.cons (hE.get t) u1, fun g g1 g2 => ?_⟩
      rw [List.mapM_cons, g1]
      simp only [Sem.run_bind, Sem.run_pure, Result.andThen, u2 g g1 g2]
    · cases hv
  | .cell a t :: rs, ars, avs, hc, hv => by
    simp only [compRes] at hc
    split at hc
    · rename_i g n r hg hn hr
      split at hc
      · rename_i hgn
        cases hc
        simp only [aresults] at hv
        split at hv
        · rename_i v vs h1 h2
          cases hv
          obtain ⟨us, u1, u2⟩ := results_ok hR hE rs r vs hr h2
          simp only [aresult] at h1
          split at h1
          · rename_i i o hp
            split at h1
            · rename_i cs hrow
              split at h1
              · rename_i hl
                have hx := hE.get a
                rw [hp] at hx
                obtain ⟨v', l1, l2⟩ := load_ok (P := P) hR hg hn hgn hx hrow hl h1
                refine ⟨v' :: us, VRL.cons l2 u1, fun g g1 g2 => ?_⟩
                have hld : (do loadVar t (← asAddr (tmps.getD a undef)) : Sem Value).run P w = .ok v' w := by
                  generalize tmps.getD a undef = q at hx l1
                  cases hx
                  simpa [Instr.loadAt, Instr.sureAddr, asAddr] using l1
                rw [List.mapM_cons, g2, Sem.run_bind, hld]
                simp only [Result.andThen, Sem.run_bind, u2 g g1 g2, Sem.run_pure]
              · cases h1
            · cases h1
          · cases h1
        · cases hv
      · cases hc
    · cases hc

theorem oneOf_VR {φ : Phi} {avs : List AV} {vs : List Value} (h : VRL φ avs vs) : VR φ (oneOf avs) (if h : vs.toArray.size = 1 then vs.toArray[0] else .tuple vs.toArray) := by
  cases avs with
  | nil =>
    cases vs with
    | nil => simpa [oneOf] using (VRL.nil φ).tuple
    | cons v vs => exact absurd h.1 (by simp)
  | cons x xs =>
    cases vs with
    | nil => exact absurd h.1 (by simp)
    | cons v vs =>
      cases xs with
      | nil =>
        cases vs with
        | nil => simpa [oneOf] using h.head
        | cons u us => exact absurd h.1 (by simp)
      | cons y ys =>
        cases vs with
        | nil => exact absurd h.1 (by simp)
        | cons u us => simpa [oneOf] using h.tuple

theorem results_run {fn : Func} {tmps : Array Value} {w : World} {vs : List Value} (h : ∀ g : ResultVar → Sem Value, (∀ t, g (.tmp t) = pure (tmps.getD t undef)) → (∀ a t, g (.cell a t) = (do loadVar t (← asAddr (tmps.getD a undef)) : Sem Value)) →
      (fn.results.toList.mapM g : Sem (List Value)).run P w = .ok vs w) :
    (results fn tmps).run P w = .ok (if h : vs.toArray.size = 1 then vs.toArray[0] else .tuple vs.toArray) w := by
  unfold results
  rw [Sem.run_bind, Array.mapM_eq_mapM_toList, Sem.run_map, h _ (fun _ => rfl) (fun _ _ => rfl)]
  rfl

/-- What a call leaves: the frame that is left. -/
def LPost (P : Program) (p : AProg) (B0 : Nat) (w0 : World) (φ : Phi) (σ : AH) (f : Nat) (vs : Array Value) (w : World) (v : AV) (σ' : AH) : Prop :=
  ∀ cs : List Frame, ∃ φ' w' v' fr, Steps P (lone (Frame.enter P f vs .normal) cs w) (lone fr cs w') ∧ fr.fn = f ∧ fr.leaving P w' (.returned v') ∧ VR φ' v v' ∧ Ext φ φ' σ σ' ∧ RR P p B0 w0 φ' σ' w'
theorem LPost.call {φ : Phi} {σ σ' : AH} {f : Nat} {vs : Array Value} {w : World} {v : AV} (h : LPost P p B0 w0 φ σ f vs w v σ') : CPost P p B0 w0 φ σ (Frame.enter P f vs .normal) w v σ' := by
  intro c cs
  obtain ⟨φ', w', v', fr, h1, h2, h3, h4, h5, h6⟩ := h (c :: cs)
  exact ⟨φ', w', v', h1.trans (.one (step_leave_returned h3)), h4, h5, h6⟩

theorem body_sound (hP : CompP P p) {n : Nat} {C : Caller} (hC : CallerOK P p B0 w0 C) (hD : DrawOK P p B0 w0 C) {f : Nat} {af : AFunc} (haf : p.funcs.get f = some af) {args : List AV} {σ : AH} {v : AV} {σ' : AH}
    (hv : abody p C n f af args σ = some (v, σ')) {φ : Phi} {w : World} {vs : List Value} (hR : RR P p B0 w0 φ σ w) (hA : VRL φ args vs) :
    (callFunc f vs.toArray).run P w = .ok (.enter f vs.toArray) w ∧ LPost P p B0 w0 φ σ f vs.toArray w v σ' := by
  obtain ⟨fn, c, hf⟩ := hP.fn f af haf
  refine ⟨?_, fun cs => ?_⟩
  · have hn := hf.name
    simp at hn
    simp [callFunc, hf.at_, hn, hf.body]
  · unfold abody at hv
    split at hv
    · rename_i hlen
      let b : Frame := { fn := f, tmps := #[], todo := [], defers := [], mode := .run, kind := .normal, roundOf := none }
      have henter : Frame.enter P f vs.toArray .normal = b.atR { tmps := vs.toArray ++ Array.replicate (fn.ntmps - vs.toArray.size) undef, defers := [] } [.code c] := by
        simp [Frame.enter, Frame.atR, hf.at_, hf.body, b]
      have hE : EnvR φ (Ntm P f) (argEnv 0 args) (vs.toArray ++ Array.replicate (fn.ntmps - vs.toArray.size) undef) := by
        rw [hf.ntm]; exact argEnv_R hA (by rw [hlen]; exact hf.np)
      have hB : BOK φ f none b := ⟨rfl, rfl, fun _ => rfl, fun l e => by cases e⟩
      have hcc : CC P (Ntm P f) af.loops c af.body := by rw [hf.ntm]; exact hf.code
      -- the end of the body
      have fin : ∀ (fr1 : Fr) (σ1 : AH) (φ1 : Phi) (w1 : World) (a1 : Act) (todo : List Item), Steps P (lone (Frame.enter P f vs.toArray .normal) cs w) (lone { b.atR a1 todo with mode := .returning } cs w1) → FrR P φ1 f fr1 a1 → Ext φ φ1 σ σ1 → RR P p B0 w0 φ1 σ1 w1 →
          (match takeMarks σ1 fr1.marks with
            | some σ'' => match aresults fr1.env σ'' af.res with
              | some vs => some (oneOf vs, σ'')
              | none => none
            | none => none) = some (v, σ') →
          ∃ φ' w' v' fr, Steps P (lone (Frame.enter P f vs.toArray .normal) cs w) (lone fr cs w') ∧ fr.fn = f ∧ fr.leaving P w' (.returned v') ∧ VR φ' v v' ∧ Ext φ φ' σ σ' ∧ RR P p B0 w0 φ' σ' w' := by
        intro fr1 σ1 φ1 w1 a1 todo hs hF he hR1 hv
        split at hv
        · rename_i σ2 hm
          split at hv
          · rename_i avs hav
            cases hv
            obtain ⟨w2, s2, r2, e2⟩ := marks_sound fr1.marks a1.defers σ1 _ w1 hF.defs hR1 hm { b.atR a1 todo with mode := .returning } cs rfl rfl
            obtain ⟨us, u1, u2⟩ := results_ok r2 hF.env fn.results.toList af.res avs hf.res hav
            exact ⟨φ1, w2, _, _, hs.trans s2, rfl, ⟨rfl, rfl, rfl, fn, hf.at_, results_run u2⟩, oneOf_VR u1, he.trans e2, r2⟩
          · cases hv
        · cases hv
      split at hv
      · cases hv
      · rename_i ex fr1 σ1 hne hcode
        obtain ⟨φ1, w1, a1, s1, s2, s3, s4⟩ := code_sound hP hC hD haf hcc _ _ _ _ _ hcode φ w { tmps := vs.toArray ++ Array.replicate (fn.ntmps - vs.toArray.size) undef, defers := [] } b [] cs hR ⟨hE, .nil⟩ hB
        rw [← henter] at s1
        cases ex with
        | normal => exact fin fr1 σ1 φ1 w1 a1 [] (Steps.trans s1 (.one (stepR_end rfl))) s2 s3 s4 hv
        | exit id => exact absurd rfl (hne id)
        | ret =>
          obtain ⟨k1, s1⟩ := s1
          exact fin fr1 σ1 φ1 w1 a1 _ (s1.trans (.one (stepR_ret rfl))) s2 s3 s4 hv
      · cases hv
    · cases hv

theorem puts_R {φ : Phi} {N : Nat} : ∀ (ks : List Nat) (args : List AV) (vs : List Value) (env : Env) (tmps : Array Value), (∀ k ∈ ks, k < N) → ks.length = args.length → VRL φ args vs → EnvR φ N env tmps →
    EnvR φ N (env.puts ks args) ((ks.zip vs).foldl (fun t (x : Nat × Value) => t.setIfInBounds x.1 x.2) tmps)
  | [], args, vs, env, tmps, hk, hl, hA, hE => by cases args <;> simpa [Env.puts] using hE
  | k :: ks, [], vs, env, tmps, hk, hl, hA, hE => absurd hl (by simp)
  | k :: ks, x :: xs, [], env, tmps, hk, hl, hA, hE => absurd hA.1 (by simp)
  | k :: ks, x :: xs, v :: vs, env, tmps, hk, hl, hA, hE => by
    simp only [Env.puts, List.zip_cons_cons, List.foldl_cons]
    exact puts_R ks xs vs _ _ (fun q hq => hk q (List.mem_cons_of_mem _ hq)) (by simpa using hl) hA.tail (hE.set (hk k (List.mem_cons_self ..)) hA.head)

theorem round_sound (hP : CompP P p) {n : Nat} {C : Caller} (hC : CallerOK P p B0 w0 C) (hD : DrawOK P p B0 w0 C) {l : Nat} {args : List AV} {σ : AH} {v : AV} {σ' : AH}
    (hv : arun1 p C n (.yield l) args σ = some (v, σ')) {φ : Phi} {w : World} {vs : List Value} (hR : RR P p B0 w0 φ σ w) (hA : VRL φ args vs) {pl : Place} (hl : φ l = some pl) :
    ∃ f tmps asg body, (Instr.yield pl.b vs.toArray).run P w = .ok (.round pl.b f tmps asg body) w ∧ CPost P p B0 w0 φ σ (Frame.round pl.b f tmps asg body .normal) w v σ' := by
  simp only [arun1] at hv
  split at hv
  · rename_i f i env st0 pend0 d0 hg0
    split at hv
    · rename_i af haf
      split at hv
      · rename_i lp hlp
        split at hv
        · rename_i hcond
          obtain ⟨hlen, hlim⟩ := hcond
          obtain ⟨o, g1, g2⟩ := hR.obj l pl hl
          rw [hg0] at g1; cases g1
          obtain ⟨r, q1, q2, q3, q4, q5, ⟨af', lp', z1, z2, z3, z4, z5, z6⟩, pd, q7, q8⟩ := g2
          rw [haf] at z1; cases z1
          rw [hlp] at z2; cases z2
          subst q2
          have hsz : vs.toArray.size = r.params.size := by
            have := hA.1
            rw [hlen, z3] at this
            simpa using this.symm
          refine ⟨_, _, _, _, run_yield q1 hsz, ?_⟩
          show CPost P p B0 w0 φ σ (Frame.round pl.b r.fn ((r.params.zip vs.toArray).foldl (fun tmps (x : Nat × Value) => tmps.setIfInBounds x.1 x.2) r.tmps) r.assign r.body .normal) w v σ'
          intro c cs
          have ez : (r.params.zip vs.toArray).foldl (fun tmps (x : Nat × Value) => tmps.setIfInBounds x.1 x.2) r.tmps = (lp.params.zip vs).foldl (fun t (x : Nat × Value) => t.setIfInBounds x.1 x.2) r.tmps := by
            rw [← Array.foldl_toList, Array.toList_zip, z3]
          let b : Frame := { fn := r.fn, tmps := #[], todo := [], defers := [], mode := .run, kind := .normal, roundOf := some pl.b }
          have hround : Frame.round pl.b r.fn ((r.params.zip vs.toArray).foldl (fun tmps (x : Nat × Value) => tmps.setIfInBounds x.1 x.2) r.tmps) r.assign r.body .normal =
              b.atR { tmps := (lp.params.zip vs).foldl (fun t (x : Nat × Value) => t.setIfInBounds x.1 x.2) r.tmps, defers := [] } [.code r.assign, .beginRound, .code r.body] := by
            rw [← ez]; simp [Frame.round, Frame.atR, b]
          have hE := puts_R lp.params args vs env r.tmps (by rw [z3]; exact z4) hlen.symm hA q5
          have hB : BOK φ r.fn (some l) b := ⟨rfl, rfl, (fun e => by cases e), (fun l' e => by cases e; exact ⟨pl, hl, rfl⟩)⟩
          rw [hround]
          split at hv
          · rename_i fr1 σ1 hasg
            obtain ⟨φ1, w1, a1, s1, s2, s3, s4⟩ := code_sound hP hC hD haf z5 _ _ _ _ _ hasg φ w
              { tmps := (lp.params.zip vs).foldl (fun t (x : Nat × Value) => t.setIfInBounds x.1 x.2) r.tmps, defers := [] } b [.beginRound, .code r.body] (c :: cs) hR ⟨hE, .nil⟩ hB
            split at hv
            · rename_i f1 i1 env1 pend1 d1 hg1
              obtain ⟨o1, g3, g4⟩ := s4.obj l pl (s3.le _ _ hl)
              rw [hg1] at g3; cases g3
              obtain ⟨r1, y1, y2, y3, y4, y5, y6, pd1, y7, y8⟩ := g4
              have hlt1 := (s4.dom l pl (s3.le _ _ hl)).2
              have hlim1 : σ1.lim ≤ l := by rw [s3.lim]; exact hlim
              have hR1 := s4.set (s3.le _ _ hl) hlim1 hg1 rfl (.loop f1 i1 env1 .busy pend1 d1) (turned_putObj (o := .loop { r1 with state := .busy }) hlt1)
                ⟨{ r1 with state := .busy }, World.putObj_heap_same hlt1, y2, rfl, y4, y5, y6, pd1, y7, y8⟩
              have st1 := stepR_beginRound (P := P) (b := b) (a := a1) (k := [.code r.body]) (cs := c :: cs) rfl (run_beginRound y1 y3)
              have he1 : Ext φ φ1 σ (σ1.set l (.loop f1 i1 env1 .busy pend1 d1)) := s3.trans (Ext.set _ _ _ _)
              split at hv
              · rename_i ex fr2 σ2 hbody
                obtain ⟨φ2, w2, a2, t1, t2, t3, t4⟩ := code_sound hP hC hD haf z6 _ _ _ _ _ hbody φ1 _ a1 b [] (c :: cs) hR1 s2 (hB.mono s3.le)
                have t1' := t1.of_steps (Steps.trans s1 (.one st1))
                have he2 := he1.trans t3
                have hl2 := he2.le _ _ hl
                split at hv
                · rename_i f2 i2 env2 st2 pend2 d2 hg2
                  obtain ⟨o2, g5, g6⟩ := t4.obj l pl hl2
                  rw [hg2] at g5; cases g5
                  obtain ⟨r2, x1, x2, x3, x4, x5, x6, pd2, x7, x8⟩ := g6
                  have hlt2 := (t4.dom l pl hl2).2
                  have hlim2 : σ2.lim ≤ l := by rw [he2.lim]; exact hlim
                  -- the end of a round
                  have fin : ∀ (q : Option AEx) (j : Option Code) (s : LoopState), pendR q j → s = (if j.isNone then .ready else .done) →
                      RR P p B0 w0 φ2 (σ2.set l (.loop f2 i2 env2 s q d2)) (w2.putObj pl.b (.loop { r2 with state := if j.isNone then .ready else .done, pending := j })) := by
                    intro q j s hq hs
                    subst hs
                    exact t4.set hl2 hlim2 hg2 rfl (.loop f2 i2 env2 _ q d2) (turned_putObj hlt2)
                      ⟨{ r2 with state := if j.isNone then .ready else .done, pending := j }, World.putObj_heap_same hlt2, x2, rfl, hq, x5, x6, pd2, x7, x8⟩
                  cases ex with
                  | normal =>
                    simp only [Option.some.injEq, Prod.mk.injEq] at hv
                    obtain ⟨rfl, rfl⟩ := hv
                    exact ⟨φ2, _, _, Steps.trans t1' (.one (stepR_round_end rfl rfl (run_endRound none x1))), .bool true, he2.trans (Ext.set _ _ _ _), fin none none .ready rfl rfl⟩
                  | exit id =>
                    simp only [Option.some.injEq, Prod.mk.injEq] at hv
                    obtain ⟨rfl, rfl⟩ := hv
                    obtain ⟨k1, e1, t1'⟩ := t1'
                    exact ⟨φ2, _, _, t1'.trans (.one (stepR_round_exit rfl rfl e1 (run_endRound (some (.exit id)) x1))), .bool false, he2.trans (Ext.set _ _ _ _), fin (some (.exit id)) (some (.exit id)) .done rfl rfl⟩
                  | ret =>
                    simp only [Option.some.injEq, Prod.mk.injEq] at hv
                    obtain ⟨rfl, rfl⟩ := hv
                    obtain ⟨k1, t1'⟩ := t1'
                    exact ⟨φ2, _, _, t1'.trans (.one (stepR_round_ret rfl rfl (run_endRound (some .ret) x1))), .bool false, he2.trans (Ext.set _ _ _ _), fin (some .ret) (some .ret) .done rfl rfl⟩
                · cases hv
              · cases hv
            · cases hv
          · cases hv
        · cases hv
      · cases hv
    · cases hv
  · cases hv

/-! ### Runs apart -/
/-- What no one will write when objects stand as they are. -/
def Phi.frozen (φ : Phi) (c : Nat → Option (List AV)) (φ0 : Phi) : Phi :=
  { φ0 with fz := fun b o cs => φ.fz b o cs ∨ ∃ i pl k cells, φ i = some pl ∧ c i = some cells ∧ b = pl.b ∧ o = pl.o ∧ cs = .av (cells.map fun x => (fzV k c x).na), gl := fun g cs h => .inl (φ.gl g cs h) }
theorem VR.na {φ : Phi} {x : AV} {v : Value} (h : VR φ x v) : VR φ x.na v := by
  cases x <;> first | exact h | exact .undef _
theorem na_cells (x : AV) : x.na.cells = [x.na] := by cases x <;> rfl
theorem cel_row {σ : AH} {i : Nat} {cs : List AV} (h : σ.cel i = some cs) : σ.get i = some (.cells cs) ∨ σ.get i = some (.ro cs) := by
  unfold AH.cel at h
  split at h
  · rename_i c hg; cases h; exact .inl hg
  · rename_i c hg; cases h; exact .inr hg
  · cases h
/-- An object whose cells are seen. -/
theorem cel_obj {LC : LCode} {N : Nat → Nat} {B0 : Nat} {w0 : World} {φ : Phi} {σ : AH} {w : World} (h : R LC N B0 w0 φ σ w) {i : Nat} {pl : Place} {cs : List AV} (e1 : φ i = some pl) (e2 : σ.cel i = some cs) :
    ∃ c e fr, w.heap[pl.b]? = some (.cells c e fr) ∧ ∀ (j : Nat) (x : AV), cs[j]? = some x → ∃ v, c[pl.o + j]? = some v ∧ VR φ x v := by
  obtain ⟨ob, g1, g2⟩ := h.obj i pl e1
  rcases cel_row e2 with hg | hg
  · rw [hg] at g1; cases g1
    obtain ⟨c, t, fr, q1, qf, q2, q3, q4⟩ := g2
    exact ⟨c, t, _, q1, q4⟩
  · rw [hg] at g1; cases g1
    exact g2
theorem cel_own {LC : LCode} {N : Nat → Nat} {B0 : Nat} {w0 : World} {φ : Phi} {σ : AH} {w : World} (h : R LC N B0 w0 φ σ w) {i : Nat} {pl : Place} {cs : List AV} (e1 : φ i = some pl) (hl : σ.lim ≤ i) (e2 : σ.cel i = some cs) :
    B0 ≤ pl.b ∧ ∀ j pj oj, j ≠ i → φ j = some pj → σ.get j = some oj → oj.alive = true → pj.b ≠ pl.b := by
  rcases cel_row e2 with hg | hg
  · exact h.own i pl _ e1 hl hg rfl
  · exact h.own i pl _ e1 hl hg rfl
theorem chunks_ok (z : Nat) : ∀ (n : Nat) (cs : List AV), (∀ x ∈ cs, x.cells = [x]) → n * z ≤ cs.length →
    (chunks z n cs).length = n ∧ (∀ e ∈ chunks z n cs, e.cells.length = z) ∧ (chunks z n cs).flatMap AV.cells = cs.take (n * z)
  | 0, cs, _, _ => by simp [chunks]
  | n + 1, cs, h, hl => by
    have hz : (n + 1) * z = n * z + z := Nat.succ_mul n z
    obtain ⟨h1, h2, h3⟩ := chunks_ok z n (cs.drop z) (fun x hx => h x (List.mem_of_mem_drop hx)) (by rw [List.length_drop]; omega)
    have e1 : (AV.elem (cs.take z)).cells = cs.take z := by
      unfold AV.elem
      split
      · rename_i x hx
        have : x ∈ cs := List.mem_of_mem_take (by rw [hx]; exact List.mem_singleton.2 rfl)
        rw [hx]; exact h x this
      · rfl
    refine ⟨by simp [chunks, h1], ?_, ?_⟩
    · intro e he
      rcases List.mem_cons.1 he with rfl | he
      · rw [e1, List.length_take]; omega
      · exact h2 e he
    · rw [chunks, List.flatMap_cons, e1, h3, hz, Nat.add_comm, List.take_add]
theorem getD_map {f : AV → AV} (hf : f .undef = .undef) (xs : List AV) (i : Nat) : (xs.map f).getD i .undef = f (xs.getD i .undef) := by
  rw [List.getD_eq_getElem?_getD, List.getD_eq_getElem?_getD, List.getElem?_map]
  cases xs[i]? <;> simp [hf]
theorem fzV_undef (k : Nat) (σ : Nat → Option (List AV)) : fzV k σ .undef = .undef := by cases k <;> simp [fzV]
theorem fzV_slice {LC : LCode} {N : Nat → Nat} {φ φ0 : Phi} {σ : Nat → Option (List AV)} {k i o n : Nat} {pl : Place} {cap : ACap} {c : Nat} {a : Addr} (hp : φ i = some pl) (ha : c ≠ 0 → a = ⟨pl.b, pl.o + o, none⟩) (hl : n ≤ c) :
    VR (φ.frozen σ φ0).bare (fzV (k + 1) σ (.slice (some (i, o)) n cap)) (.slice (some a) n c) := by
  simp only [fzV]
  split
  · rename_i cs hcs
    split
    · rename_i ho
      split
      · rename_i z hz
        have hnz : n * z ≤ cs.length - o := by
          unfold ACap.cellsOf at hz
          split at hz
          · split at hz
            · cases hz; assumption
            · cases hz
          · split at hz
            · rename_i h0; subst h0; simp
            · split at hz
              · rename_i c' _ hc
                cases hz
                obtain ⟨q1, q2⟩ := hc
                have h3 := Nat.mul_le_mul_left ((cs.length - o) / c') q2
                rw [q1, Nat.mul_comm] at h3
                exact h3
              · cases hz
        obtain ⟨h1, h2, h3⟩ := chunks_ok z n ((cs.drop o).map fun x => (fzV k σ x).na) (fun x hx => by
          obtain ⟨y, _, rfl⟩ := List.mem_map.1 hx
          exact na_cells _) (by rw [List.length_map, List.length_drop]; exact hnz)
        have := VR.vsl (φ := (φ.frozen σ φ0).bare) (chunks z n ((cs.drop o).map fun x => (fzV k σ x).na)) z c a h2 (by rw [h1]; exact hl) (fun hne => ?_)
        · rwa [h1] at this
        · have hn0 : n ≠ 0 := by rintro rfl; exact hne rfl
          refine ⟨pl.b, pl.o + o, ha (by omega), ?_⟩
          rw [h3, List.map_drop]
          refine Phi.has_take (Phi.has_drop (Phi.has_fz (Or.inr ⟨i, pl, k, cs, hp, hcs, rfl, rfl, rfl⟩)) o ?_) _
          rw [List.length_map]; exact ho
      · exact .undef _
    · exact .undef _
  · exact .undef _
theorem fzV_ok {φ φ0 : Phi} {σ : Nat → Option (List AV)} : ∀ (k : Nat) (x : AV) (v : Value), VR φ x v → VR (φ.frozen σ φ0).bare (fzV k σ x) v
  | 0, x, v, h => .undef _
  | k + 1, x, v, h => by
    cases h with
    | undef v => rw [fzV_undef]; exact .undef _
    | int q n => exact .int q n
    | bool b => exact .bool b
    | str s => exact .str s
    | ptrN => exact .ptrN
    | ptr i o pl h =>
      simp only [fzV]
      split
      · rename_i cs hcs
        exact .vptr _ o pl.b pl.o (Phi.has_fz (Or.inr ⟨i, pl, k, cs, h, hcs, rfl, rfl, rfl⟩))
      · exact .undef _
    | sliceN => exact .vslN
    | sliceX i o pl len c a h hb ha hl => exact fzV_slice (LC := fun _ _ _ _ _ => True) (N := fun _ => 0) h ha hl
    | sliceO i o pl len z c a h hb ha hl he => exact fzV_slice (LC := fun _ _ _ _ _ => True) (N := fun _ => 0) h ha hl
    | mapN => exact .mapN
    | map i pl h => exact .undef _
    | func f xs ys vx vy hx hy h1 h2 =>
      exact .func f _ _ vx vy (by simpa using hx) (by simpa using hy) (fun i => by rw [getD_map (fzV_undef k σ)]; exact fzV_ok k _ _ (h1 i)) (fun i => by rw [getD_map (fzV_undef k σ)]; exact fzV_ok k _ _ (h2 i))
    | yield l pl xs ys vx vy h hx hy h1 h2 => exact .undef _
    | meth name x v h => exact .undef _
    | nilFunc => exact .nilFunc
    | iface t x v h => exact .iface t _ v (fzV_ok k _ _ h)
    | nilIface => exact .nilIface
    | agg xs vs hs h => exact .agg _ vs (by simpa using hs) (fun i => by rw [getD_map (fzV_undef k σ)]; exact fzV_ok k _ _ (h i))
    | tuple xs vs hs h => exact .tuple _ vs (by simpa using hs) (fun i => by rw [getD_map (fzV_undef k σ)]; exact fzV_ok k _ _ (h i))
    | vslN => exact .vslN
    | vsl es z c a hz hl h => exact .vsl es z c a hz hl fun he => let ⟨b, o, h1, h2⟩ := h he; ⟨b, o, h1, Phi.has_fzle (φ := φ) (φ' := (φ.frozen σ φ0).bare) (fun _ _ _ e => Or.inl e) h2⟩
    | vptr cs q b o h => exact .vptr cs q b o (Phi.has_fzle (φ := φ) (φ' := (φ.frozen σ φ0).bare) (fun _ _ _ e => Or.inl e) h)
    | tsl n cs vs b h hs h1 => exact .undef _
theorem closed_ok {φ : Phi} : ∀ (k : Nat) (x : AV) (v : Value), closed k x = true → VR φ x v → VR φ.bare x v
  | 0, x, v, hc, h => by simp [closed] at hc
  | k + 1, x, v, hc, h => by
    have lst : ∀ (xs : List AV) (f : Nat → Value), xs.all (closed k) = true → (∀ i, VR φ (xs.getD i .undef) (f i)) → ∀ i, VR φ.bare (xs.getD i .undef) (f i) := by
      intro xs f ha hi i
      by_cases hlt : i < xs.length
      · have e : xs.getD i .undef = xs[i] := by simp [List.getD_eq_getElem?_getD, List.getElem?_eq_getElem hlt]
        have := hi i
        rw [e] at this ⊢
        exact closed_ok k _ _ (List.all_eq_true.1 ha _ (List.getElem_mem hlt)) this
      · have e : xs.getD i .undef = .undef := by simp [List.getD_eq_getElem?_getD, List.getElem?_eq_none (Nat.le_of_not_lt hlt)]
        rw [e]; exact .undef _
    cases h with
    | undef v => exact .undef _
    | int q n => exact .int q n
    | bool b => exact .bool b
    | str s => exact .str s
    | ptrN => exact .ptrN
    | ptr i o pl h => simp [closed] at hc
    | sliceN => exact .sliceN
    | sliceX i o pl len c a h hb ha hl => simp [closed] at hc
    | sliceO i o pl len z c a h hb ha hl he => simp [closed] at hc
    | mapN => exact .mapN
    | map i pl h => simp [closed] at hc
    | func f xs ys vx vy hx hy h1 h2 =>
      simp only [closed, Bool.and_eq_true] at hc
      exact .func f _ _ vx vy hx hy (lst xs _ hc.1 h1) (lst ys _ hc.2 h2)
    | yield l pl xs ys vx vy h hx hy h1 h2 => simp [closed] at hc
    | meth name x v h => simp [closed] at hc
    | nilFunc => exact .nilFunc
    | iface t x v h => exact .iface t _ v (closed_ok k _ _ (by simpa [closed] using hc) h)
    | nilIface => exact .nilIface
    | agg xs vs hs h => exact .agg _ vs hs (lst xs _ (by simpa only [closed] using hc) h)
    | tuple xs vs hs h => exact .tuple _ vs hs (lst xs _ (by simpa only [closed] using hc) h)
    | vslN => exact .vslN
    | vsl es z c a hz hl h => exact .vsl es z c a hz hl h
    | vptr cs q b o h => exact .vptr cs q b o h
    | tsl n cs vs b h hs h1 => simp [closed] at hc
theorem isScal_ok {φ φ' : Phi} : ∀ (k : Nat) (x : AV) (v : Value), isScal k x = true → VR φ x v → VR φ' x v
  | 0, x, v, hc, h => by simp [isScal] at hc
  | k + 1, x, v, hc, h => by
    have lst : ∀ (xs : List AV) (f : Nat → Value), xs.all (isScal k) = true → (∀ i, VR φ (xs.getD i .undef) (f i)) → ∀ i, VR φ' (xs.getD i .undef) (f i) := by
      intro xs f ha hi i
      by_cases hlt : i < xs.length
      · have e : xs.getD i .undef = xs[i] := by simp [List.getD_eq_getElem?_getD, List.getElem?_eq_getElem hlt]
        have := hi i
        rw [e] at this ⊢
        exact isScal_ok k _ _ (List.all_eq_true.1 ha _ (List.getElem_mem hlt)) this
      · have e : xs.getD i .undef = .undef := by simp [List.getD_eq_getElem?_getD, List.getElem?_eq_none (Nat.le_of_not_lt hlt)]
        rw [e]; exact .undef _
    cases h with
    | int q n => exact .int q n
    | bool b => exact .bool b
    | str s => exact .str s
    | nilFunc => exact .nilFunc
    | nilIface => exact .nilIface
    | ptrN => exact .ptrN
    | mapN => exact .mapN
    | vslN => exact .vslN
    | vsl es z c a hz hl h =>
      cases es with
      | nil => exact .vsl [] z c a hz hl (fun e => absurd rfl e)
      | cons e es => simp [isScal] at hc
    | agg xs vs hs h => exact .agg _ vs hs (lst xs _ (by simpa only [isScal] using hc) h)
    | tuple xs vs hs h => exact .tuple _ vs hs (lst xs _ (by simpa only [isScal] using hc) h)
    | _ => simp [isScal] at hc

theorem kills_get : ∀ (S : List Nat) (σ : AH) (i : Nat), i ∉ S → (σ.kills S).get i = σ.get i
  | [], σ, i, _ => rfl
  | j :: S, σ, i, h => by
    rw [AH.kills, kills_get S _ i fun hi => h (List.mem_cons_of_mem _ hi)]
    exact AH.get_set_other _ _ _ _ fun e => h (by rw [e]; exact List.mem_cons_self ..)
theorem left_mut (σ : AH) (i : Nat) : (σ.left i).mut = false := by
  unfold AH.left
  split <;> rfl
theorem kills_mut : ∀ (S : List Nat) (σ : AH) (i : Nat) (o : AObj), i ∈ S → (σ.kills S).get i = some o → o.mut = false
  | [], σ, i, o, h, _ => by cases h
  | j :: S, σ, i, o, h, hg => by
    by_cases hi : i ∈ S
    · exact kills_mut S _ i o hi hg
    · rcases List.mem_cons.1 h with rfl | h
      · rw [AH.kills, kills_get S _ i hi] at hg
        by_cases hlt : i < σ.next
        · rw [AH.get_set_same _ _ _ hlt] at hg
          cases hg
          exact left_mut σ i
        · have := AH.get_lt hg
          simp at this
          omega
      · exact absurd h hi
/-- What an object's cells are stays to be seen. -/
theorem kills_cel : ∀ (S : List Nat) (σ : AH) (i : Nat), (σ.kills S).cel i = σ.cel i
  | [], σ, i => rfl
  | j :: S, σ, i => by
    rw [AH.kills, kills_cel S]
    by_cases hij : i = j
    · subst hij
      by_cases hlt : i < σ.next
      · show (match (σ.set i (σ.left i)).get i with | some (.cells cs) | some (.ro cs) => some cs | _ => none) = σ.cel i
        rw [AH.get_set_same _ _ _ hlt]
        unfold AH.left
        cases σ.cel i <;> rfl
      · have h1 : (σ.set i (σ.left i)).get i = none := by
          cases hg : (σ.set i (σ.left i)).get i with
          | none => rfl
          | some o => have := AH.get_lt hg; simp at this; omega
        have h2 : σ.get i = none := by
          cases hg : σ.get i with
          | none => rfl
          | some o => have := AH.get_lt hg; omega
        unfold AH.cel
        rw [h1, h2]
    · unfold AH.cel
      rw [AH.get_set_other _ _ _ _ hij]
theorem kills_next : ∀ (S : List Nat) (σ : AH), (σ.kills S).next = σ.next ∧ (σ.kills S).lim = σ.lim
  | [], σ => ⟨rfl, rfl⟩
  | i :: S, σ => by rw [AH.kills, (kills_next S _).1, (kills_next S _).2]; exact ⟨rfl, rfl⟩
theorem R.kills {LC : LCode} {N : Nat → Nat} {B0 : Nat} {w0 : World} {φ : Phi} {w : World} : ∀ (S : List Nat) {σ : AH}, R LC N B0 w0 φ σ w → R LC N B0 w0 φ (σ.kills S) w
  | [], _, h => h
  | i :: S, _, h => R.kills S (h.left i)

theorem VRL.to {φ φ' : Phi} {xs : List AV} {vs : List Value} (h : VRL φ xs vs) (f : AV → AV) (hf : ∀ x v, x ∈ xs → VR φ x v → VR φ' (f x) v) : VRL φ' (xs.map f) vs :=
  VRL.of_get (by simpa using h.1) fun i x v hx hv => by
    rw [List.getElem?_map] at hx
    obtain ⟨y, hy, rfl⟩ := Option.map_eq_some_iff.1 hx
    obtain ⟨u, hu, hr⟩ := h.get? hy
    rw [hv] at hu
    cases hu
    exact hf y v (List.mem_of_getElem? hy) hr

theorem apart_sound (hP : CompP P p) {n : Nat} {C : Caller} (hC : ∀ B0 w0, CallerOK P p B0 w0 C) (hD : ∀ B0 w0, DrawOK P p B0 w0 C) {f : Nat} {af : AFunc} (haf : p.funcs.get f = some af) {args : List AV} {σ : AH} {v : AV} {σ' : AH}
    (hv : apart (abody p C n f af) args σ = some (v, σ')) {φ : Phi} {w : World} {vs : List Value} (hR : RR P p B0 w0 φ σ w) (hA : VRL φ args vs) :
    (callFunc f vs.toArray).run P w = .ok (.enter f vs.toArray) w ∧ LPost P p B0 w0 φ σ f vs.toArray w v σ' := by
  unfold apart at hv
  split at hv
  · rename_i hcl
    split at hv
    · rename_i v1 σ1 hb
      cases hv
      let φ0 : Phi := { pl := fun _ => none, fz := φ.fz, base := w.heap.size, gl := φ.gl }
      have hR0 : RR P p w.heap.size w φ0 ⟨0, 0, .leaf⟩ w := by
        refine ⟨Below.refl _ _, Nat.le_refl _, (fun i pl e => by cases e), (fun i pl e => by cases e), (fun i pl o e => by cases e), rfl, fun b o cs hb => ?_⟩
        obtain ⟨q1, ⟨c, e, fr, q2, q3⟩, _⟩ := hR.frz b o cs hb
        exact ⟨q1, ⟨c, e, fr, q2, FzK.ok.mono0 (φ := φ.bare) (φ' := φ0.bare) (fun _ _ h => h) (fun _ _ _ h => h) q3⟩, fun i pl ob e => by cases e⟩
      have hA0 : VRL φ0 args vs := by
        have := hA.to (φ' := φ0) id fun x v hx h => VR.mono0 (φ := φ.bare) (φ' := φ0) (fun _ _ h => h) (fun _ _ _ h => h) (closed_ok 8 x v (List.all_eq_true.1 hcl x hx) h)
        simpa using this
      obtain ⟨h1, h2⟩ := body_sound hP (hC _ _) (hD _ _) haf hb hR0 hA0
      refine ⟨h1, fun cs => ?_⟩
      obtain ⟨φ', w', v', fr, s1, s2, s3, s4, s5, s6⟩ := h2 cs
      have hle : φ.le (φ'.frozen σ1.cel φ) := ⟨fun _ _ e => e, fun b o cs e => .inl (s5.le.fz b o cs e), rfl⟩
      have hlim : σ1.lim = 0 := s5.lim
      have own1 : ∀ i pl cells, φ' i = some pl → σ1.cel i = some cells → w.heap.size ≤ pl.b := fun i pl cells e hc =>
        (cel_own s6 e (by rw [hlim]; exact Nat.zero_le _) hc).1
      have hg := hR.grown s6.below
      refine ⟨φ'.frozen σ1.cel φ, w', v', fr, s1, s2, s3, VR.mono0 (φ := (φ'.frozen σ1.cel φ).bare) (φ' := φ'.frozen σ1.cel φ) (fun _ _ e => by simp [Phi.bare] at e) (fun _ _ _ e => e) (fzV_ok 8 v1 v' s4), ⟨hle, fun _ _ e => .inl e, fun i h h' => by omega, Nat.le_refl _, rfl, fun b o cs e => ?_⟩,
        ⟨hg.below, hg.size, hg.dom, fun i pl e => let ⟨o, o1, o2⟩ := hg.obj i pl e; ⟨o, o1, o2.mono hle⟩, hg.own, hg.base, fun b o cs e => ?_⟩⟩
      · have hsz := hR.size
        have hbs := hR.base
        rcases e with e | ⟨i, pl, k, cells, e1, e2, rfl, rfl, rfl⟩
        · rcases s5.fzn b o cs e with e | e
          · exact .inl e
          · have e : w.heap.size ≤ b := e
            exact .inr (by omega)
        · have := own1 i pl cells e1 e2
          exact .inr (by omega)
      · rcases e with e | ⟨i, pl, k, cells, e1, e2, rfl, rfl, rfl⟩
        · obtain ⟨q1, ⟨c, t, fr, q2, q3⟩, _⟩ := s6.frz b o cs e
          refine ⟨q1, ⟨c, t, fr, q2, FzK.ok.mono0 (φ := φ'.bare) (φ' := (φ'.frozen σ1.cel φ).bare) (fun _ _ h => h) (fun _ _ _ h => Or.inl h) q3⟩, fun i pl ob h1 h2 h3 => ?_⟩
          · rcases s5.fzn b o cs e with e | e
            · exact (hR.frz b o cs e).2.2 i pl ob h1 h2 h3
            · have e : w.heap.size ≤ b := e
              have := (hR.dom i pl h1).2
              omega
        · obtain ⟨c, t, fr, q1, q4⟩ := cel_obj s6 e1 e2
          refine ⟨(s6.dom i pl e1).2, ⟨c, t, _, q1, fun j x hx => ?_⟩, fun i' pl' ob h1 h2 h3 => ?_⟩
          · rw [List.getElem?_map] at hx
            obtain ⟨y, hy, rfl⟩ := Option.map_eq_some_iff.1 hx
            obtain ⟨u, u1, u2⟩ := q4 j y hy
            exact ⟨u, u1, (fzV_ok k y u u2).na⟩
          · have := own1 i pl cells e1 e2
            have := (hR.dom i' pl' h1).2
            omega
    · cases hv
  · split at hv
    · rename_i v1 σ1 hb
      let S := args.flatMap (idsV 8 σ.cel)
      let cl := σ.celOf S
      have hcl : ∀ i cells, cl i = some cells → i ∈ S ∧ σ.cel i = some cells := by
        intro i cells e
        have e : (if S.contains i then σ.cel i else none) = some cells := e
        split at e
        · rename_i hc
          exact ⟨by simpa using hc, e⟩
        · cases e
      let φ0 : Phi := { pl := fun _ => none, fz := (φ.frozen cl φ).fz, base := w.heap.size, gl := (φ.frozen cl φ).gl }
      have hR0 : RR P p w.heap.size w φ0 ⟨0, 0, .leaf⟩ w := by
        refine ⟨Below.refl _ _, Nat.le_refl _, (fun i pl e => by cases e), (fun i pl e => by cases e), (fun i pl o e => by cases e), rfl, fun b o cs hb => ?_⟩
        rcases hb with hb | ⟨i, pl, k, cells, e1, e2, rfl, rfl, rfl⟩
        · obtain ⟨q1, ⟨c, e, fr, q2, q3⟩, _⟩ := hR.frz b o cs hb
          exact ⟨q1, ⟨c, e, fr, q2, FzK.ok.mono0 (φ := φ.bare) (φ' := φ0.bare) (fun _ _ h => h) (fun _ _ _ h => Or.inl h) q3⟩, fun i pl ob e => by cases e⟩
        · obtain ⟨c, t, fr, q1, q4⟩ := cel_obj hR e1 (hcl i cells e2).2
          refine ⟨(hR.dom i pl e1).2, ⟨c, t, _, q1, fun j x hx => ?_⟩, fun i' pl' ob h1 => by cases h1⟩
          rw [List.getElem?_map] at hx
          obtain ⟨y, hy, rfl⟩ := Option.map_eq_some_iff.1 hx
          obtain ⟨u, u1, u2⟩ := q4 j y hy
          exact ⟨u, u1, VR.mono0 (φ := (φ.frozen cl φ).bare) (φ' := φ0.bare) (fun _ _ h => h) (fun _ _ _ h => h) (fzV_ok (φ0 := φ) k y u u2).na⟩
      have hA0 : VRL φ0 (args.map (fzV 8 cl)) vs := hA.to _ fun x v hx h => VR.mono0 (φ := (φ.frozen cl φ).bare) (φ' := φ0) (fun _ _ h => h) (fun _ _ _ h => h) (fzV_ok (φ0 := φ) 8 x v h)
      obtain ⟨h1, h2⟩ := body_sound hP (hC _ _) (hD _ _) haf hb hR0 hA0
      refine ⟨h1, fun cs => ?_⟩
      obtain ⟨φ', w', v', fr, s1, s2, s3, s4, s5, s6⟩ := h2 cs
      have hv1 : VR (φ'.frozen σ1.cel φ).bare (fzV 8 σ1.cel v1) v' := fzV_ok 8 v1 v' s4
      split at hv
      · rename_i hsc
        cases hv
        exact ⟨φ, w', v', fr, s1, s2, s3, isScal_ok 8 _ v' hsc hv1, Ext.refl _ _, hR.grown s6.below⟩
      · split at hv
        · rename_i hall
          cases hv
          have hS : ∀ i ∈ S, σ.lim ≤ i := fun i hi => by simpa using List.all_eq_true.1 hall i hi
          show ∃ φ' w' v' fr, _ ∧ _ ∧ _ ∧ _ ∧ Ext φ φ' σ (σ.kills S) ∧ RR P p B0 w0 φ' (σ.kills S) w'
          have hle : φ.le (φ'.frozen σ1.cel φ) := ⟨fun _ _ e => e, fun b o cs e => .inl (s5.le.fz b o cs (.inl e)), rfl⟩
          have hlim : σ1.lim = 0 := s5.lim
          have own1 : ∀ i pl cells, φ' i = some pl → σ1.cel i = some cells → w.heap.size ≤ pl.b := fun i pl cells e hc =>
            (cel_own s6 e (by rw [hlim]; exact Nat.zero_le _) hc).1
          have hg := (hR.grown s6.below).kills S
          have hsz := hR.size
          have hbs := hR.base
          -- no object that is left to be written lies in the block of one that is given up
          have gone : ∀ i pl cells, φ i = some pl → cl i = some cells → B0 ≤ pl.b ∧ ∀ j pj ob, φ j = some pj → (σ.kills S).get j = some ob → ob.mut = true → pj.b ≠ pl.b := by
            intro i pl cells e1 e2
            obtain ⟨hi, hgi⟩ := hcl i cells e2
            obtain ⟨b1, b2⟩ := cel_own hR e1 (hS i hi) hgi
            refine ⟨b1, fun j pj ob ej gj mj => ?_⟩
            have hj : j ∉ S := fun hj => by rw [kills_mut S σ j ob hj gj] at mj; cases mj
            rw [kills_get S σ j hj] at gj
            exact b2 j pj ob (fun e => hj (by rw [e]; exact hi)) ej gj (by cases ob <;> first | rfl | cases mj)
          have left : ∀ j pj ob, φ j = some pj → (σ.kills S).get j = some ob → ob.mut = true → σ.get j = some ob := by
            intro j pj ob ej gj mj
            have hj : j ∉ S := fun hj => by rw [kills_mut S σ j ob hj gj] at mj; cases mj
            rwa [kills_get S σ j hj] at gj
          obtain ⟨kn, kl⟩ := kills_next S σ
          refine ⟨φ'.frozen σ1.cel φ, w', v', fr, s1, s2, s3, VR.mono0 (φ := (φ'.frozen σ1.cel φ).bare) (φ' := φ'.frozen σ1.cel φ) (fun _ _ e => by simp [Phi.bare] at e) (fun _ _ _ e => e) hv1,
            ⟨hle, fun _ _ e => .inl e, fun i h h' => by omega, by omega, kl, fun b o cs e => ?_⟩,
            ⟨hg.below, hg.size, hg.dom, fun i pl e => let ⟨o, o1, o2⟩ := hg.obj i pl e; ⟨o, o1, o2.mono hle⟩, hg.own, hg.base, fun b o cs e => ?_⟩⟩
          · rcases e with e | ⟨i, pl, k, cells, e1, e2, rfl, rfl, rfl⟩
            · rcases s5.fzn b o cs e with e | e
              · rcases e with e | ⟨i, pl, k, cells, e1, e2, rfl, rfl, rfl⟩
                · exact .inl e
                · have := (gone i pl cells e1 e2).1
                  exact .inr (by omega)
              · have e : w.heap.size ≤ b := e
                exact .inr (by omega)
            · have := own1 i pl cells e1 e2
              exact .inr (by omega)
          · rcases e with e | ⟨i, pl, k, cells, e1, e2, rfl, rfl, rfl⟩
            · obtain ⟨q1, ⟨c, t, fr, q2, q3⟩, _⟩ := s6.frz b o cs e
              refine ⟨q1, ⟨c, t, fr, q2, FzK.ok.mono0 (φ := φ'.bare) (φ' := (φ'.frozen σ1.cel φ).bare) (fun _ _ h => h) (fun _ _ _ h => Or.inl h) q3⟩, fun i pl ob h1 h2 h3 => ?_⟩
              · rcases s5.fzn b o cs e with e | e
                · rcases e with e | ⟨i', pl', k, cells, e1, e2, rfl, rfl, rfl⟩
                  · exact (hR.frz b o cs e).2.2 i pl ob h1 (left i pl ob h1 h2 h3) h3
                  · exact (gone i' pl' cells e1 e2).2 i pl ob h1 h2 h3
                · have e : w.heap.size ≤ b := e
                  have := (hR.dom i pl h1).2
                  omega
            · obtain ⟨c, t, fr, q1, q4⟩ := cel_obj s6 e1 e2
              refine ⟨(s6.dom i pl e1).2, ⟨c, t, _, q1, fun j x hx => ?_⟩, fun i' pl' ob h1 h2 h3 => ?_⟩
              · rw [List.getElem?_map] at hx
                obtain ⟨y, hy, rfl⟩ := Option.map_eq_some_iff.1 hx
                obtain ⟨u, u1, u2⟩ := q4 j y hy
                exact ⟨u, u1, (fzV_ok k y u u2).na⟩
              · have := own1 i pl cells e1 e2
                have := (hR.dom i' pl' h1).2
                omega
        · cases hv
    · cases hv

/-- A function's run, of either kind. -/
theorem fn_sound (hP : CompP P p) {n : Nat} {C : Caller} (hC : ∀ B0 w0, CallerOK P p B0 w0 C) (hD : ∀ B0 w0, DrawOK P p B0 w0 C) {f : Nat} {args : List AV} {σ : AH} {v : AV} {σ' : AH}
    (hv : arun1 p C n (.fn f) args σ = some (v, σ')) {φ : Phi} {w : World} {vs : List Value} (hR : RR P p B0 w0 φ σ w) (hA : VRL φ args vs) :
    (callFunc f vs.toArray).run P w = .ok (.enter f vs.toArray) w ∧ LPost P p B0 w0 φ σ f vs.toArray w v σ' := by
  simp only [arun1] at hv
  split at hv
  · rename_i af haf
    split at hv
    · exact apart_sound hP hC hD haf hv hR hA
    · exact body_sound hP (hC _ _) (hD _ _) haf hv hR hA
  · cases hv

/-- One level more. -/
theorem run1_ok (hP : CompP P p) {C : Caller} (hC : ∀ B0 w0, CallerOK P p B0 w0 C) (hD : ∀ B0 w0, DrawOK P p B0 w0 C) (n : Nat) : CallerOK P p B0 w0 (arun1 p C n) := by
  intro t args σ v σ' hv φ w vs hR hA
  cases t with
  | fn f =>
    obtain ⟨h1, h2⟩ := fn_sound hP hC hD hv hR hA
    exact ⟨h1, h2.call⟩
  | yield l => exact fun pl hl => round_sound hP (hC _ _) (hD _ _) hv hR hA hl

end
end Go.Oct
end
/- What a run leaves alone: objects below the limit, and no read-only object is made. -/
section
set_option linter.unusedVariables false
set_option linter.unusedSimpArgs false
namespace Go.Oct

structure Fz (σ σ' : AH) : Prop where
  lim : σ'.lim = σ.lim
  next : σ.next ≤ σ'.next
  old : ∀ i, i < σ.lim → i < σ.next → σ'.get i = σ.get i

theorem Fz.refl (σ : AH) : Fz σ σ := ⟨rfl, Nat.le_refl _, fun _ _ _ => rfl⟩
theorem Fz.trans {a b c : AH} (h : Fz a b) (k : Fz b c) : Fz a c :=
  ⟨k.lim.trans h.lim, Nat.le_trans h.next k.next, fun i h1 h2 => (k.old i (by rw [h.lim]; exact h1) (Nat.lt_of_lt_of_le h2 h.next)).trans (h.old i h1 h2)⟩
theorem Fz.push' (σ : AH) (o : AObj) : Fz σ (σ.push o) :=
  ⟨rfl, Nat.le_succ _, fun i _ h2 => AH.get_push_old _ _ _ (by omega)⟩
theorem Fz.set' (σ : AH) (i : Nat) (o : AObj) (hi : σ.lim ≤ i) : Fz σ (σ.set i o) :=
  ⟨rfl, Nat.le_refl _, fun j h1 _ => AH.get_set_other _ _ _ _ (by omega)⟩
theorem Fz.push (σ : AH) (o : AObj) (h : ∀ cs, o ≠ .ro cs) : Fz σ (σ.push o) := Fz.push' σ o
theorem Fz.set (σ : AH) (i : Nat) (o : AObj) (hi : σ.lim ≤ i) (h : ∀ cs, o ≠ .ro cs) : Fz σ (σ.set i o) := Fz.set' σ i o hi
theorem own_lim {σ : AH} {i : Nat} {cs : List AV} (h : σ.own i = some cs) : σ.lim ≤ i := by
  unfold AH.own at h
  split at h
  · assumption
  · cases h

theorem fz_grow {z bytes : Nat} {a : Option (Nat × Nat)} {len : Nat} {cap : ACap} {n : Nat} {new : List AV} {σ σ' : AH} {v : AV} (h : agrow z bytes a len cap n new σ = some (v, σ')) : Fz σ σ' := by
  unfold agrow at h
  have hc : ∀ (v : AV) (σ' : AH), (if (len + n) * bytes ≤ topBytes ∧ new.all AV.one then
        match cellsAt σ (len * z) a with
        | some old => some (AV.slice (some (σ.next, 0)) (len + n) (.op z), σ.push (.cells (old ++ new)))
        | none => none else none) = some (v, σ') → ∃ cs, σ' = σ.push (.cells cs) := by
    intro v σ' h
    split at h
    · split at h
      · cases h; exact ⟨_, rfl⟩
      · cases h
    · cases h
  have hp : ∀ (v : AV) (σ' : AH), (if (len + n) * bytes ≤ topBytes ∧ new.all AV.one then
        match cellsAt σ (len * z) a with
        | some old => some (AV.slice (some (σ.next, 0)) (len + n) (.op z), σ.push (.cells (old ++ new)))
        | none => none else none) = some (v, σ') → Fz σ σ' := fun v σ' h => by
    obtain ⟨cs, rfl⟩ := hc v σ' h
    exact Fz.push _ _ (by simp)
  simp only at h
  split at h
  · split at h
    · split at h
      · split at h
        · rename_i hown
          split at h
          · cases h; exact Fz.set _ _ _ (own_lim hown) (by simp)
          · cases h
        · cases h
      · cases h
    · exact hp _ _ h
  · split at h
    · split at h
      · split at h
        · rename_i hown
          split at h
          · split at h
            · cases h; exact Fz.set _ _ _ (own_lim hown) (by simp)
            · cases h
          · split at h
            · rename_i v1 σ1 hcop
              cases h
              have h1 := hp _ _ hcop
              exact h1.trans (Fz.set _ _ _ (by rw [h1.lim]; exact own_lim hown) (by simp))
            · cases h
        · cases h
      · cases h
    · cases h

theorem fz_hop {ρ : Opd → AV} {σ σ' : AH} {v : AV} {o : HOp} (h : ahop ρ σ o = some (v, σ')) : Fz σ σ' := by
  cases o <;> simp only [ahop, aappend, aappendZ] at h
  all_goals repeat' split at h
  all_goals first
    | (cases h; done)
    | (cases h; exact Fz.refl _)
    | (cases h; exact Fz.push' _ _)
    | (cases h; exact Fz.set _ _ _ (own_lim (by assumption)) (by simp))
    | (cases h; exact Fz.set _ _ _ (by assumption) (by simp))
    | exact fz_grow h
    | (obtain ⟨q, hq, e⟩ := Option.map_eq_some_iff.1 h; cases e; first | exact Fz.refl _ | exact Fz.set _ _ _ (by assumption) (by simp))

def FzC (C : Caller) : Prop := ∀ t args σ v σ', C t args σ = some (v, σ') → Fz σ σ'

theorem fz_op {p : AProg} {C : Caller} (hC : FzC C) {ρ : Opd → AV} {σ σ' : AH} {v : AV} {o : AOp} (h : aop p C ρ σ o = some (v, σ')) : Fz σ σ' := by
  cases o <;> simp only [aop] at h
  case v o => obtain ⟨q, hq, e⟩ := Option.map_eq_some_iff.1 h; cases e; exact Fz.refl _
  case h o => exact fz_hop h
  case call f args =>
    split at h
    · exact hC _ _ _ _ _ h
    · exact hC _ _ _ _ _ h
    · cases h
  case invoke n r args =>
    split at h
    · split at h
      · exact hC _ _ _ _ _ h
      · cases h
    · cases h
  case fail => cases h

theorem fz_ops {p : AProg} {C : Caller} (hC : FzC C) : ∀ (os : List AOper) (env env' : Env) (σ σ' : AH), aops p C os env σ = some (env', σ') → Fz σ σ'
  | [], env, env', σ, σ', h => by cases h; exact Fz.refl _
  | o :: os, env, env', σ, σ', h => by
    simp only [aops] at h
    split at h
    · split at h
      · rename_i h1
        exact (fz_op hC h1).trans (fz_ops hC os _ _ _ _ h)
      · cases h
    · exact fz_ops hC os _ _ _ _ h
    · cases h

/-- A limit that was raised for a while. -/
theorem Fz.under {σ σ' : AH} {m : Nat} (h : Fz { σ with lim := m } σ') (hm : σ.lim ≤ m ∨ σ.next ≤ m) : Fz σ { σ' with lim := σ.lim } :=
  ⟨rfl, h.next, fun i h1 h2 => h.old i (by rcases hm with hm | hm <;> (show i < m) <;> omega) h2⟩

theorem fz_step {p : AProg} {C : Caller} (hC : FzC C) {o : AOper} {env : Env} {σ σ' : AH} {s s' : Seg} {v : AV} (h : dstep p C o env σ s = some (v, σ', s')) : Fz σ σ' := by
  unfold dstep at h
  split at h
  · cases h; exact Fz.refl _
  · cases h
  · split at h
    · split at h
      · cases h; exact Fz.refl _
      · cases h
    · split at h
      · split at h
        · rename_i h1; cases h; exact fz_op hC h1
        · cases h
      · split at h
        · split at h
          · rename_i h1; cases h; exact fz_op hC h1
          · cases h
        · split at h
          · rename_i hl
            split at h
            · rename_i h1; cases h; exact (fz_op hC h1).under (.inl hl)
            · cases h
          · cases h
      · split at h
        · rename_i h1; cases h; exact (fz_op hC h1).under (.inr (Nat.le_refl _))
        · cases h
      · split at h
        · split at h
          · split at h
            · rename_i h1; cases h; exact fz_op hC h1
            · cases h
          · cases h
        · split at h
          · split at h
            · cases h; exact Fz.refl _
            · cases h
          · cases h
      · split at h
        · split at h
          · rename_i h1; cases h; exact fz_op hC h1
          · cases h
        · split at h
          · rename_i hl
            split at h
            · rename_i h1; cases h; exact (fz_op hC h1).under (.inl hl)
            · cases h
          · cases h

theorem fz_draw {p : AProg} {C : Caller} (hC : FzC C) : ∀ (os : List AOper) (env env' : Env) (σ σ' : AH) (s : Seg), adraw p C os env σ s = some (env', σ') → Fz σ σ'
  | [], env, env', σ, σ', s, h => by cases h; exact Fz.refl _
  | o :: os, env, env', σ, σ', s, h => by
    simp only [adraw] at h
    split at h
    · rename_i h1
      exact (fz_step hC h1).trans (fz_draw hC os _ _ _ _ _ h)
    · cases h

theorem fz_loop {body : Fr → AH → Option Out} (hb : ∀ fr σ ex fr' σ', body fr σ = some (ex, fr', σ') → Fz σ σ') : ∀ (n : Nat) (fr : Fr) (σ : AH) (ex : AEx) (fr' : Fr) (σ' : AH), aloop body n fr σ = some (ex, fr', σ') → Fz σ σ'
  | 0, _, _, _, _, _, h => by simp [aloop] at h
  | n + 1, fr, σ, ex, fr', σ', h => by
    simp only [aloop] at h
    split at h
    · rename_i h1
      exact (hb _ _ _ _ _ h1).trans (fz_loop hb n _ _ _ _ _ h)
    · exact hb _ _ _ _ _ h

theorem fz_code {p : AProg} {C : Caller} (hC : FzC C) {n f : Nat} {rd : Option Nat} : ∀ (c : ACode) (fr : Fr) (σ : AH) (ex : AEx) (fr' : Fr) (σ' : AH), acode p C n f rd c fr σ = some (ex, fr', σ') → Fz σ σ' := by
  intro c
  induction c with
  | skip => intro fr σ ex fr' σ' h; cases h; exact Fz.refl _
  | region d os ks =>
    intro fr σ ex fr' σ' h
    cases d <;> simp only [acode] at h <;> split at h
    · rename_i h1; cases h; exact fz_ops hC _ _ _ _ _ h1
    · cases h
    · rename_i h1; cases h; exact fz_draw hC _ _ _ _ _ _ h1
    · cases h
  | seq a b iha ihb =>
    intro fr σ ex fr' σ' h
    simp only [acode] at h
    split at h
    · rename_i h1
      exact (iha _ _ _ _ _ h1).trans (ihb _ _ _ _ _ h)
    · exact iha _ _ _ _ _ h
  | cond c a b iha ihb =>
    intro fr σ ex fr' σ' h
    simp only [acode] at h
    split at h
    · exact iha _ _ _ _ _ h
    · exact ihb _ _ _ _ _ h
    · cases h
  | block id b ih =>
    intro fr σ ex fr' σ' h
    simp only [acode] at h
    split at h
    · rename_i h1
      split at h <;> (cases h; exact ih _ _ _ _ _ h1)
    · exact ih _ _ _ _ _ h
  | loop b ih =>
    intro fr σ ex fr' σ' h
    simp only [acode] at h
    exact fz_loop ih _ _ _ _ _ _ h
  | rangeFunc i g =>
    intro fr σ ex fr' σ' h
    simp only [acode] at h
    split at h
    · split at h
      · rename_i marks d σ1 hst
        have h0 : Fz σ σ1 := by
          split at hst
          · cases hst; exact Fz.push _ _ (by simp)
          · split at hst
            · cases hst; exact Fz.refl _
            · cases hst
        split at h
        · rename_i σ2 hc
          have h2 := (h0.trans (Fz.push σ1 _ (by simp))).trans (hC _ _ _ _ _ hc)
          split at h
          · rename_i f' i' env st pend d' hg
            have hv2 : st = .busy ∨ (if σ2.lim ≤ σ1.next then some (pend.getD AEx.normal, ({ fr with marks } : Fr), σ2.set σ1.next (.loop f' i' env .exhausted pend d')) else none) = some (ex, fr', σ') := by
              cases st <;> first | exact .inl rfl | exact .inr h
            rcases hv2 with rfl | hv2
            · simp at h
            · split at hv2
              · rename_i hl
                cases hv2
                exact h2.trans (Fz.set _ _ _ hl (by simp))
              · cases hv2
          · cases h
        · cases h
      · cases h
    · cases h
  | exit id => intro fr σ ex fr' σ' h; cases h; exact Fz.refl _
  | scope b ih =>
    intro fr σ ex fr' σ' h
    simp only [acode] at h
    exact ih _ _ _ _ _ h
  | ret => intro fr σ ex fr' σ' h; cases h; exact Fz.refl _

theorem fz_marks : ∀ (ms : List Nat) (σ σ' : AH), takeMarks σ ms = some σ' → Fz σ σ'
  | [], σ, σ', h => by cases h; exact Fz.refl _
  | d :: ds, σ, σ', h => by
    simp only [takeMarks] at h
    split at h
    · split at h
      · rename_i hl
        exact (Fz.set _ _ _ hl (by simp)).trans (fz_marks ds _ _ h)
      · cases h
    · cases h

theorem fz_body (p : AProg) {C : Caller} (ih : FzC C) {n f : Nat} {af : AFunc} {args : List AV} {σ σ' : AH} {v : AV} (h : abody p C n f af args σ = some (v, σ')) : Fz σ σ' := by
  unfold abody at h
  split at h
  · split at h
    · cases h
    · rename_i h1
      split at h
      · rename_i h2
        split at h
        · cases h
          exact (fz_code ih _ _ _ _ _ _ h1).trans (fz_marks _ _ _ h2)
        · cases h
      · cases h
    · cases h
  · cases h
theorem fz_kills : ∀ (S : List Nat) (σ : AH), (∀ i ∈ S, σ.lim ≤ i) → Fz σ (σ.kills S)
  | [], σ, _ => Fz.refl σ
  | i :: S, σ, h => (Fz.set' σ i _ (h i (List.mem_cons_self ..))).trans (fz_kills S _ fun j hj => h j (List.mem_cons_of_mem _ hj))
theorem fz_apart {run : List AV → AH → Option (AV × AH)} {args : List AV} {σ σ' : AH} {v : AV} (h : apart run args σ = some (v, σ')) : Fz σ σ' := by
  unfold apart at h
  split at h
  · split at h
    · cases h; exact Fz.refl _
    · cases h
  · split at h
    · split at h
      · cases h; exact Fz.refl _
      · split at h
        · rename_i ha
          cases h
          exact fz_kills _ _ fun i hi => by simpa using List.all_eq_true.1 ha i hi
        · cases h
    · cases h

theorem fz_run1 (p : AProg) {C : Caller} (ih : FzC C) (n : Nat) : FzC (arun1 p C n) := by
    intro t args σ v σ' h
    cases t with
    | fn f =>
      simp only [arun1] at h
      split at h
      · split at h
        · exact fz_apart h
        · exact fz_body p ih h
      · cases h
    | yield l =>
      simp only [arun1] at h
      split at h
      · split at h
        · split at h
          · split at h
            · rename_i hc
              split at h
              · rename_i fr1 σ1 h1
                have z1 := fz_code ih _ _ _ _ _ _ h1
                split at h
                · split at h
                  · rename_i ex fr2 σ2 h2
                    have z2 := (z1.trans (Fz.set σ1 l _ (by rw [z1.lim]; exact hc.2) (by simp))).trans (fz_code ih _ _ _ _ _ _ h2)
                    split at h
                    · split at h <;> (cases h; exact z2.trans (Fz.set _ _ _ (by rw [z2.lim]; exact hc.2) (by simp)))
                    · cases h
                  · cases h
                · cases h
              · cases h
            · cases h
          · cases h
        · cases h
      · cases h

theorem fz_run (p : AProg) {O : Caller} (hO : FzC O) : ∀ n, FzC (arun p O n)
  | 0 => hO
  | n + 1 => by
    intro t args σ v σ' h
    simp only [arun] at h
    split at h
    · rename_i h1; rw [h] at h1; exact hO _ _ _ _ _ h1
    · exact fz_run1 p (fz_run p hO n) n _ _ _ _ _ h
theorem fz_noO : FzC noO := fun t args σ v σ' h => by cases h

end Go.Oct
end
/- An operation looks at its operands alone; what 'before' of a region says; orders. -/
section
set_option linter.unusedVariables false
set_option linter.unusedSimpArgs false
namespace Go.Oct

theorem map_cong {α β : Type} {f g : α → β} : ∀ {l : List α}, (∀ x ∈ l, f x = g x) → l.map f = l.map g
  | [], _ => rfl
  | x :: l, h => by rw [List.map_cons, List.map_cons, h x (List.mem_cons_self ..), map_cong fun y hy => h y (List.mem_cons_of_mem _ hy)]
theorem opt_cong {f g : Opd → AV} {x : Option Opd} (h : ∀ y ∈ opdsO x, f y = g y) : x.map f = x.map g := by
  cases x with
  | none => rfl
  | some x => simp [h x (by simp [opdsO])]
theorem afill_cong {f g : Opd → AV} : ∀ (ps : List (Nat × Nat × Opd)) (cs : List AV), (∀ x ∈ ps.map (·.2.2), f x = g x) → afill f cs ps = afill g cs ps
  | [], cs, _ => rfl
  | (off, n, x) :: ps, cs, h => by
    have h0 : f x = g x := h x (by simp)
    simp only [afill, h0]
    rw [afill_cong ps _ fun y hy => h y (by simp at hy ⊢; exact .inr hy)]

theorem avop_cong {f g : Opd → AV} {o : VOp} (h : ∀ x ∈ opdsV o, f x = g x) : avop f o = avop g o := by
  cases o <;> simp only [opdsV, List.mem_cons, List.not_mem_nil, or_false, forall_eq_or_imp, forall_eq] at h <;> simp only [avop]
  case build zero ps => rw [afill_cong ps _ h]
  case slS z x lo hi mx =>
    rw [h.1, opt_cong fun y hy => h.2 y (by simp [hy]), opt_cong fun y hy => h.2 y (by simp [hy]), opt_cong fun y hy => h.2 y (by simp [hy])]
  case slA n z x lo hi mx =>
    rw [h.1, opt_cong fun y hy => h.2 y (by simp [hy]), opt_cong fun y hy => h.2 y (by simp [hy]), opt_cong fun y hy => h.2 y (by simp [hy])]
  case slT x lo hi =>
    rw [h.1, opt_cong fun y hy => h.2 y (by simp [hy]), opt_cong fun y hy => h.2 y (by simp [hy])]
  case mkF n xs ys =>
    rw [map_cong fun y hy => h y (by simp [hy]), map_cong fun y hy => h y (by simp [hy])]
  case min x xs => rw [h.1, map_cong h.2]
  case max x xs => rw [h.1, map_cong h.2]
  all_goals first | rfl | simp only [h]

theorem ahop_cong {f g : Opd → AV} {σ : AH} {o : HOp} (h : ∀ x ∈ opdsH o, f x = g x) : ahop f σ o = ahop g σ o := by
  cases o <;> simp only [opdsH, List.mem_cons, List.not_mem_nil, or_false, forall_eq_or_imp, forall_eq] at h <;> simp only [ahop]
  case bslice z len zero ps => rw [afill_cong ps _ h]
  case tslice z len zero ps => rw [afill_cong ps _ h]
  all_goals first | rfl | simp only [h]

theorem aop_cong {p : AProg} {C : Caller} {f g : Opd → AV} {σ : AH} {o : AOp} (h : ∀ x ∈ opdsA o, f x = g x) : aop p C f σ o = aop p C g σ o := by
  cases o <;> simp only [opdsA] at h <;> simp only [aop]
  case v o =>
    have e : avopM p f o = avopM p g o := by
      simp only [avopM, avop_cong h]
      cases o <;> try rfl
      rename_i x
      have hx := h x (by simp [opdsV])
      cases avop g (.nilCheck x)
      · show nilM p (f x) = nilM p (g x)
        rw [hx]
      · rfl
    rw [e]
  case h o => rw [ahop_cong h]
  case call x xs => rw [h x (by simp), map_cong fun y hy => h y (by simp [hy])]
  case invoke n x xs => rw [h x (by simp), map_cong fun y hy => h y (by simp [hy])]

theorem mem_tmpsOf : ∀ (l : List Opd) (t : Nat), t ∈ tmpsOf l ↔ Opd.tmp t ∈ l
  | [], t => by simp [tmpsOf]
  | x :: l, t => by
    cases x <;> simp [tmpsOf, mem_tmpsOf l t]

/-- Environments that agree on what an operation reads. -/
theorem aop_env {p : AProg} {C : Caller} {env env' : Env} {σ : AH} {o : AOp} (h : ∀ t ∈ tmpsOf (opdsA o), env.get t = env'.get t) : aop p C (Opd.ev env) σ o = aop p C (Opd.ev env') σ o :=
  aop_cong fun x hx => by
    cases x with
    | tmp t => exact h t ((mem_tmpsOf _ _).2 hx)
    | const v => rfl
    | glob g => rfl

end Go.Oct
end
/- Regions whose order is open: what 'before' says, and how the classes of the operations stand to it. -/
section
set_option linter.unusedVariables false
set_option linter.unusedSimpArgs false
set_option linter.unusedSectionVars false
namespace Go.Oct
variable [Gl]

section before
variable {ops : Array Oper}
def oneBits (acc : Array Nat) (o : Oper) : Nat := o.after.foldl (fun s e => if Region.binds .any e then s ||| 2 ^ e.on ||| acc.getD e.on 0 else s) 0

theorem foldl_bits (acc : Array Nat) (j : Nat) : ∀ (l : List Edge) (s : Nat), (l.foldl (fun s e => if Region.binds .any e then s ||| 2 ^ e.on ||| acc.getD e.on 0 else s) s).testBit j = true →
    s.testBit j = true ∨ ∃ e ∈ l, Region.binds .any e = true ∧ (j = e.on ∨ (acc.getD e.on 0).testBit j = true)
  | [], s, h => .inl h
  | e :: l, s, h => by
    simp only [List.foldl_cons] at h
    rcases foldl_bits acc j l _ h with h1 | ⟨e', h1, h2⟩
    · split at h1
      · rename_i hb
        simp only [Nat.testBit_or, Bool.or_eq_true, Nat.testBit_two_pow, decide_eq_true_eq] at h1
        rcases h1 with (h1 | h1) | h1
        · exact .inl h1
        · exact .inr ⟨e, List.mem_cons_self .., hb, .inl h1.symm⟩
        · exact .inr ⟨e, List.mem_cons_self .., hb, .inr h1⟩
      · exact .inl h1
    · exact .inr ⟨e', List.mem_cons_of_mem _ h1, h2⟩

def BitsOK (ops : Array Oper) (A : Array Nat) : Prop :=
  ∀ i j, (A.getD i 0).testBit j = true → ∃ o, ops[i]? = some o ∧ ∃ e ∈ o.after.toList, Region.binds .any e = true ∧ (j = e.on ∨ (e.on < i ∧ (A.getD e.on 0).testBit j = true))

theorem bits_push {A : Array Nat} {o : Oper} (h : BitsOK ops A) (ho : ops[A.size]? = some o) : BitsOK ops (A.push (oneBits A o)) := by
  intro i j hb
  have hold : ∀ i, i < A.size → (A.push (oneBits A o)).getD i 0 = A.getD i 0 := fun i hi => by
    simp [Array.getD_eq_getD_getElem?, Array.getElem?_push, Nat.ne_of_lt hi]
  by_cases hi : i < A.size
  · rw [hold i hi] at hb
    obtain ⟨o', h1, e, h2, h3, h4⟩ := h i j hb
    refine ⟨o', h1, e, h2, h3, h4.elim .inl fun h4 => .inr ⟨h4.1, ?_⟩⟩
    rw [hold _ (by omega)]; exact h4.2
  · by_cases hi2 : i = A.size
    · subst hi2
      have e1 : (A.push (oneBits A o)).getD A.size 0 = oneBits A o := by simp [Array.getD_eq_getD_getElem?]
      rw [e1] at hb
      unfold oneBits at hb
      rw [← Array.foldl_toList] at hb
      rcases foldl_bits A j _ 0 hb with h1 | ⟨e, h1, h2, h3⟩
      · simp at h1
      · refine ⟨o, ho, e, h1, h2, h3.elim .inl fun h3 => .inr ?_⟩
        have : e.on < A.size := by
          rcases Nat.lt_or_ge e.on A.size with hlt | hge
          · exact hlt
          · have : A.getD e.on 0 = 0 := by simp [Array.getD_eq_getD_getElem?, Array.getElem?_eq_none hge]
            rw [this] at h3; simp at h3
        exact ⟨this, by rw [hold _ this]; exact h3⟩
    · have : (A.push (oneBits A o)).getD i 0 = 0 := by
        have : A.size + 1 ≤ i := by omega
        simp [Array.getD_eq_getD_getElem?, Array.getElem?_eq_none, this]
      rw [this] at hb; simp at hb
theorem bits_fold : ∀ (l : List Oper) (A : Array Nat), BitsOK ops A → (∀ m o, l[m]? = some o → ops[A.size + m]? = some o) → BitsOK ops (l.foldl (fun acc o => acc.push (oneBits acc o)) A)
  | [], A, h, _ => h
  | o :: l, A, h, hin => by
    rw [List.foldl_cons]
    refine bits_fold l _ (bits_push h (hin 0 o rfl)) fun m o' hm => ?_
    have := hin (m + 1) o' (by simpa using hm)
    rw [← this]; congr 1; simp; omega
theorem before_ok (ops : Array Oper) : BitsOK ops (Region.before ops) := by
  unfold Region.before
  rw [← Array.foldl_toList]
  exact bits_fold ops.toList #[] (fun i j h => by simp [Array.getD_eq_getD_getElem?] at h) (fun m o h => by simpa using h)
end before

/-! ### What is compiled -/
theorem compOps_get {P : Program} : ∀ {os : List Oper} {as : List AOp}, compOps P os = some as → as.length = os.length ∧ ∀ (i : Nat) (o : Oper), os[i]? = some o → ∃ a, as[i]? = some a ∧ compOp P o.op = some a
  | [], as, h => by cases h; exact ⟨rfl, fun i o h => by simp at h⟩
  | o :: os, as, h => by
    simp only [compOps] at h
    split at h
    · rename_i a as' h1 h2
      cases h
      obtain ⟨l, g⟩ := compOps_get h2
      refine ⟨by simp [l], fun i o' hi => ?_⟩
      cases i with
      | zero => cases hi; exact ⟨a, rfl, h1⟩
      | succ i => simpa using g i o' (by simpa using hi)
    · cases h
theorem compOpers_get {ops : Array Oper} {cls : AOp → Nat → Cls} : ∀ {os : List Oper} {as : List AOp} {j : Nat} {aos : List AOper}, compOpers ops cls os as j = some aos →
    aos.length = os.length ∧ ∀ (i : Nat) (o : Oper) (a : AOp), os[i]? = some o → as[i]? = some a → ∃ g, guardOf ops o.guard = some g ∧ aos[i]? = some ⟨o.dst, a, g, cls a (j + i)⟩
  | [], [], j, aos, h => by cases h; exact ⟨rfl, fun i o a h => by simp at h⟩
  | [], a :: as, j, aos, h => by cases h
  | o :: os, [], j, aos, h => by cases h
  | o :: os, a :: as, j, aos, h => by
    simp only [compOpers] at h
    split at h
    · rename_i g r h1 h2
      cases h
      obtain ⟨l, q⟩ := compOpers_get h2
      refine ⟨by simp [l], fun i o' a' hi ha => ?_⟩
      cases i with
      | zero => cases hi; cases ha; exact ⟨g, h1, rfl⟩
      | succ i =>
        obtain ⟨g', z1, z2⟩ := q i o' a' (by simpa using hi) (by simpa using ha)
        refine ⟨g', z1, ?_⟩
        rw [List.getElem?_cons_succ, z2]
        have : j + 1 + i = j + (i + 1) := by omega
        rw [this]
    · cases h

/-- What an operation of such a region is compiled to. -/
def CompO (P : Program) (op : Op) (a : AOp) : Prop := compOp P op = some a ∨ ∃ z n zero ps, compOp P op = some (.h (.bslice z n zero ps)) ∧ a = .h (.tslice z n zero ps)
theorem loose_comp {P : Program} {op : Op} {os : List AOper} {o : AOper} (h : compOp P op = some o.op) : CompO P op (looseOp os o) := by
  have key : CompO P op (tslOp o.op) := by
    unfold tslOp
    split
    · rename_i z n zero ps e
      exact .inr ⟨z, n, zero, ps, by rw [h, e], rfl⟩
    · exact .inl h
  unfold looseOp
  split
  · split
    · exact key
    · exact .inl h
  · exact .inl h
/-- A region whose order is open, compiled. -/
structure RegOK (P : Program) (ops : Array Oper) (os : List AOper) (b : Array Nat) (l : List (AOp × Nat)) : Prop where
  len : os.length = ops.size
  at_ : ∀ (i : Nat) (o : Oper), ops[i]? = some o → ∃ ao, os[i]? = some ao ∧ CompO P o.op ao.op ∧ ao.dst = o.dst ∧ guardOf ops o.guard = some ao.guard ∧ ao.cls = clsOf b l ao.op i ∧ (ao.op, i) ∈ l
  bits : BitsOK ops b
  scope : scopeOK b ops os = true
theorem regOK {P : Program} {ops : Array Oper} {os : List AOper} (h : compRegion P ops true = some os) : ∃ l, RegOK P ops os (Region.before ops) l := by
  unfold compRegion at h
  split at h
  · rename_i as has
    simp only [if_true] at h
    split at h
    · rename_i os' hos
      obtain ⟨l1, g1⟩ := compOps_get has
      obtain ⟨l2, g2⟩ := compOpers_get hos
      split at h
      · split at h
        · rename_i os2 hos2
          split at h
          · rename_i hsc
            cases h
            obtain ⟨l3, g3⟩ := compOpers_get hos2
            refine ⟨(os'.map (looseOp os')).zipIdx, by simpa using l3, fun i o hi => ?_, before_ok ops, hsc⟩
            obtain ⟨a, ha, hc⟩ := g1 i o (by simpa using hi)
            obtain ⟨g, hg, hao⟩ := g2 i o a (by simpa using hi) ha
            have ha2 : (os'.map (looseOp os'))[i]? = some (looseOp os' ⟨o.dst, a, g, clsOf (Region.before ops) as.zipIdx a (0 + i)⟩) := by
              rw [List.getElem?_map, hao]; rfl
            obtain ⟨g', hg', hao'⟩ := g3 i o _ (by simpa using hi) ha2
            refine ⟨_, hao', loose_comp hc, rfl, hg', by simp, ?_⟩
            rw [List.mem_iff_getElem?]
            exact ⟨i, by simp only [List.getElem?_zipIdx, ha2]; simp⟩
          · cases h
        · cases h
      · split at h
        · rename_i hsc
          cases h
          refine ⟨as.zipIdx, by simpa using l2, fun i o hi => ?_, before_ok ops, hsc⟩
          obtain ⟨a, ha, hc⟩ := g1 i o (by simpa using hi)
          obtain ⟨g, hg, hao⟩ := g2 i o a (by simpa using hi) ha
          refine ⟨_, hao, .inl hc, rfl, hg, by simp, ?_⟩
          rw [List.mem_iff_getElem?]
          exact ⟨i, by simp [List.getElem?_zipIdx, ha]⟩
        · cases h
    · cases h
  · cases h

section classes
variable {b : Array Nat} {l : List (AOp × Nat)}

theorem ordered_comm {i j : Nat} (h : i ≠ j) : ordered b i j = ordered b j i := by
  unfold ordered
  by_cases h1 : j < i
  · rw [if_pos h1, if_neg (by omega)]
  · rw [if_neg h1, if_pos (by omega)]
/-- One that orders hold apart from the rest. -/
def AOper.bar (o : AOper) : Bool := !isV o.op && match o.cls with | .full | .semi | .st1 => true | _ => false
def AOper.isFull (o : AOper) : Bool := !isV o.op && match o.cls with | .full => true | _ => false

theorem full_ord {i j : Nat} {o : AOp} (hf : isFull b l i = true) (hj : (o, j) ∈ l) (hne : i ≠ j) (hv : isV o = false) : ordered b i j = true := by
  have := List.all_eq_true.1 hf _ hj
  simpa [hne, hv] using this
theorem semi_ord {i j : Nat} {o : AOp} (hf : isSemi b l i = true) (hj : (o, j) ∈ l) (hne : i ≠ j) (hv : isV o = false) (hl : isLoadOp o = false) : ordered b i j = true := by
  have := List.all_eq_true.1 hf _ hj
  simpa [hne, hv, hl] using this
variable {x y : AOper} {i j : Nat}
theorem cls_full (hx : x.cls = clsOf b l x.op i) (hv : isV x.op = false) (h : x.cls = .full) : isFull b l i = true := by
  rw [hx] at h
  unfold clsOf at h
  simp only [hv, Bool.false_eq_true, if_false] at h
  split at h
  · assumption
  · split at h
    · split at h <;> cases h
    · split at h
      · split at h <;> cases h
      · cases h
theorem cls_semi (hx : x.cls = clsOf b l x.op i) (hv : isV x.op = false) (h : x.cls = .semi ∨ x.cls = .st1) : isSemi b l i = true ∧ isLoadOp x.op = false ∧ (x.cls = .st1 → isStoreOp x.op = true) := by
  rw [hx] at h ⊢
  unfold clsOf at h ⊢
  simp only [hv, Bool.false_eq_true, if_false] at h ⊢
  split at h
  · simp at h
  · split at h
    · split at h <;> simp at h
    · rename_i h1 h2
      split at h
      · rename_i h3
        refine ⟨h3, by simpa using h2, ?_⟩
        simp only [h1, h2, h3, if_true, if_false, Bool.false_eq_true]
        split
        · intro; assumption
        · intro h; cases h
      · simp at h
theorem cls_sload (hx : x.cls = clsOf b l x.op i) (hv : isV x.op = false) (h : x.cls = .sload) : isLoadOp x.op = true := by
  rw [hx] at h
  unfold clsOf at h
  simp only [hv, Bool.false_eq_true, if_false] at h
  split at h
  · cases h
  · split at h
    · assumption
    · split at h
      · split at h <;> cases h
      · cases h
theorem cls_froz (hx : x.cls = clsOf b l x.op i) (hv : isV x.op = false) (h : x.cls = .froz) (hl : isLoadOp x.op = true) {o : AOp} (hj : (o, j) ∈ l) (hne : i ≠ j) (ho : isV o = false) (hol : isLoadOp o = false) (hs : isSemi b l j = true) : ordered b i j = true := by
  rw [hx] at h
  unfold clsOf at h
  simp only [hv, Bool.false_eq_true, if_false] at h
  split at h
  · cases h
  · split at h
    · rename_i h3
      have := List.all_eq_true.1 h3 _ hj
      simpa [hne, ho, hol, hs] using this
    · cases h

/-- Full ones are ordered against all; the others that stand apart: against all but the floating loads. -/
theorem bar_ord (hx : x.cls = clsOf b l x.op i) (hxm : (x.op, i) ∈ l) (hy : y.cls = clsOf b l y.op j) (hym : (y.op, j) ∈ l) (hb : x.bar = true) (hne : i ≠ j) (hv : isV y.op = false) (hc : x.isFull = true ∨ y.cls ≠ .sload) :
    ordered b i j = true := by
  have hvx : isV x.op = false := by
    unfold AOper.bar at hb
    simp only [Bool.and_eq_true, Bool.not_eq_true'] at hb
    exact hb.1
  by_cases hf : x.cls = .full
  · exact full_ord (cls_full hx hvx hf) hym hne hv
  · have hsm : x.cls = .semi ∨ x.cls = .st1 := by
      unfold AOper.bar at hb
      simp only [Bool.and_eq_true, Bool.not_eq_true'] at hb
      cases h : x.cls <;> simp [h] at hb hf ⊢
    have hs := cls_semi hx hvx hsm
    by_cases hl : isLoadOp y.op = true
    · have hns : y.cls ≠ .sload := by
        rcases hc with hc | hc
        · unfold AOper.isFull at hc
          simp only [Bool.and_eq_true, Bool.not_eq_true'] at hc
          cases h : x.cls <;> simp [h] at hc hf
        · exact hc
      cases hyc : y.cls with
      | full => rw [ordered_comm hne]; exact full_ord (cls_full hy hv hyc) hxm hne.symm hvx
      | semi => exact absurd hl (by rw [(cls_semi hy hv (.inl hyc)).2.1]; simp)
      | st1 => exact absurd hl (by rw [(cls_semi hy hv (.inr hyc)).2.1]; simp)
      | sload => exact absurd hyc hns
      | froz => rw [ordered_comm hne]; exact cls_froz hy hv hyc hl hxm hne.symm hvx hs.2.1 hs.1
    · exact semi_ord hs.1 hym hne hv (by simpa using hl)
end classes
end Go.Oct
end
/- The relation at a later time, under another limit, and with fewer objects. -/
section
set_option linter.unusedVariables false
set_option linter.unusedSimpArgs false
set_option linter.unusedSectionVars false
namespace Go.Oct
variable [Gl]
open Go.RowKit

/-- The objects below m alone. -/
def Phi.cut (φ : Phi) (m : Nat) : Phi := { φ with pl := fun i => if i < m then φ i else none }
theorem Phi.cut_lt {φ : Phi} {m i : Nat} (h : i < m) : φ.cut m i = φ i := by simp [Phi.cut, h]
theorem Phi.cut_some {φ : Phi} {m i : Nat} {pl : Place} (h : φ.cut m i = some pl) : i < m ∧ φ i = some pl := by
  unfold Phi.cut at h
  simp only at h
  split at h
  · exact ⟨by assumption, h⟩
  · cases h
/-- With another first block of the interpreter's own. -/
def Phi.re (φ : Phi) (b : Nat) : Phi := { φ with base := b }
theorem VR.re {φ : Phi} {b : Nat} {x : AV} {v : Value} (h : VR φ x v) : VR (φ.re b) x v := VR.mono0 (φ := φ) (φ' := φ.re b) (fun _ _ h => h) (fun _ _ _ h => h) h
theorem EnvR.re {φ : Phi} {b N : Nat} {env : Env} {tmps : Array Value} (h : EnvR φ N env tmps) : EnvR (φ.re b) N env tmps := ⟨h.size, fun t => (h.get t).re⟩

def Phi.under (ψ : Phi) (m : Nat) : Prop := ∀ i pl, ψ i = some pl → i < m

theorem VR.restrict {φ ψ : Phi} {m : Nat} (hψ : ψ.under m) {x : AV} {v : Value} (h : VR φ x v) : ∀ {u : Value}, VR ψ x u → VR (φ.cut m) x v := by
  have c : ∀ {i : Nat} {pl pl' : Place}, φ i = some pl → ψ i = some pl' → φ.cut m i = some pl := fun h1 h2 => by
    rw [Phi.cut_lt (hψ _ _ h2)]; exact h1
  induction h with
  | undef v => intro u hu; exact .undef v
  | int k n => intro u hu; exact .int k n
  | bool b => intro u hu; exact .bool b
  | str s => intro u hu; exact .str s
  | ptrN => intro u hu; exact .ptrN
  | ptr i o pl h =>
    intro u hu
    generalize hx : AV.ptr (some (i, o)) = x at hu
    cases hu <;> cases hx
    exact .ptr i o pl (c h (by assumption))
  | sliceN => intro u hu; exact .sliceN
  | sliceX i o pl len cc a h hb ha hl =>
    intro u hu
    generalize hx : AV.slice (some (i, o)) len (.ex cc) = x at hu
    cases hu <;> cases hx
    exact .sliceX i o pl len cc a (c h (by assumption)) hb ha hl
  | sliceO i o pl len z cc a h hb ha hl he =>
    intro u hu
    generalize hx : AV.slice (some (i, o)) len (.op z) = x at hu
    cases hu <;> cases hx
    exact .sliceO i o pl len z cc a (c h (by assumption)) hb ha hl he
  | mapN => intro u hu; exact .mapN
  | map i pl h =>
    intro u hu
    generalize hx : AV.map (some i) = x at hu
    cases hu <;> cases hx
    exact .map i pl (c h (by assumption))
  | func f xs ys vx vy hx hy _ _ i1 i2 =>
    intro u hu
    generalize hq : AV.func (.func f) xs ys = x at hu
    cases hu <;> cases hq
    rename_i vx' vy' hx' g1 hy' g2
    exact .func f xs ys vx vy hx hy (fun i => i1 i (g1 i)) (fun i => i2 i (g2 i))
  | yield l pl xs ys vx vy h hx hy _ _ i1 i2 =>
    intro u hu
    generalize hq : AV.func (.yield l) xs ys = x at hu
    cases hu <;> cases hq
    rename_i pl' vx' vy' h' hx' g1 hy' g2
    exact .yield l pl xs ys vx vy (c h h') hx hy (fun i => i1 i (g1 i)) (fun i => i2 i (g2 i))
  | meth name x v _ ih =>
    intro u hu
    generalize hq : AV.func (.method name) [x] [] = y at hu
    cases hu <;> cases hq
    exact .meth name x v (ih (by assumption))
  | nilFunc => intro u hu; exact .nilFunc
  | iface t x v _ ih =>
    intro u hu
    generalize hq : AV.iface t x = y at hu
    cases hu <;> cases hq
    exact .iface t x v (ih (by assumption))
  | nilIface => intro u hu; exact .nilIface
  | agg xs vs hs _ ih =>
    intro u hu
    generalize hq : AV.agg xs = y at hu
    cases hu <;> cases hq
    rename_i vs' hs' g
    exact .agg xs vs hs (fun i => ih i (g i))
  | tuple xs vs hs _ ih =>
    intro u hu
    generalize hq : AV.tuple xs = y at hu
    cases hu <;> cases hq
    rename_i vs' hs' g
    exact .tuple xs vs hs (fun i => ih i (g i))
  | vslN => intro u hu; exact .vslN
  | vsl es z c a hz hl h => intro u hu; exact .vsl es z c a hz hl h
  | vptr cs k b o h => intro u hu; exact .vptr cs k b o h
  | tsl n cs vs b h hs _ ih =>
    intro u hu
    generalize hq : AV.tsl n cs = y at hu
    cases hu <;> cases hq
    rename_i vs' b' h' hs' g
    exact .tsl n cs vs b h hs (fun i => ih i (g i))

theorem EnvR.restrict {φ ψ : Phi} {m N N' : Nat} (hψ : ψ.under m) {env : Env} {tmps tmps' : Array Value} (h : EnvR φ N env tmps) (h' : EnvR ψ N' env tmps') : EnvR (φ.cut m) N env tmps :=
  ⟨h.size, fun t => (h.get t).restrict hψ (h'.get t)⟩

section
variable {LC : LCode} {N : Nat → Nat}
theorem OR.restrict {φ ψ : Phi} {m : Nat} (hψ : ψ.under m) {w w' : World} {pl pl' : Place} {o : AObj} (h : OR LC N φ w pl o) (h' : OR LC N ψ w' pl' o) : OR LC N (φ.cut m) w pl o := by
  cases o with
  | cells cs =>
    obtain ⟨c, e, fr, h1, hf, h2, h3, h4⟩ := h
    obtain ⟨c', e', fr', g1, gf, g2, g3, g4⟩ := h'
    refine ⟨c, e, fr, h1, hf, h2, h3, fun j x hx => ?_⟩
    obtain ⟨v, hv, hr⟩ := h4 j x hx
    obtain ⟨v', hv', hr'⟩ := g4 j x hx
    exact ⟨v, hv, hr.restrict hψ hr'⟩
  | ro cs =>
    obtain ⟨c, e, fr, h1, h4⟩ := h
    obtain ⟨c', e', fr', g1, g4⟩ := h'
    refine ⟨c, e, fr, h1, fun j x hx => ?_⟩
    obtain ⟨v, hv, hr⟩ := h4 j x hx
    obtain ⟨v', hv', hr'⟩ := g4 j x hx
    exact ⟨v, hv, hr.restrict hψ hr'⟩
  | map es ck =>
    obtain ⟨ces, h1, h2, h3⟩ := h
    obtain ⟨ces', g1, g2, g3⟩ := h'
    refine ⟨ces, h1, h2, fun j e c he hc => ?_⟩
    obtain ⟨a, b, d⟩ := h3 j e c he hc
    have hj : j < ces'.size := by
      have := (Array.getElem?_eq_some_iff.1 hc).1
      omega
    obtain ⟨a', b', d'⟩ := g3 j e ces'[j] he (by simp [hj])
    exact ⟨a.restrict hψ a', b.restrict hψ b', d⟩
  | loop f i env st pend d =>
    obtain ⟨r, h1, h2, h3, h4, h5, h6, pd, h7, h8⟩ := h
    obtain ⟨r', g1, g2, g3, g4, g5, g6, pd', g7, g8⟩ := h'
    exact ⟨r, h1, h2, h3, h4, h5.restrict hψ g5, h6, pd, by rw [Phi.cut_lt (hψ _ _ g7)]; exact h7, h8⟩
  | dfr => exact h
  | siter s pos => exact h
  | dead => trivial

variable {B0 : Nat} {w0 : World} {φ : Phi} {σ σ' : AH} {w : World}

/-- A later heap that has the same objects. -/
theorem R.later (h : R LC N B0 w0 φ σ w) (hg : ∀ i, i < σ.next → σ'.get i = σ.get i) (hn : σ.next ≤ σ'.next) (hl : σ'.lim = σ.lim) : R LC N B0 w0 φ σ' w := by
  refine ⟨h.below, h.size, fun i pl e => ⟨Nat.lt_of_lt_of_le (h.dom i pl e).1 hn, (h.dom i pl e).2⟩, fun i pl e => ?_, fun i pl o e hli hgi hm => ?_, h.base,
    h.frz.to (fun _ _ _ e => e) (Phi.bare φ).le_refl (Nat.le_refl _) (fun _ _ _ _ => rfl) (fun b o cs hb i pl ob e hgi hm => (h.frz b o cs hb).2.2 i pl ob e (by rw [← hg i (h.dom i pl e).1]; exact hgi) hm)⟩
  · rw [hg i (h.dom i pl e).1]; exact h.obj i pl e
  · rw [hg i (h.dom i pl e).1] at hgi
    obtain ⟨h1, h2⟩ := h.own i pl o e (by rw [← hl]; exact hli) hgi hm
    refine ⟨h1, fun j pj oj hj ej gj aj => ?_⟩
    rw [hg j (h.dom j pj ej).1] at gj
    exact h2 j pj oj hj ej gj aj
/-- A higher limit. -/
theorem R.raise (h : R LC N B0 w0 φ σ w) {m : Nat} (hm : σ.lim ≤ m ∨ σ.next ≤ m) : R LC N B0 w0 φ { σ with lim := m } w :=
  ⟨h.below, h.size, h.dom, h.obj, fun i pl o e hl hg hmut => by
    have hlt := (h.dom i pl e).1
    exact h.own i pl o e (by have : m ≤ i := hl; rcases hm with hm | hm <;> omega) hg hmut, h.base, h.frz⟩

/-- The limit is let down again. -/
theorem R.unraise {φ' : Phi} {w' : World} {m : Nat} {σ' : AH} (h : R LC N B0 w0 φ σ w) (hm : m ≤ σ.next) (h' : R LC N B0 w0 φ' σ' w') (he : Ext φ φ' { σ with lim := m } σ') (hf : Fz { σ with lim := m } σ') :
    R LC N B0 w0 φ' { σ' with lim := σ.lim } w' := by
  have hlim : σ'.lim = m := hf.lim
  have old : ∀ i pl, i < m → φ' i = some pl → φ i = some pl ∧ σ'.get i = σ.get i := by
    intro i pl hi e
    refine ⟨?_, hf.old i hi (by show i < σ.next; omega)⟩
    rcases he.new i pl e with e | e
    · exact e
    · have : σ.next ≤ i := e
      omega
  refine ⟨h'.below, h'.size, h'.dom, h'.obj, fun i pl o e hl hg hmut => ?_, h'.base, h'.frz⟩
  by_cases hi : m ≤ i
  · exact h'.own i pl o e (by rw [hlim]; exact hi) hg hmut
  · obtain ⟨e0, g0⟩ := old i pl (by omega) e
    have hg0 : σ.get i = some o := by rw [← g0]; exact hg
    obtain ⟨h1, h2⟩ := h.own i pl o e0 hl hg0 hmut
    refine ⟨h1, fun j pj oj hj ej gj aj => ?_⟩
    by_cases hjm : j < m
    · obtain ⟨ej0, gj0⟩ := old j pj hjm ej
      exact h2 j pj oj hj ej0 (by rw [← gj0]; exact gj) aj
    · have := (h'.own j pj oj ej (by rw [hlim]; omega) gj aj).2 i pl o (Ne.symm hj) e hg hmut
      exact fun e => this e.symm

theorem Ext.unraise {φ' : Phi} {σ' : AH} {m : Nat} (h : Ext φ φ' { σ with lim := m } σ') : Ext φ φ' σ { σ' with lim := σ.lim } :=
  ⟨h.le, h.new, h.full, h.next, rfl, h.fzn⟩

/-- What was made apart, beside the rest. -/
def Phi.join (φ φ' : Phi) : Phi := { pl := fun i => (φ i).or (φ' i), fz := φ'.fz, base := φ.base, gl := φ'.gl }
/-- What was made apart is put beside the rest. -/
theorem R.join {φ' : Phi} {σi σ1 σk : AH} {w1 : World} (h : R LC N B0 w0 φ σk w) (h1 : R LC N w.heap.size w φ' σ1 w1) (hle : ((φ.cut σi.next).re w.heap.size).le φ')
    (hnew : ∀ i pl, φ' i = some pl → φ.cut σi.next i = some pl ∨ σi.next ≤ i) (hfree : ∀ i, σi.next ≤ i → i < σ1.next → φ i = none)
    (hlim : σ1.lim ≤ σi.next) (hk : ∀ i, i < σ1.next → σk.get i = σ1.get i) (hkn : σ1.next ≤ σk.next) (hfzn : ∀ b o cs, φ'.fz b o cs → φ.fz b o cs ∨ w.heap.size ≤ b) :
    R LC N B0 w0 (φ.join φ') σk w1 ∧ φ.le (φ.join φ') ∧ ∀ i pl, φ' i = some pl → φ.join φ' i = some pl := by
  have hle1 : φ.le (φ.join φ') := ⟨fun i pl e => by simp [Phi.join, e], fun b o cs e => hle.fz b o cs e, rfl⟩
  have hcase : ∀ i pl, (φ i).or (φ' i) = some pl → φ i = some pl ∨ (φ i = none ∧ φ' i = some pl ∧ σi.next ≤ i ∧ i < σ1.next) := by
    intro i pl e
    cases hi : φ i with
    | some q => rw [hi] at e; exact .inl (by simpa using e)
    | none =>
      rw [hi] at e
      have e : φ' i = some pl := by simpa using e
      refine .inr ⟨rfl, e, ?_, (h1.dom i pl e).1⟩
      rcases hnew i pl e with e2 | e2
      · rw [(Phi.cut_some e2).2] at hi; cases hi
      · exact e2
  have hle2 : ∀ i pl, φ' i = some pl → φ.join φ' i = some pl := fun i pl e => by
    rcases hnew i pl e with e2 | e2
    · simp [Phi.join, (Phi.cut_some e2).2]
    · simp [Phi.join, hfree i e2 (h1.dom i pl e).1, e]
  refine ⟨⟨?_, Nat.le_trans h.size h1.size, ?_, ?_, ?_, h.base, ?_⟩, hle1, hle2⟩
  · exact h.below.trans ⟨h1.below.os, h1.below.tape, h1.below.output, by have := h1.size; have := h.size; omega, fun k hk => h1.below.block k (by have := h.size; omega)⟩
  · intro i pl e
    rcases hcase i pl e with e | ⟨_, e, _, hn⟩
    · exact ⟨(h.dom i pl e).1, Nat.lt_of_lt_of_le (h.dom i pl e).2 h1.size⟩
    · exact ⟨Nat.lt_of_lt_of_le hn hkn, (h1.dom i pl e).2⟩
  · intro i pl e
    rcases hcase i pl e with e | ⟨_, e, _, hn⟩
    · obtain ⟨o, g1, g2⟩ := h.obj i pl e
      exact ⟨o, g1, (g2.heap (h1.below.block _ (h.dom i pl e).2)).mono hle1⟩
    · obtain ⟨o, g1, g2⟩ := h1.obj i pl e
      exact ⟨o, by rw [hk i hn]; exact g1, g2.mono0 hle2 (fun _ _ _ h => h)⟩
  · have newown : ∀ i pl o, φ' i = some pl → σi.next ≤ i → i < σ1.next → σk.get i = some o → o.alive = true → w.heap.size ≤ pl.b ∧ ∀ j pj oj, j ≠ i → φ' j = some pj → σ1.get j = some oj → oj.alive = true → pj.b ≠ pl.b := by
      intro i pl o e h2 h3 hg ha
      rw [hk i h3] at hg
      exact h1.own i pl o e (by omega) hg ha
    intro i pl o e hl hg hm
    have ha : o.alive = true := hm
    rcases hcase i pl e with e | ⟨_, e, hn1, hn2⟩
    · obtain ⟨b1, b2⟩ := h.own i pl o e hl hg hm
      refine ⟨b1, fun j pj oj hj ej gj aj => ?_⟩
      rcases hcase j pj ej with ej | ⟨_, ej, hj1, hj2⟩
      · exact b2 j pj oj hj ej gj aj
      · have := (newown j pj oj ej hj1 hj2 gj aj).1
        have := (h.dom i pl e).2
        omega
    · obtain ⟨b1, b2⟩ := newown i pl o e hn1 hn2 hg ha
      refine ⟨Nat.le_trans h.size b1, fun j pj oj hj ej gj aj => ?_⟩
      rcases hcase j pj ej with ej | ⟨_, ej, hj1, hj2⟩
      · have := (h.dom j pj ej).2
        omega
      · exact b2 j pj oj hj ej (by rw [← hk j hj2]; exact gj) aj
  · intro b o cs hb
    obtain ⟨q1, ⟨c, e, fr, q2, q3⟩, q4⟩ := h1.frz b o cs hb
    refine ⟨q1, ⟨c, e, fr, q2, FzK.ok.mono0 (φ := φ'.bare) (φ' := (φ.join φ').bare) (fun _ _ h => h) (fun _ _ _ h => h) q3⟩, fun i pl ob e hg hm => ?_⟩
    · rcases hcase i pl e with e | ⟨_, e, _, hn⟩
      · rcases hfzn b o cs hb with hb' | hb'
        · exact (h.frz b o cs hb').2.2 i pl ob e hg hm
        · have := (h.dom i pl e).2
          omega
      · exact q4 i pl ob e (by rw [← hk i hn]; exact hg) hm
end
end Go.Oct
end
/- The run of a region in the order of its text, operation by operation. -/
section
set_option linter.unusedVariables false
set_option linter.unusedSimpArgs false
namespace Go.Oct
open Go.RowKit

structure Lex (p : AProg) (C : Caller) (os : List AOper) where
  E : Nat → Env
  H : Nat → AH
  G : Nat → Seg
  V : Nat → AV
  step : ∀ i o, os[i]? = some o → dstep p C o (E i) (H i) (G i) = some (V i, H (i + 1), G (i + 1))
  env : ∀ i o, os[i]? = some o → E (i + 1) = putDst (E i) o.dst (V i)

theorem lex_of {p : AProg} {C : Caller} : ∀ (os : List AOper) (env env' : Env) (σ σ' : AH) (s : Seg), adraw p C os env σ s = some (env', σ') →
    ∃ X : Lex p C os, X.E 0 = env ∧ X.H 0 = σ ∧ X.G 0 = s ∧ X.E os.length = env' ∧ X.H os.length = σ'
  | [], env, env', σ, σ', s, h => by
    cases h
    exact ⟨⟨fun _ => env, fun _ => σ, fun _ => s, fun _ => .undef, fun i o h => by simp at h, fun i o h => by simp at h⟩, rfl, rfl, rfl, rfl, rfl⟩
  | o :: os, env, env', σ, σ', s, h => by
    simp only [adraw] at h
    split at h
    · rename_i v σ1 s1 h1
      obtain ⟨X, e1, e2, e3, e4, e5⟩ := lex_of os _ _ _ _ _ h
      refine ⟨⟨fun i => match i with | 0 => env | i + 1 => X.E i, fun i => match i with | 0 => σ | i + 1 => X.H i, fun i => match i with | 0 => s | i + 1 => X.G i, fun i => match i with | 0 => v | i + 1 => X.V i, ?_, ?_⟩, rfl, rfl, rfl, e4, e5⟩
      · intro i o' hi
        cases i with
        | zero => cases hi; simp only [e2, e3]; exact h1
        | succ i => exact X.step i o' (by simpa using hi)
      · intro i o' hi
        cases i with
        | zero => cases hi; exact e1
        | succ i => exact X.env i o' (by simpa using hi)
    · cases h

/-! ### What operations look at -/
theorem dstep_env {p : AProg} {C : Caller} {o : AOper} {env env' : Env} {σ : AH} {s : Seg} (h : ∀ t ∈ readsOf o, env.get t = env'.get t) : dstep p C o env σ s = dstep p C o env' σ s := by
  have hw : wantedA env o.guard = wantedA env' o.guard := by
    unfold readsOf at h
    cases hg : o.guard with
    | none => rfl
    | some g =>
      obtain ⟨t, w⟩ := g
      rw [hg] at h
      simp only [wantedA, h t (List.mem_cons_self ..)]
  have hr : ∀ t ∈ tmpsOf (opdsA o.op), env.get t = env'.get t := by
    intro t ht
    refine h t ?_
    unfold readsOf
    split
    · exact List.mem_cons_of_mem _ ht
    · exact ht
  have ha : ∀ σ, aop p C (Opd.ev env) σ o.op = aop p C (Opd.ev env') σ o.op := fun σ => aop_env hr
  have hd : addrOf (Opd.ev env) o.op = addrOf (Opd.ev env') o.op := by
    cases ho : o.op with
    | h x =>
      cases x <;> simp only [addrOf]
      case load g n a =>
        rw [ho] at hr
        cases a with
        | tmp t => simp only [Opd.ev]; rw [hr t (by simp [opdsA, opdsH, tmpsOf])]
        | const v => rfl
        | glob g => rfl
      case store n a x =>
        rw [ho] at hr
        cases a with
        | tmp t => simp only [Opd.ev]; rw [hr t (by simp [opdsA, opdsH, tmpsOf])]
        | const v => rfl
        | glob g => rfl
    | _ => rfl
  have hq : appOf (Opd.ev env) o.op = appOf (Opd.ev env') o.op := by
    cases ho : o.op with
    | h x =>
      cases x <;> simp only [appOf]
      case append z b a x =>
        rw [ho] at hr
        cases a with
        | tmp t => simp only [Opd.ev]; rw [hr t (by simp [opdsA, opdsH, tmpsOf])]
        | const v => rfl
        | glob g => rfl
    | _ => rfl
  have hq : oldApp (Opd.ev env) o.op s = oldApp (Opd.ev env') o.op s := by simp only [oldApp, hq]
  have hk : keeps (Opd.ev env) σ o.op = keeps (Opd.ev env') σ o.op := by
    cases ho : o.op with
    | h x =>
      cases x <;> simp only [keeps]
      case store n a x =>
        rw [ho] at hr
        have e1 : Opd.ev env a = Opd.ev env' a := by
          cases a with
          | tmp t => simp only [Opd.ev]; rw [hr t (by simp [opdsA, opdsH, tmpsOf])]
          | const v => rfl
          | glob g => rfl
        have e2 : Opd.ev env x = Opd.ev env' x := by
          cases x with
          | tmp t =>
            simp only [Opd.ev]
            rw [hr t (by cases a <;> simp [opdsA, opdsH, tmpsOf])]
          | const v => rfl
          | glob g => rfl
        rw [e1, e2]
    | _ => rfl
  have hst : oldSto (Opd.ev env) σ o.op s = oldSto (Opd.ev env') σ o.op s := by simp only [oldSto, hd, hk]
  have hl : isVLoad (Opd.ev env) o.op = isVLoad (Opd.ev env') o.op := by
    cases ho : o.op with
    | h x =>
      cases x <;> simp only [isVLoad]
      case load g n a =>
        rw [ho] at hr
        cases a with
        | tmp t => simp only [Opd.ev]; rw [hr t (by simp [opdsA, opdsH, tmpsOf])]
        | const v => rfl
        | glob g => rfl
    | _ => rfl
  unfold dstep
  simp only [hw, ha, hd, hl, hq, hst]
theorem vload_same {p : AProg} {C : Caller} {ρ : Opd → AV} {σ σ1 : AH} {v : AV} {o : AOp} (hv : isVLoad ρ o = true) (h : aop p C ρ σ o = some (v, σ1)) (σ2 : AH) : aop p C ρ σ2 o = some (v, σ2) ∧ σ1 = σ := by
  cases o <;> simp only [isVLoad, Bool.false_eq_true] at hv
  rename_i x
  cases x <;> simp only [isVLoad, Bool.false_eq_true] at hv
  split at hv
  · rename_i cs o hp
    simp only [aop, ahop, hp] at h ⊢
    split at h
    · obtain ⟨q, hq, e⟩ := Option.map_eq_some_iff.1 h
      cases e
      rename_i hb
      exact ⟨by rw [if_pos hb, hq]; rfl, rfl⟩
    · cases h
  · cases hv

theorem v_same {p : AProg} {C : Caller} {ρ : Opd → AV} {σ σ1 : AH} {v : AV} {o : AOp} (hv : isV o = true) (h : aop p C ρ σ o = some (v, σ1)) (σ2 : AH) : aop p C ρ σ2 o = some (v, σ2) ∧ σ1 = σ := by
  cases o with
  | v o =>
    simp only [aop] at h ⊢
    obtain ⟨q, hq, e⟩ := Option.map_eq_some_iff.1 h
    cases e
    exact ⟨by simp [hq], rfl⟩
  | h o =>
    cases o <;> simp only [isV, Bool.false_eq_true] at hv
    simp only [aop, ahop] at h ⊢
    split at h
    · rename_i cs hcs
      cases h
      exact ⟨rfl, rfl⟩
    · cases h
  | call f args => simp [isV] at hv
  | invoke n r args => simp [isV] at hv
  | fail => simp [isV] at hv
theorem load_same {p : AProg} {C : Caller} {ρ : Opd → AV} {σ σ1 : AH} {v : AV} {o : AOp} (hl : isLoadOp o = true) (h : aop p C ρ σ o = some (v, σ1)) : σ1 = σ := by
  cases o <;> simp [isLoadOp] at hl
  rename_i x
  cases x <;> simp [isLoadOp] at hl
  simp only [aop, ahop] at h
  repeat' split at h
  all_goals first | (cases h; done) | (obtain ⟨q, hq, e⟩ := Option.map_eq_some_iff.1 h; cases e; rfl)
theorem load_at {p : AProg} {C : Caller} {ρ : Opd → AV} {σ σ' : AH} {v : AV} {o : AOp} {a : Nat} (hl : isLoadOp o = true) (ha : addrOf ρ o = some a) (hg : σ'.get a = σ.get a) (h : aop p C ρ σ o = some (v, σ)) : aop p C ρ σ' o = some (v, σ') := by
  cases o <;> simp [isLoadOp] at hl
  rename_i x
  cases x <;> simp [isLoadOp] at hl
  simp only [addrOf] at ha
  simp only [aop, ahop] at h ⊢
  split at ha
  · rename_i i o hp
    cases ha
    rw [hp] at h ⊢
    simp only [AH.row, hg] at h ⊢
    split at h
    · split at h
      · rename_i hb
        rw [if_pos hb]
        obtain ⟨q, hq, e⟩ := Option.map_eq_some_iff.1 h
        cases e
        simp [hq]
      · cases h
    · cases h
  · cases ha
theorem store_only {p : AProg} {C : Caller} {ρ : Opd → AV} {σ σ1 : AH} {v : AV} {o : AOp} {a : Nat} (hl : isStoreOp o = true) (ha : addrOf ρ o = some a) (h : aop p C ρ σ o = some (v, σ1)) (i : Nat) (hi : i ≠ a) : σ1.get i = σ.get i := by
  cases o <;> simp [isStoreOp] at hl
  rename_i x
  cases x <;> simp [isStoreOp] at hl
  simp only [addrOf] at ha
  simp only [aop, ahop] at h
  split at ha
  · rename_i i' o hp
    cases ha
    rw [hp] at h
    simp only at h
    split at h
    · split at h
      · cases h
        exact AH.get_set_other _ _ _ _ hi
      · cases h
    · cases h
  · cases ha

theorem oldApp_some {ρ : Opd → AV} {o : AOp} {s : Seg} {a : Nat} (h : oldApp ρ o s = some a) : appOf ρ o = some a ∧ a < s.seg ∧ a ∉ s.lds := by
  unfold oldApp at h
  split at h
  · rename_i i hi
    split at h
    · rename_i hc
      cases h
      exact ⟨hi, hc.1, fun hin => by have := hc.2; simp [hin] at this⟩
    · cases h
  · cases h
theorem sameC_eq {x y : AV} (h : sameC x y = true) : x = y := by
  unfold sameC at h
  split at h
  · simp only [Bool.and_eq_true, decide_eq_true_eq] at h
    rw [h.1, h.2]
  · simp only [beq_iff_eq] at h
    rw [h]
  · cases h
theorem keeps_get {p : AProg} {C : Caller} {ρ : Opd → AV} {σ σ1 : AH} {v : AV} {o : AOp} {a : Nat} (hk : keeps ρ σ o = true) (ha : addrOf ρ o = some a) (h : aop p C ρ σ o = some (v, σ1)) : σ1.get a = σ.get a := by
  unfold keeps at hk
  split at hk
  · rename_i n x y
    unfold keepsV at hk
    split at hk
    · rename_i hn
      subst hn
      split at hk
      · rename_i i q hp
        simp only [addrOf, hp] at ha
        cases ha
        split at hk
        · rename_i cs hg
          split at hk
          · rename_i z hz
            have e := sameC_eq hk
            simp only [aop, ahop, hp, AH.own] at h
            split at h
            · rename_i cs' hc
              split at hc
              · rw [hg] at hc
                cases hc
                split at h
                · rename_i hcond
                  cases h
                  rw [AH.get_set_same _ _ _ (AH.get_lt hg), hg]
                  have hy : (ρ y).cells = [ρ y] := by
                    rw [← e]
                    unfold sameC at hk
                    split at hk <;> first | rfl | cases hk
                  rw [hy, ← e]
                  simp only [putCells]
                  obtain ⟨hlt, he⟩ := List.getElem?_eq_some_iff.1 hz
                  rw [← he, List.set_getElem_self]
                · cases h
              · cases hc
            · cases h
          · cases hk
        · cases hk
      · cases hk
    · cases hk
  · cases hk
theorem oldSto_some {ρ : Opd → AV} {σ : AH} {o : AOp} {s : Seg} {a : Nat} (h : oldSto ρ σ o s = some a) : addrOf ρ o = some a ∧ a < s.seg ∧ (a ∉ s.lds ∨ keeps ρ σ o = true) := by
  unfold oldSto at h
  split at h
  · rename_i i hi
    split at h
    · rename_i hc
      cases h
      refine ⟨hi, hc.1, ?_⟩
      have h2 := hc.2
      rw [Bool.or_eq_true] at h2
      rcases h2 with h2 | h2
      · exact .inl fun hin => by simp [hin] at h2
      · exact .inr h2
    · cases h
  · cases h
theorem grow_only {z bytes len n : Nat} {a i : Nat} {cap : ACap} {new : List AV} {σ σ1 : AH} {v : AV} (h : agrow z bytes (some (a, i)) len cap n new σ = some (v, σ1)) (m : Nat) (hm : m ≠ a) (hn : m < σ.next) : σ1.get m = σ.get m := by
  have hp : ∀ o, (σ.push o).get m = σ.get m := fun o => AH.get_push_old _ _ _ (by omega)
  unfold agrow at h
  simp only at h
  repeat' split at h
  all_goals first
    | (cases h; done)
    | (cases h; exact AH.get_set_other _ _ _ _ hm)
    | (cases h; exact hp _)
    | (rename_i hc; cases h
       repeat' split at hc
       all_goals first
         | (cases hc; done)
         | (cases hc; rw [AH.get_set_other _ _ _ _ hm]; exact hp _))
theorem app_only {p : AProg} {C : Caller} {ρ : Opd → AV} {σ σ1 : AH} {v : AV} {o : AOp} {a : Nat} (ha : appOf ρ o = some a) (h : aop p C ρ σ o = some (v, σ1)) (m : Nat) (hm : m ≠ a) (hn : m < σ.next) : σ1.get m = σ.get m := by
  cases o <;> simp only [appOf] at ha <;> try (cases ha; done)
  rename_i x
  cases x <;> simp only at ha <;> try (cases ha; done)
  rename_i z bytes x y
  split at ha
  · rename_i i q len cap hp
    cases ha
    simp only [aop, ahop, aappend, hp, dstOf] at h
    cases hl : lenOf (ρ y) with
    | none => simp [hl] at h
    | some n =>
      simp only [hl] at h
      split at h
      · cases h; rfl
      · split at h
        · cases h
        · exact grow_only h m hm hn
  · cases ha

theorem putDst_get (env : Env) (d : Option Nat) (v : AV) (t : Nat) : (putDst env d v).get t = if d = some t then v else env.get t := by
  cases d with
  | none => simp [putDst]
  | some d =>
    simp only [putDst]
    by_cases h : d = t
    · subst h; simp [Env.get_set_same]
    · rw [Env.get_set_other _ _ _ _ (Ne.symm h), if_neg (by simpa using h)]
theorem keep_mem (env : Env) : ∀ (ks : List Nat) (t : Nat), t ∈ ks → (Env.keep ks env).get t = env.get t
  | k :: ks, t, h => by
    show (if k = t then env.get k else (Env.keep ks env).get t) = _
    by_cases hk : k = t
    · rw [if_pos hk, hk]
    · rw [if_neg hk]
      exact keep_mem env ks t (by rcases List.mem_cons.1 h with h | h; exact absurd h.symm hk; exact h)

section
variable {p : AProg} {C : Caller} {os : List AOper} (X : Lex p C os)

theorem Lex.env_keep (t : Nat) : ∀ i, i ≤ os.length → (∀ j y, j < i → os[j]? = some y → y.dst ≠ some t) → (X.E i).get t = (X.E 0).get t
  | 0, _, _ => rfl
  | i + 1, hi, h => by
    have ho := List.getElem?_eq_getElem (show i < os.length by omega)
    rw [X.env i _ ho, putDst_get, if_neg (h i _ (Nat.lt_succ_self i) ho)]
    exact Lex.env_keep t i (by omega) fun j y hj => h j y (by omega)
theorem Lex.env_val (hd : ∀ (i j : Nat) (x y : AOper) (d : Nat), os[i]? = some x → os[j]? = some y → x.dst = some d → y.dst = some d → i = j) {t j : Nat} {y : AOper} (hy : os[j]? = some y) (ht : y.dst = some t) : ∀ i, i ≤ os.length → j < i → (X.E i).get t = X.V j
  | 0, _, h => absurd h (Nat.not_lt_zero _)
  | i + 1, hi, h => by
    have ho := List.getElem?_eq_getElem (show i < os.length by omega)
    rw [X.env i _ ho, putDst_get]
    by_cases hij : j = i
    · subst hij
      rw [ho] at hy
      have hy := Option.some.inj hy
      rw [if_pos (by rw [hy]; exact ht)]
    · rw [if_neg (fun e => hij (hd j i y _ t hy ho ht e))]
      exact Lex.env_val hd hy ht i (by omega) (by omega)

theorem Lex.fz (hF : FzC C) {i : Nat} (hi : i < os.length) : Fz (X.H i) (X.H (i + 1)) := fz_step hF (X.step i _ (List.getElem?_eq_getElem hi))
theorem Lex.lim (hF : FzC C) : ∀ i, i ≤ os.length → (X.H i).lim = (X.H 0).lim
  | 0, _ => rfl
  | i + 1, h => (X.fz hF (by omega)).lim.trans (Lex.lim hF i (by omega))
theorem Lex.next (hF : FzC C) {i : Nat} : ∀ j, i ≤ j → j ≤ os.length → (X.H i).next ≤ (X.H j).next
  | 0, h, _ => by have : i = 0 := by omega
                  subst this; exact Nat.le_refl _
  | j + 1, h, hj => by
    by_cases e : i = j + 1
    · subst e; exact Nat.le_refl _
    · exact Nat.le_trans (Lex.next hF j (by omega) (by omega)) (X.fz hF (by omega)).next

/-- Every number that was given is in the part of some operation. -/
theorem Lex.part (hF : FzC C) (m : Nat) : ∀ i, i ≤ os.length → (X.H 0).next ≤ m → m < (X.H i).next → ∃ j, j < i ∧ (X.H j).next ≤ m ∧ m < (X.H (j + 1)).next
  | 0, _, h1, h2 => by omega
  | i + 1, hi, h1, h2 => by
    by_cases h : m < (X.H i).next
    · obtain ⟨j, a, b, c⟩ := Lex.part hF m i (by omega) h1 h
      exact ⟨j, by omega, b, c⟩
    · exact ⟨i, by omega, by omega, h2⟩

/-- An operation that does not stand apart leaves what was there. -/
theorem Lex.quiet (hF : FzC C) (hls : ∀ (i : Nat) (o : AOper), os[i]? = some o → isV o.op = false → o.cls = .sload → isLoadOp o.op = true) {i : Nat} {o : AOper} (ho : os[i]? = some o) (hb : o.bar = false) (m : Nat) (hm : m < (X.H i).next) :
    (X.H (i + 1)).get m = (X.H i).get m := by
  have h := X.step i o ho
  unfold dstep at h
  split at h
  · simp only [Option.some.injEq, Prod.mk.injEq] at h; rw [h.2.1]
  · cases h
  · split at h
    · split at h
      · simp only [Option.some.injEq, Prod.mk.injEq] at h; rw [h.2.1]
      · cases h
    · rename_i hv
      have hv' : isV o.op = false := by simpa using hv
      split at h
      · rename_i hc; simp [AOper.bar, hv', hc] at hb
      · rename_i hc; simp [AOper.bar, hv', hc] at hb
      · split at h
        · rename_i v σ1 h1
          simp only [Option.some.injEq, Prod.mk.injEq] at h
          rw [← h.2.1]
          exact (fz_op hF h1).old m hm hm
        · cases h
      · rename_i hc
        split at h
        · split at h
          · split at h
            · rename_i v σ1 h1
              simp only [Option.some.injEq, Prod.mk.injEq] at h
              rw [← h.2.1, load_same (hls i o ho hv' hc) h1]
            · cases h
          · cases h
        · split at h
          · split at h
            · simp only [Option.some.injEq, Prod.mk.injEq] at h
              rw [h.2.1]
            · cases h
          · cases h
      · rename_i hc; simp [AOper.bar, hv', hc] at hb
theorem Lex.quiets (hF : FzC C) (hls : ∀ (i : Nat) (o : AOper), os[i]? = some o → isV o.op = false → o.cls = .sload → isLoadOp o.op = true) {i : Nat} (m : Nat) (hm : m < (X.H i).next) : ∀ k, i ≤ k → k ≤ os.length → (∀ j o, i ≤ j → j < k → os[j]? = some o → o.bar = false) →
    (X.H k).get m = (X.H i).get m
  | 0, h, _, _ => by have : i = 0 := by omega
                     subst this; rfl
  | k + 1, h, hk, hb => by
    by_cases e : i = k + 1
    · subst e; rfl
    · have ho := List.getElem?_eq_getElem (show k < os.length by omega)
      rw [X.quiet hF hls ho (hb k _ (by omega) (by omega) ho) m (Nat.lt_of_lt_of_le hm (X.next hF k (by omega) (by omega)))]
      exact Lex.quiets hF hls m hm k (by omega) (by omega) fun j o h1 h2 => hb j o h1 (by omega)

/-- The segment grows while no operation is ordered against all. -/
theorem Lex.grow {i : Nat} {o : AOper} (ho : os[i]? = some o) (hb : o.isFull = false) : (X.G (i + 1)).seg = (X.G i).seg ∧ (∀ x, x ∈ (X.G i).lds → x ∈ (X.G (i + 1)).lds) ∧ (∀ x, x ∈ (X.G i).sts → x ∈ (X.G (i + 1)).sts) := by
  have h := X.step i o ho
  unfold dstep at h
  split at h
  · simp only [Option.some.injEq, Prod.mk.injEq] at h; rw [← h.2.2]; exact ⟨rfl, fun _ h => h, fun _ h => h⟩
  · cases h
  · split at h
    · split at h
      · simp only [Option.some.injEq, Prod.mk.injEq] at h; rw [← h.2.2]; exact ⟨rfl, fun _ h => h, fun _ h => h⟩
      · cases h
    · rename_i hv
      have hv' : isV o.op = false := by simpa using hv
      split at h
      · rename_i hc; simp [AOper.isFull, hv', hc] at hb
      · split at h
        · split at h
          · simp only [Option.some.injEq, Prod.mk.injEq] at h; rw [← h.2.2]; exact ⟨rfl, fun _ h => h, fun _ h => List.mem_cons_of_mem _ h⟩
          · cases h
        · split at h
          · split at h
            · simp only [Option.some.injEq, Prod.mk.injEq] at h; rw [← h.2.2]; exact ⟨rfl, fun _ h => h, fun _ h => h⟩
            · cases h
          · cases h
      · split at h
        · simp only [Option.some.injEq, Prod.mk.injEq] at h; rw [← h.2.2]; exact ⟨rfl, fun _ h => h, fun _ h => h⟩
        · cases h
      · split at h
        · split at h
          · split at h
            · simp only [Option.some.injEq, Prod.mk.injEq] at h; rw [← h.2.2]; exact ⟨rfl, fun _ h => List.mem_cons_of_mem _ h, fun _ h => h⟩
            · cases h
          · cases h
        · split at h
          · split at h
            · simp only [Option.some.injEq, Prod.mk.injEq] at h; rw [← h.2.2]; exact ⟨rfl, fun _ h => h, fun _ h => h⟩
            · cases h
          · cases h
      · split at h
        · split at h
          · simp only [Option.some.injEq, Prod.mk.injEq] at h; rw [← h.2.2]; exact ⟨rfl, fun _ h => h, fun _ h => List.mem_cons_of_mem _ h⟩
          · cases h
        · split at h
          · split at h
            · simp only [Option.some.injEq, Prod.mk.injEq] at h; rw [← h.2.2]; exact ⟨rfl, fun _ h => h, fun _ h => h⟩
            · cases h
          · cases h

theorem Lex.seg_le (hF : FzC C) (h0 : (X.G 0).seg ≤ (X.H 0).next) : ∀ i, i ≤ os.length → (X.G i).seg ≤ (X.H i).next
  | 0, _ => h0
  | i + 1, hi => by
    have ho := List.getElem?_eq_getElem (show i < os.length by omega)
    by_cases hf : (os[i]'(by omega)).isFull = true
    · have h := X.step i _ ho
      unfold dstep at h
      split at h
      · simp only [Option.some.injEq, Prod.mk.injEq] at h; rw [← h.2.2, ← h.2.1]; exact Lex.seg_le hF h0 i (by omega)
      · cases h
      · split at h
        · rename_i hv
          simp [AOper.isFull, hv] at hf
        · split at h
          · split at h
            · simp only [Option.some.injEq, Prod.mk.injEq] at h; rw [← h.2.2, ← h.2.1]; exact Nat.le_refl _
            · cases h
          all_goals
            rename_i hc
            simp [AOper.isFull, hc] at hf
    · rw [(X.grow ho (by simpa using hf)).1]
      exact Nat.le_trans (Lex.seg_le hF h0 i (by omega)) (X.fz hF (by omega)).next

/-- What lay there when the segment began: left alone, or stored into by one that no load of the segment looks at. -/
theorem Lex.held (hF : FzC C) (hls : ∀ (i : Nat) (o : AOper), os[i]? = some o → isV o.op = false → o.cls = .sload → isLoadOp o.op = true) (hss : ∀ (i : Nat) (o : AOper), os[i]? = some o → isV o.op = false → o.cls = .st1 → isStoreOp o.op = true) (h0 : (X.G 0).seg ≤ (X.H 0).next) {i : Nat} {o : AOper} (ho : os[i]? = some o) (hb : o.isFull = false) (m : Nat) (hm : m < (X.G i).seg) :
    (X.H (i + 1)).get m = (X.H i).get m ∨ (m ∈ (X.G (i + 1)).sts ∧ m ∉ (X.G i).lds) := by
  have hil : i < os.length := (List.getElem?_eq_some_iff.1 ho).1
  have hmn : m < (X.H i).next := Nat.lt_of_lt_of_le hm (X.seg_le hF h0 i (by omega))
  by_cases hbar : o.bar = true
  · have h := X.step i o ho
    unfold dstep at h
    split at h
    · simp only [Option.some.injEq, Prod.mk.injEq] at h; rw [h.2.1]; exact .inl rfl
    · cases h
    · split at h
      · split at h
        · simp only [Option.some.injEq, Prod.mk.injEq] at h; rw [h.2.1]; exact .inl rfl
        · cases h
      · rename_i hv
        have hv' : isV o.op = false := by simpa using hv
        split at h
        · rename_i hc; simp [AOper.isFull, hv', hc] at hb
        · split at h
          · rename_i a ha
            obtain ⟨ha1, ha2⟩ := oldApp_some ha
            split at h
            · rename_i v σ1 h1
              simp only [Option.some.injEq, Prod.mk.injEq] at h
              by_cases hma : m = a
              · exact .inr ⟨by rw [← h.2.2, hma]; exact List.mem_cons_self .., by rw [hma]; exact ha2.2⟩
              · rw [← h.2.1]
                exact .inl (app_only ha1 h1 m hma hmn)
            · cases h
          · split at h
            · split at h
              · rename_i v σ1 h1
                simp only [Option.some.injEq, Prod.mk.injEq] at h
                rw [← h.2.1]
                exact .inl ((fz_op hF h1).old m hm hmn)
              · cases h
            · cases h
        · rename_i hc; simp [AOper.bar, hv', hc] at hbar
        · rename_i hc; simp [AOper.bar, hv', hc] at hbar
        · rename_i hc
          split at h
          · rename_i a ha
            obtain ⟨ha1, ha2⟩ := oldSto_some ha
            split at h
            · rename_i v σ1 h1
              simp only [Option.some.injEq, Prod.mk.injEq] at h
              by_cases hma : m = a
              · rcases ha2.2 with h3 | h3
                · exact .inr ⟨by rw [← h.2.2, hma]; exact List.mem_cons_self .., by rw [hma]; exact h3⟩
                · rw [← h.2.1, hma]
                  exact .inl (keeps_get h3 ha1 h1)
              · rw [← h.2.1]
                exact .inl (store_only (hss i o ho hv' hc) ha1 h1 m hma)
            · cases h
          · split at h
            · split at h
              · rename_i v σ1 h1
                simp only [Option.some.injEq, Prod.mk.injEq] at h
                rw [← h.2.1]
                exact .inl ((fz_op hF h1).old m hm hmn)
              · cases h
            · cases h
  · exact .inl (X.quiet hF hls ho (by simpa using hbar) m hmn)

/-- A load that floats. -/
theorem Lex.sload {i : Nat} {o : AOper} (ho : os[i]? = some o) (hls : isLoadOp o.op = true) (hv : isV o.op = false) (hc : o.cls = .sload) (hw : wantedA (X.E i) o.guard = some true) :
    (∃ a, addrOf (Opd.ev (X.E i)) o.op = some a ∧ a < (X.G i).seg ∧ a ∉ (X.G i).sts ∧ a ∈ (X.G (i + 1)).lds ∧ X.H (i + 1) = X.H i ∧ aop p C (Opd.ev (X.E i)) (X.H i) o.op = some (X.V i, X.H i)) ∨
    (isVLoad (Opd.ev (X.E i)) o.op = true ∧ X.H (i + 1) = X.H i ∧ ∀ σ, aop p C (Opd.ev (X.E i)) σ o.op = some (X.V i, σ)) := by
  have h := X.step i o ho
  unfold dstep at h
  rw [hw] at h
  simp only [hv, hc, Bool.false_eq_true, if_false] at h
  split at h
  · rename_i a ha
    split at h
    · rename_i hcond
      split at h
      · rename_i v σ1 h1
        simp only [Option.some.injEq, Prod.mk.injEq] at h
        have e := load_same hls h1
        subst e
        refine .inl ⟨a, ha, hcond.1, ?_, ?_, h.2.1.symm, by rw [h1, h.1]⟩
        · intro hin
          have := hcond.2
          simp [hin] at this
        · rw [← h.2.2]; exact List.mem_cons_self ..
      · cases h
    · cases h
  · split at h
    · rename_i hvl
      split at h
      · rename_i v σ1 h1
        simp only [Option.some.injEq, Prod.mk.injEq] at h
        exact .inr ⟨hvl, h.2.1.symm, fun σ => by rw [← h.1]; exact (vload_same hvl h1 σ).1⟩
      · cases h
    · cases h

theorem Lex.stay (hF : FzC C) (hls : ∀ (i : Nat) (o : AOper), os[i]? = some o → isV o.op = false → o.cls = .sload → isLoadOp o.op = true) (hss : ∀ (i : Nat) (o : AOper), os[i]? = some o → isV o.op = false → o.cls = .st1 → isStoreOp o.op = true) (h0 : (X.G 0).seg ≤ (X.H 0).next)
    {i a : Nat} (hi : i < os.length) (h1 : a < (X.G i).seg) (h2 : a ∉ (X.G i).sts) (h3 : a ∈ (X.G (i + 1)).lds) (he : X.H (i + 1) = X.H i) :
    (∀ k, k ≤ i → (∀ j o, k ≤ j → j < i → os[j]? = some o → o.isFull = false) → (X.H k).get a = (X.H i).get a) ∧
    (∀ k, i < k → k ≤ os.length → (∀ j o, i ≤ j → j < k → os[j]? = some o → o.isFull = false) → (X.H k).get a = (X.H i).get a) := by
  constructor
  · intro k hk hfull
    have key : ∀ d, d ≤ i - k → a < (X.G (i - d)).seg ∧ a ∉ (X.G (i - d)).sts ∧ (X.H (i - d)).get a = (X.H i).get a := by
      intro d
      induction d with
      | zero => exact fun _ => ⟨h1, h2, rfl⟩
      | succ d ih =>
        intro hd
        obtain ⟨q1, q2, q3⟩ := ih (by omega)
        have hj : i - (d + 1) < os.length := by omega
        have ho := List.getElem?_eq_getElem hj
        have hf := hfull (i - (d + 1)) _ (by omega) (by omega) ho
        have e : i - (d + 1) + 1 = i - d := by omega
        obtain ⟨g1, g2, g3⟩ := X.grow ho hf
        rw [e] at g1 g3
        have hs : a < (X.G (i - (d + 1))).seg := by rw [← g1]; exact q1
        refine ⟨hs, fun hin => q2 (g3 a hin), ?_⟩
        rcases X.held hF hls hss h0 ho hf a hs with h | ⟨h, _⟩
        · rw [← h, e]; exact q3
        · rw [e] at h; exact absurd h q2
    have := (key (i - k) (Nat.le_refl _)).2.2
    rwa [show i - (i - k) = k by omega] at this
  · intro k hk hkn hfull
    have hoi := List.getElem?_eq_getElem hi
    have key : ∀ d, i + 1 + d ≤ k → a < (X.G (i + 1 + d)).seg ∧ a ∈ (X.G (i + 1 + d)).lds ∧ (X.H (i + 1 + d)).get a = (X.H i).get a := by
      intro d
      induction d with
      | zero => exact fun _ => ⟨by rw [Nat.add_zero, (X.grow hoi (hfull i _ (Nat.le_refl _) hk hoi)).1]; exact h1, h3, by rw [Nat.add_zero, he]⟩
      | succ d ih =>
        intro hd
        obtain ⟨q1, q2, q3⟩ := ih (by omega)
        have hj : i + 1 + d < os.length := by omega
        have ho := List.getElem?_eq_getElem hj
        have hf := hfull (i + 1 + d) _ (by omega) (by omega) ho
        obtain ⟨g1, g2, g3⟩ := X.grow ho hf
        refine ⟨by rw [show i + 1 + (d + 1) = i + 1 + d + 1 by omega, g1]; exact q1, g2 a q2, ?_⟩
        rcases X.held hF hls hss h0 ho hf a q1 with h | ⟨_, h⟩
        · rw [show i + 1 + (d + 1) = i + 1 + d + 1 by omega, h]; exact q3
        · exact absurd q2 h
    have := (key (k - (i + 1)) (by omega)).2.2
    rwa [show i + 1 + (k - (i + 1)) = k by omega] at this
end
end Go.Oct
end
/- Regions whose order is open: every order leaves what the order of the text leaves. -/
section
set_option linter.unusedVariables false
set_option linter.unusedSimpArgs false
set_option linter.unusedSectionVars false
namespace Go.Oct
variable [Gl]
open Go.RowKit

section
variable {P : Program} {p : AProg}

theorem bar_not_v {o : AOper} (h : o.bar = true) : isV o.op = false := by
  unfold AOper.bar at h
  simp only [Bool.and_eq_true, Bool.not_eq_true'] at h
  exact h.1
theorem bar_not_sload {o : AOper} (h : o.bar = true) : o.cls ≠ .sload := by
  unfold AOper.bar at h
  simp only [Bool.and_eq_true, Bool.not_eq_true'] at h
  intro e; simp [e] at h
theorem full_bar {o : AOper} (h : o.isFull = true) : o.bar = true := by
  unfold AOper.isFull at h
  unfold AOper.bar
  simp only [Bool.and_eq_true, Bool.not_eq_true'] at h ⊢
  refine ⟨h.1, ?_⟩
  cases hc : o.cls <;> simp [hc] at h ⊢

/-- One operation of such a region. -/
theorem op_stepC {B0 : Nat} {w0 : World} {ops : Array Oper} {i : Nat} {o : Oper} {b : Frame} {a : Act} {k : List Item} {cs : List Frame} {rest : List Nat} {w : World} (hP : CompP P p) {C : Caller} (hC : CallerOK P p B0 w0 C) {φ : Phi} {σ σ' : AH} {ao : AOp} {v : AV} {N : Nat} {env : Env} (hc : CompO P o.op ao) (hE : EnvR φ N env a.tmps) (hR : RR P p B0 w0 φ σ w)
    (hv : aop p C (Opd.ev env) σ ao = some (v, σ')) (ho : ops[i]? = some o) (hw : Region.wanted o (yielded ops a.tmps) = true) : OPost P p B0 w0 φ σ b a ops i rest k cs w o v σ' := by
  rcases hc with hc | ⟨z, n, zero, ps, hc, rfl⟩
  · exact op_step hP hC hc hE hR hv ho hw
  · exact tsl_step hc hE hR hv ho hw

/-- An operation at the heap that it has in the order of the text. -/
theorem exec_at (hP : CompP P p) {B0 : Nat} {w0 : World} {C : Caller} (hC : CallerOK P p B0 w0 C) (hF : FzC C) {ops : Array Oper} {o : Oper} {ao : AOper} {i : Nat} (ho : ops[i]? = some o) (hc : CompO P o.op ao.op) (hdst : ao.dst = o.dst)
    (hg : guardOf ops o.guard = some ao.guard) {φ : Phi} {N : Nat} {env : Env} {a : Act} {σ σ' : AH} {s s' : Seg} {v : AV} {w : World} (hE : EnvR φ N env a.tmps) (hR : RR P p B0 w0 φ σ w) (hs : s.seg ≤ σ.next)
    (h : dstep p C ao env σ s = some (v, σ', s')) {b : Frame} {k : List Item} {cs : List Frame} {rest : List Nat} : OPost P p B0 w0 φ σ b a ops i rest k cs w o v σ' := by
  unfold dstep at h
  split at h
  · rename_i hw
    simp only [Option.some.injEq, Prod.mk.injEq] at h
    obtain ⟨rfl, rfl, _⟩ := h
    have hskip : ((ops[i]?).map (Region.wanted · (yielded ops a.tmps))).getD false = false := by
      rw [ho]; exact wanted_ok hE hg hw
    have s1 := stepR_op_skip (P := P) (b := b) (a := a) (k := k) (cs := cs) (w := w) (rest := rest) hskip
    rw [ho] at s1
    exact ⟨φ, w, undef, .one s1, VR.skip _, Ext.refl _ _, hR⟩
  · cases h
  · rename_i hw
    have hwt := wanted_ok hE hg hw
    split at h
    · rename_i hv
      split at h
      · rename_i v1 σ1 h1
        simp only [Option.some.injEq, Prod.mk.injEq] at h
        obtain ⟨rfl, rfl, _⟩ := h
        obtain ⟨_, rfl⟩ := v_same hv h1 σ
        exact op_stepC hP hC hc hE hR h1 ho hwt
      · cases h
    · split at h
      · split at h
        · rename_i v1 σ1 h1
          simp only [Option.some.injEq, Prod.mk.injEq] at h
          obtain ⟨rfl, rfl, _⟩ := h
          exact op_stepC hP hC hc hE hR h1 ho hwt
        · cases h
      · split at h
        · split at h
          · rename_i v1 σ1 h1
            simp only [Option.some.injEq, Prod.mk.injEq] at h
            obtain ⟨rfl, rfl, _⟩ := h
            exact op_stepC hP hC hc hE hR h1 ho hwt
          · cases h
        · split at h
          · rename_i hl
            split at h
            · rename_i v1 σ1 h1
              simp only [Option.some.injEq, Prod.mk.injEq] at h
              obtain ⟨rfl, rfl, _⟩ := h
              obtain ⟨φ', w', v', q1, q2, q3, q4⟩ := op_stepC (b := b) (k := k) (cs := cs) (rest := rest) hP hC hc hE (R.raise hR (.inl hl)) h1 ho hwt
              exact ⟨φ', w', v', q1, q2, q3.unraise, R.unraise hR hs q4 q3 (fz_op hF h1)⟩
            · cases h
          · cases h
      · split at h
        · rename_i v1 σ1 h1
          simp only [Option.some.injEq, Prod.mk.injEq] at h
          obtain ⟨rfl, rfl, _⟩ := h
          obtain ⟨φ', w', v', q1, q2, q3, q4⟩ := op_stepC (b := b) (k := k) (cs := cs) (rest := rest) hP hC hc hE (R.raise hR (.inr (Nat.le_refl _))) h1 ho hwt
          exact ⟨φ', w', v', q1, q2, q3.unraise, R.unraise hR (Nat.le_refl _) q4 q3 (fz_op hF h1)⟩
        · cases h
      · split at h
        · split at h
          · split at h
            · rename_i v1 σ1 h1
              simp only [Option.some.injEq, Prod.mk.injEq] at h
              obtain ⟨rfl, rfl, _⟩ := h
              exact op_stepC hP hC hc hE hR h1 ho hwt
            · cases h
          · cases h
        · split at h
          · rename_i hvl
            split at h
            · rename_i v1 σ1 h1
              simp only [Option.some.injEq, Prod.mk.injEq] at h
              obtain ⟨rfl, rfl, _⟩ := h
              obtain ⟨_, rfl⟩ := vload_same hvl h1 σ
              exact op_stepC hP hC hc hE hR h1 ho hwt
            · cases h
          · cases h
      · split at h
        · split at h
          · rename_i v1 σ1 h1
            simp only [Option.some.injEq, Prod.mk.injEq] at h
            obtain ⟨rfl, rfl, _⟩ := h
            exact op_stepC hP hC hc hE hR h1 ho hwt
          · cases h
        · split at h
          · rename_i hl
            split at h
            · rename_i v1 σ1 h1
              simp only [Option.some.injEq, Prod.mk.injEq] at h
              obtain ⟨rfl, rfl, _⟩ := h
              obtain ⟨φ', w', v', q1, q2, q3, q4⟩ := op_stepC (b := b) (k := k) (cs := cs) (rest := rest) hP hC hc hE (R.raise hR (.inl hl)) h1 ho hwt
              exact ⟨φ', w', v', q1, q2, q3.unraise, R.unraise hR hs q4 q3 (fz_op hF h1)⟩
            · cases h
          · cases h

/-- A region, compiled, with its run in the order of the text. -/
structure Ctx (P : Program) (p : AProg) (C : Caller) (ops : Array Oper) (os : List AOper) (b : Array Nat) (l : List (AOp × Nat)) (N : Nat) where
  reg : RegOK P ops os b l
  hP : CompP P p
  hC : ∀ B0 w0, CallerOK P p B0 w0 C
  hF : FzC C
  X : Lex p C os
  g0 : (X.G 0).seg ≤ (X.H 0).next
  hN : ∀ o ∈ ops, ∀ d, o.dst = some d → d < N

variable {C : Caller} {ops : Array Oper} {os : List AOper} {bb : Array Nat} {l : List (AOp × Nat)} {N : Nat}

theorem Ctx.pair (c : Ctx P p C ops os bb l N) {i : Nat} {ao : AOper} (h : os[i]? = some ao) : ∃ o, ops[i]? = some o ∧ CompO P o.op ao.op ∧ ao.dst = o.dst ∧ guardOf ops o.guard = some ao.guard ∧ ao.cls = clsOf bb l ao.op i ∧ (ao.op, i) ∈ l := by
  have hi : i < os.length := (List.getElem?_eq_some_iff.1 h).1
  have hi' : i < ops.size := by rw [← c.reg.len]; exact hi
  obtain ⟨ao', h1, h2⟩ := c.reg.at_ i ops[i] (by simp [hi'])
  rw [h] at h1; cases h1
  exact ⟨ops[i], by simp [hi'], h2⟩
theorem Ctx.sl (c : Ctx P p C ops os bb l N) (i : Nat) (o : AOper) (h : os[i]? = some o) (hv : isV o.op = false) (hc : o.cls = .sload) : isLoadOp o.op = true := by
  obtain ⟨_, _, _, _, _, h5, _⟩ := c.pair h
  exact cls_sload h5 hv hc
theorem Ctx.st (c : Ctx P p C ops os bb l N) (i : Nat) (o : AOper) (h : os[i]? = some o) (hv : isV o.op = false) (hc : o.cls = .st1) : isStoreOp o.op = true := by
  obtain ⟨_, _, _, _, _, h5, _⟩ := c.pair h
  exact (cls_semi h5 hv (.inr hc)).2.2 hc
theorem Ctx.ord (c : Ctx P p C ops os bb l N) {i j : Nat} {x y : AOper} (hx : os[i]? = some x) (hy : os[j]? = some y) (hb : x.bar = true) (hne : i ≠ j) (hv : isV y.op = false) (hc : x.isFull = true ∨ y.cls ≠ .sload) : ordered bb i j = true := by
  obtain ⟨_, _, _, _, _, h5, h6⟩ := c.pair hx
  obtain ⟨_, _, _, _, _, q5, q6⟩ := c.pair hy
  exact bar_ord h5 h6 q5 q6 hb hne hv hc
theorem Ctx.scope (c : Ctx P p C ops os bb l N) : (∀ i o, ops[i]? = some o → ∀ e ∈ o.after.toList, Region.binds .any e = true → e.on < i) ∧
    (∀ (i j : Nat) (x y : AOper) (t : Nat), os[i]? = some x → os[j]? = some y → t ∈ readsOf x → y.dst = some t → i = j ∨ ordered bb i j = true) ∧
    (∀ (i j : Nat) (x y : AOper) (d : Nat), os[i]? = some x → os[j]? = some y → x.dst = some d → y.dst = some d → i = j) := by
  have h := c.reg.scope
  unfold scopeOK at h
  rw [Bool.and_eq_true, List.all_eq_true, List.all_eq_true] at h
  obtain ⟨h1, h2⟩ := h
  refine ⟨fun i o ho e he hb => ?_, fun i j x y t hx hy ht hd => ?_, fun i j x y d hx hy hxd hyd => ?_⟩
  · have := h1 (o, i) (List.mem_iff_getElem?.2 ⟨i, by simp [List.getElem?_zipIdx, ho]⟩)
    rw [List.all_eq_true] at this
    simpa [hb] using this e he
  · have := h2 (x, i) (List.mem_iff_getElem?.2 ⟨i, by simp [List.getElem?_zipIdx, hx]⟩)
    rw [Bool.and_eq_true] at this
    have := List.all_eq_true.1 this.1 t ht
    have := List.all_eq_true.1 this (y, j) (List.mem_iff_getElem?.2 ⟨j, by simp [List.getElem?_zipIdx, hy]⟩)
    unfold ordered
    rw [hd] at this
    simp only [bne_self_eq_false, Bool.false_or, Bool.or_eq_true, beq_iff_eq] at this
    exact this
  · have := h2 (x, i) (List.mem_iff_getElem?.2 ⟨i, by simp [List.getElem?_zipIdx, hx]⟩)
    rw [Bool.and_eq_true] at this
    have := this.2
    simp only [hxd, Option.isNone_some, Bool.false_or] at this
    have := List.all_eq_true.1 this (y, j) (List.mem_iff_getElem?.2 ⟨j, by simp [List.getElem?_zipIdx, hy]⟩)
    simpa [hyd] using this

/-- The run in the order of the text, on some world. -/
theorem Ctx.hyp (c : Ctx P p C ops os bb l N) {B0 : Nat} {w0 : World} {φ0 : Phi} {w : World} {a : Act} (hR : RR P p B0 w0 φ0 (c.X.H 0) w) (hE : EnvR φ0 N (c.X.E 0) a.tmps) : ∀ i, i ≤ os.length →
    ∃ (φi : Phi) (wi : World) (ai : Act), RR P p B0 w0 φi (c.X.H i) wi ∧ EnvR φi N (c.X.E i) ai.tmps ∧ Ext φ0 φi (c.X.H 0) (c.X.H i)
  | 0, _ => ⟨φ0, w, a, hR, hE, Ext.refl _ _⟩
  | i + 1, hi => by
    obtain ⟨φi, wi, ai, h1, h2, h3⟩ := Ctx.hyp c hR hE i (by omega)
    have hoi := List.getElem?_eq_getElem (show i < os.length by omega)
    obtain ⟨o, p1, p2, p3, p4, p5, p6⟩ := c.pair hoi
    obtain ⟨φ', w', v', q1, q2, q3, q4⟩ := exec_at (b := default) (k := []) (cs := []) (rest := []) c.hP (c.hC B0 w0) c.hF p1 p2 p3 p4 h2 h1 (c.X.seg_le c.hF c.g0 i (by omega)) (c.X.step i _ hoi)
    refine ⟨φ', w', ai.put o.dst v', q4, ?_, h3.trans q3⟩
    rw [c.X.env i _ hoi, p3]
    exact (h2.mono q3.le).put (c.hN o (Array.mem_of_getElem? p1)) q2

/-- How things stand when the operations of S have been done. -/
structure Inv (c : Ctx P p C ops os bb l N) (B0 : Nat) (w0 : World) (φ0 : Phi) (a0 : Act) (S : Nat → Prop) (k : Nat) (φ : Phi) (w : World) (a : Act) : Prop where
  kn : k ≤ os.length
  low : ∀ j o, j < k → os[j]? = some o → o.bar = true → S j
  top : ∀ o, os[k]? = some o → o.bar = true ∧ ¬ S k
  r : RR P p B0 w0 φ (c.X.H k) w
  le : φ0.le φ
  new : ∀ m pl, φ m = some pl → φ0 m = some pl ∨ ((c.X.H 0).next ≤ m ∧ ∃ j, S j ∧ (c.X.H j).next ≤ m ∧ m < (c.X.H (j + 1)).next)
  full : ∀ j, S j → ∀ m, (c.X.H j).next ≤ m → m < (c.X.H (j + 1)).next → φ m ≠ none
  size : a.tmps.size = N
  out : ∀ t, (∀ (j : Nat) (o : AOper), S j → os[j]? = some o → o.dst ≠ some t) → VR φ ((c.X.E 0).get t) (a.tmps.getD t undef)
  val : ∀ (j : Nat) (o : AOper) t, S j → os[j]? = some o → o.dst = some t → VR φ (c.X.V j) (a.tmps.getD t undef)
  defs : a.defers = a0.defers
  closed : ∀ i j, S i → (bb.getD i 0).testBit j = true → S j
  dom : ∀ i, S i → i < os.length
  fzn : ∀ b o cs, φ.fz b o cs → φ0.fz b o cs ∨ φ0.base ≤ b

variable {B0 : Nat} {w0 : World} {φ0 : Phi} {a0 : Act} {S : Nat → Prop} {k : Nat} {φ : Phi} {w : World} {a : Act}

theorem ord_back (hcl : ∀ i j, S i → (bb.getD i 0).testBit j = true → S j) {i j : Nat} (ho : ordered bb i j = true) (hlt : j < i) (hi : S i) : S j := by
  unfold ordered at ho
  rw [if_pos hlt] at ho
  exact hcl i j hi ho

/-- Nothing that stands apart has been done from k on. -/
theorem Inv.above {c : Ctx P p C ops os bb l N} (h : Inv c B0 w0 φ0 a0 S k φ w a) {j : Nat} {o : AOper} (hk : k ≤ j) (ho : os[j]? = some o) (hv : isV o.op = false) (hc : o.cls ≠ .sload) : ¬ S j := by
  intro hj
  have hjl := (List.getElem?_eq_some_iff.1 ho).1
  have hok := List.getElem?_eq_getElem (show k < os.length by omega)
  obtain ⟨hb, hnk⟩ := h.top _ hok
  by_cases e : k = j
  · subst e; exact hnk hj
  · have hord := c.ord hok ho hb e hv (.inr hc)
    rw [ordered_comm e] at hord
    exact hnk (ord_back h.closed hord (by omega) hj)

/-- What an operation that is ready reads. -/
theorem Inv.envR {c : Ctx P p C ops os bb l N} (h : Inv c B0 w0 φ0 a0 S k φ w a) {i : Nat} {o : AOper} (ho : os[i]? = some o) (hns : ¬ S i) (hb : ∀ j, (bb.getD i 0).testBit j = true → S j) :
    EnvR φ N (Env.keep (readsOf o) (c.X.E i)) a.tmps := by
  obtain ⟨_, sc2, sc3⟩ := c.scope
  have hil := (List.getElem?_eq_some_iff.1 ho).1
  refine ⟨h.size, fun t => ?_⟩
  by_cases ht : t ∈ readsOf o
  · rw [keep_mem _ _ _ ht]
    by_cases hex : ∃ (j : Nat) (y : AOper), os[j]? = some y ∧ y.dst = some t
    · obtain ⟨j, y, hy, hd⟩ := hex
      by_cases hSj : S j
      · have hij : i ≠ j := fun e => hns (e ▸ hSj)
        have hord := (sc2 i j o y t ho hy ht hd).resolve_left hij
        have hlt : j < i := by
          rcases Nat.lt_or_ge j i with h1 | h1
          · exact h1
          · rw [ordered_comm hij] at hord
            exact absurd (ord_back h.closed hord (by omega) hSj) hns
        rw [c.X.env_val sc3 hy hd i (by omega) hlt]
        exact h.val j y t hSj hy hd
      · have hge : i ≤ j := by
          rcases Nat.lt_or_ge j i with h1 | h1
          · have hord := (sc2 i j o y t ho hy ht hd).resolve_left (by omega)
            unfold ordered at hord
            rw [if_pos h1] at hord
            exact absurd (hb j hord) hSj
          · exact h1
        rw [c.X.env_keep t i (by omega) fun j' y' hj' hy' e => by
          have := sc3 j j' y y' t hy hy' hd e
          omega]
        refine h.out t fun j' y' hS' hy' e => ?_
        have := sc3 j j' y y' t hy hy' hd e
        subst this
        exact hSj hS'
    · have hno : ∀ (j : Nat) (y : AOper), os[j]? = some y → y.dst ≠ some t := fun j y hy hd => hex ⟨j, y, hy, hd⟩
      rw [c.X.env_keep t i (by omega) fun j y _ hy => hno j y hy]
      exact h.out t fun j y _ hy => hno j y hy
  · have : (Env.keep (readsOf o) (c.X.E i)).get t = .undef := by
      have gen : ∀ ks : List Nat, t ∉ ks → (Env.keep ks (c.X.E i)).get t = .undef := by
        intro ks
        induction ks with
        | nil => intro _; rfl
        | cons q ks ih =>
          intro hq
          show (if q = t then (c.X.E i).get q else (Env.keep ks (c.X.E i)).get t) = .undef
          rw [if_neg (fun e => hq (by rw [e]; exact List.mem_cons_self ..))]
          exact ih fun hin => hq (List.mem_cons_of_mem _ hin)
      exact gen _ ht
    rw [this]; exact .undef _
theorem Ctx.same (c : Ctx P p C ops os bb l N) {i : Nat} {o : AOper} (σ : AH) (s : Seg) : dstep p C o (Env.keep (readsOf o) (c.X.E i)) σ s = dstep p C o (c.X.E i) σ s := dstep_env fun t ht => keep_mem _ _ _ ht

/-- One more has been done. -/
theorem Inv.next {c : Ctx P p C ops os bb l N} (h : Inv c B0 w0 φ0 a0 S k φ w a) {i : Nat} {o : Oper} {ao : AOper} (ho : os[i]? = some ao) (hi : ¬ S i) (hb : ∀ j, (bb.getD i 0).testBit j = true → S j) (hdst : ao.dst = o.dst) (hop : ops[i]? = some o)
    {k' : Nat} {φ' : Phi} {w' : World} {v' : Value} (kn : k' ≤ os.length) (low : ∀ j o, j < k' → os[j]? = some o → o.bar = true → S j ∨ j = i) (top : ∀ o, os[k']? = some o → o.bar = true ∧ ¬ (S k' ∨ k' = i))
    (r : RR P p B0 w0 φ' (c.X.H k') w') (le : φ.le φ') (hv : VR φ' (c.X.V i) v') (new : ∀ m pl, φ' m = some pl → φ m = some pl ∨ ((c.X.H i).next ≤ m ∧ m < (c.X.H (i + 1)).next))
    (full : ∀ m, (c.X.H i).next ≤ m → m < (c.X.H (i + 1)).next → φ' m ≠ none) (fzn : ∀ b o cs, φ'.fz b o cs → φ.fz b o cs ∨ φ.base ≤ b) : Inv c B0 w0 φ0 a0 (fun j => S j ∨ j = i) k' φ' w' (a.put o.dst v') := by
  obtain ⟨_, _, sc3⟩ := c.scope
  have hil := (List.getElem?_eq_some_iff.1 ho).1
  have get_other : ∀ t, o.dst ≠ some t → (a.put o.dst v').tmps.getD t undef = a.tmps.getD t undef := by
    intro t ht
    cases hd : o.dst with
    | none => rfl
    | some d =>
      have : d ≠ t := fun e => ht (by rw [hd, e])
      simp [Act.put, Array.getD_eq_getD_getElem?, Array.getElem?_setIfInBounds, this]
  refine ⟨kn, low, top, r, Phi.le_trans h.le le, ?_, ?_, ?_, ?_, ?_, ?_, ?_, ?_, fun b o cs e => ?_⟩
  · intro m pl e
    rcases new m pl e with e | ⟨e1, e2⟩
    · rcases h.new m pl e with e | ⟨e1, j, e2, e3⟩
      · exact .inl e
      · exact .inr ⟨e1, j, .inl e2, e3⟩
    · exact .inr ⟨Nat.le_trans (c.X.next c.hF i (Nat.zero_le _) (by omega)) e1, i, .inr rfl, e1, e2⟩
  · rintro j (hj | rfl) m h1 h2
    · intro e
      cases e2 : φ m with
      | none => exact h.full j hj m h1 h2 e2
      | some pl => rw [le m pl e2] at e; cases e
    · exact full m h1 h2
  · rw [← h.size]; cases o.dst <;> simp [Act.put]
  · intro t ht
    rw [get_other t (by rw [← hdst]; exact ht i ao (.inr rfl) ho)]
    exact (h.out t fun j y hj => ht j y (.inl hj)).mono le
  · rintro j y t (hj | rfl) hy hd
    · have hne : o.dst ≠ some t := by
        rw [← hdst]
        intro e
        have := sc3 i j ao y t ho hy e hd
        subst this
        exact hi hj
      rw [get_other t hne]
      exact (h.val j y t hj hy hd).mono le
    · rw [ho] at hy
      cases hy
      rw [hdst] at hd
      have htN : t < N := c.hN o (Array.mem_of_getElem? hop) t hd
      have : (a.put o.dst v').tmps.getD t undef = v' := by
        rw [hd]
        have : t < a.tmps.size := by rw [h.size]; exact htN
        simp [Act.put, Array.getD_eq_getD_getElem?, this]
      rw [this]; exact hv
  · rw [put_defers]; exact h.defs
  · rintro i' j (hi' | rfl) hbit
    · exact .inl (h.closed i' j hi' hbit)
    · exact .inl (hb j hbit)
  · rintro j (hj | rfl)
    · exact h.dom j hj
    · exact hil
  · rcases fzn b o cs e with e | e
    · exact h.fzn b o cs e
    · rw [h.le.base] at e; exact .inr e

end
end Go.Oct
end
/- Regions whose order is open: one operation more, in whatever order; and all of them. -/
section
set_option linter.unusedVariables false
set_option linter.unusedSimpArgs false
set_option linter.unusedSectionVars false
namespace Go.Oct
variable [Gl]
open Go.RowKit

section
variable {P : Program} {p : AProg} {C : Caller} {ops : Array Oper} {os : List AOper} {bb : Array Nat} {l : List (AOp × Nat)} {N : Nat} {c : Ctx P p C ops os bb l N}
variable {B0 : Nat} {w0 : World} {φ0 : Phi} {a0 : Act} {S : Nat → Prop} {k : Nat} {φ : Phi} {w : World} {a : Act}

theorem next_bar (os : List AOper) : ∀ (d m : Nat), m + d = os.length → ∃ k, m ≤ k ∧ k ≤ os.length ∧ (∀ j o, m ≤ j → j < k → os[j]? = some o → o.bar = false) ∧ (∀ o, os[k]? = some o → o.bar = true)
  | 0, m, h => ⟨m, Nat.le_refl _, by omega, fun j o h1 h2 => by omega, fun o ho => by
    have := (List.getElem?_eq_some_iff.1 ho).1
    omega⟩
  | d + 1, m, h => by
    have hm : m < os.length := by omega
    by_cases hb : os[m].bar = true
    · exact ⟨m, Nat.le_refl _, by omega, fun j o h1 h2 => by omega, fun o ho => by
        rw [List.getElem?_eq_getElem hm] at ho
        rw [← Option.some.inj ho]; exact hb⟩
    · obtain ⟨k, h1, h2, h3, h4⟩ := next_bar os d (m + 1) (by omega)
      refine ⟨k, by omega, h2, fun j o q1 q2 ho => ?_, h4⟩
      by_cases e : j = m
      · subst e
        rw [List.getElem?_eq_getElem hm] at ho
        rw [← Option.some.inj ho]; simpa using hb
      · exact h3 j o (by omega) q2 ho

/-- What holds of the first that stands apart, when one has been done that does not. -/
theorem Inv.still (h : Inv c B0 w0 φ0 a0 S k φ w a) {i : Nat} {ao : AOper} (ho : os[i]? = some ao) (hb : ao.bar = false) :
    (∀ j o, j < k → os[j]? = some o → o.bar = true → S j ∨ j = i) ∧ (∀ o, os[k]? = some o → o.bar = true ∧ ¬ (S k ∨ k = i)) := by
  refine ⟨fun j o hj hoj hbj => .inl (h.low j o hj hoj hbj), fun o hok => ⟨(h.top o hok).1, ?_⟩⟩
  rintro (hk | rfl)
  · exact (h.top o hok).2 hk
  · rw [ho] at hok
    cases hok
    rw [(h.top ao ho).1] at hb
    cases hb

/-- An operation that only computes, or loads, at the heap of the time. -/
theorem Inv.pure (h : Inv c B0 w0 φ0 a0 S k φ w a) {i : Nat} {ao : AOper} {o : Oper} (ho : os[i]? = some ao) (hop : ops[i]? = some o) (hns : ¬ S i) (hb : ∀ j, (bb.getD i 0).testBit j = true → S j) (hbar : ao.bar = false)
    (hc : CompO P o.op ao.op) (hdst : ao.dst = o.dst) (hg : guardOf ops o.guard = some ao.guard) (hw : wantedA (Env.keep (readsOf ao) (c.X.E i)) ao.guard = some true)
    (hv : aop p C (Opd.ev (Env.keep (readsOf ao) (c.X.E i))) (c.X.H k) ao.op = some (c.X.V i, c.X.H k)) (hH : c.X.H (i + 1) = c.X.H i) (b : Frame) (kk : List Item) (cs : List Frame) (rest : List Nat) :
    ∃ k' φ' w' a', Steps P (lone (b.atR a (.inRegion ops (i :: rest) :: kk)) cs w) (lone (b.atR a' (.inRegion ops rest :: kk)) cs w') ∧ Inv c B0 w0 φ0 a0 (fun j => S j ∨ j = i) k' φ' w' a' := by
  have hE := h.envR ho hns hb
  obtain ⟨φ', w', v', q1, q2, q3, q4⟩ := op_stepC (b := b) (k := kk) (cs := cs) (rest := rest) c.hP (c.hC B0 w0) hc hE h.r hv hop (wanted_ok hE hg hw)
  obtain ⟨s1, s2⟩ := h.still ho hbar
  refine ⟨k, φ', w', _, q1, h.next ho hns hb hdst hop h.kn s1 s2 q4 q3.le q2 (fun m pl e => ?_) (fun m h1 h2 => ?_) q3.fzn⟩
  · rcases q3.new m pl e with e | e1
    · exact .inl e
    · have := (q4.dom m pl e).1
      omega
  · rw [hH] at h2; omega

theorem Inv.step (h : Inv c B0 w0 φ0 a0 S k φ w a) {ws : World} {as : Act} (hR0 : RR P p B0 w0 φ0 (c.X.H 0) ws) (hE0 : EnvR φ0 N (c.X.E 0) as.tmps) {i : Nat} (hi : i < os.length) (hns : ¬ S i) (hb : ∀ j, (bb.getD i 0).testBit j = true → S j)
    (b : Frame) (kk : List Item) (cs : List Frame) (rest : List Nat) :
    ∃ k' φ' w' a', Steps P (lone (b.atR a (.inRegion ops (i :: rest) :: kk)) cs w) (lone (b.atR a' (.inRegion ops rest :: kk)) cs w') ∧ Inv c B0 w0 φ0 a0 (fun j => S j ∨ j = i) k' φ' w' a' := by
  have hoi := List.getElem?_eq_getElem hi
  generalize hao : os[i] = ao at hoi
  obtain ⟨o, hop, hc, hdst, hg, _, _⟩ := c.pair hoi
  have hE := h.envR hoi hns hb
  have hst := c.X.step i ao hoi
  have hst' : dstep p C ao (Env.keep (readsOf ao) (c.X.E i)) (c.X.H i) (c.X.G i) = some (c.X.V i, c.X.H (i + 1), c.X.G (i + 1)) := by rw [c.same]; exact hst
  by_cases hbar : ao.bar = true
  · have hik : i = k := by
      rcases Nat.lt_trichotomy i k with hlt | e | hgt
      · exact absurd (h.low i ao hlt hoi hbar) hns
      · exact e
      · exfalso
        have hok := List.getElem?_eq_getElem (show k < os.length by omega)
        obtain ⟨hbk, hnk⟩ := h.top _ hok
        have hord := c.ord hok hoi hbk (by omega) (bar_not_v hbar) (.inr (bar_not_sload hbar))
        unfold ordered at hord
        rw [if_neg (by omega)] at hord
        exact hnk (hb k hord)
    subst hik
    obtain ⟨φ', w', v', q1, q2, q3, q4⟩ := exec_at (b := b) (k := kk) (cs := cs) (rest := rest) c.hP (c.hC B0 w0) c.hF hop hc hdst hg hE h.r (c.X.seg_le c.hF c.g0 i (by omega)) hst'
    obtain ⟨k', m1, m2, m3, m4⟩ := next_bar os (os.length - (i + 1)) (i + 1) (by omega)
    have hr : RR P p B0 w0 φ' (c.X.H k') w' := R.later q4 (fun m hm => c.X.quiets c.hF c.sl m hm k' m1 m2 m3) (c.X.next c.hF k' m1 m2) (by rw [c.X.lim c.hF k' m2, c.X.lim c.hF (i + 1) (by omega)])
    refine ⟨k', φ', w', _, q1, h.next hoi hns hb hdst hop m2 (fun j o' hj hoj hbj => ?_) (fun o' hok => ⟨m4 o' hok, ?_⟩) hr q3.le q2 (fun m pl e => ?_) q3.full q3.fzn⟩
    · rcases Nat.lt_trichotomy j i with hlt | e | hgt
      · exact .inl (h.low j o' hlt hoj hbj)
      · exact .inr e
      · rw [m3 j o' (by omega) hj hoj] at hbj; cases hbj
    · rintro (hk | rfl)
      · exact h.above (by omega) hok (bar_not_v (m4 o' hok)) (bar_not_sload (m4 o' hok)) hk
      · omega
    · rcases q3.new m pl e with e1 | e1
      · exact .inl e1
      · exact .inr ⟨e1, (q4.dom m pl e).1⟩
  · have hbar : ao.bar = false := by simpa using hbar
    have hst2 := hst'
    unfold dstep at hst2
    split at hst2
    · -- passed over
      rename_i hw
      simp only [Option.some.injEq, Prod.mk.injEq] at hst2
      obtain ⟨e1, e2, _⟩ := hst2
      have hskip : ((ops[i]?).map (Region.wanted · (yielded ops a.tmps))).getD false = false := by
        rw [hop]; exact wanted_ok hE hg hw
      have s1 := stepR_op_skip (P := P) (b := b) (a := a) (k := kk) (cs := cs) (w := w) (rest := rest) hskip
      rw [hop] at s1
      obtain ⟨z1, z2⟩ := h.still hoi hbar
      refine ⟨k, φ, w, _, .one s1, h.next hoi hns hb hdst hop h.kn z1 z2 h.r φ.le_refl (by rw [← e1]; exact VR.skip _) (fun m pl e => .inl e) (fun m h1 h2 => ?_) (fun _ _ _ e => .inl e)⟩
      rw [← e2] at h2; omega
    · cases hst2
    · rename_i hw
      split at hst2
      · rename_i hv
        split at hst2
        · rename_i v1 σ1 h1
          simp only [Option.some.injEq, Prod.mk.injEq] at hst2
          obtain ⟨e1, e2, _⟩ := hst2
          rw [e1] at h1
          exact h.pure hoi hop hns hb hbar hc hdst hg hw (v_same hv h1 _).1 e2.symm b kk cs rest
        · cases hst2
      · rename_i hv
        have hv' : isV ao.op = false := by simpa using hv
        split at hst2
        · rename_i hcl; simp [AOper.bar, hv', hcl] at hbar
        · rename_i hcl; simp [AOper.bar, hv', hcl] at hbar
        · -- one that looks at nothing that may change
          rename_i hcl
          split at hst2
          · rename_i v1 σ1 h1
            simp only [Option.some.injEq, Prod.mk.injEq] at hst2
            obtain ⟨e1, e2, _⟩ := hst2
            rw [e1] at h1
            have e2 : ∀ m, (c.X.H (i + 1)).get m = σ1.get m := fun m => by rw [← e2]; rfl
            have e3 : (c.X.H (i + 1)).next = σ1.next := by
              have := hst'
              unfold dstep at this
              rw [hw] at this
              simp only [hv', hcl, Bool.false_eq_true, if_false, h1, Option.some.injEq, Prod.mk.injEq] at this
              rw [← this.2.1]
            have hik : i < k := by
              rcases Nat.lt_trichotomy i k with hlt | e | hgt
              · exact hlt
              · subst e
                rw [(h.top ao hoi).1] at hbar; cases hbar
              · exfalso
                have hok := List.getElem?_eq_getElem (show k < os.length by omega)
                obtain ⟨hbk, hnk⟩ := h.top _ hok
                have hord := c.ord hok hoi hbk (by omega) hv' (.inr (by rw [hcl]; simp))
                unfold ordered at hord
                rw [if_neg (by omega)] at hord
                exact hnk (hb k hord)
            have nobar : ∀ j o', i ≤ j → j < k → os[j]? = some o' → o'.bar = false := by
              intro j o' h1 h2 hoj
              by_cases e : i = j
              · subst e; rw [hoi] at hoj; cases hoj; exact hbar
              · cases hbj : o'.bar with
                | false => rfl
                | true =>
                  exfalso
                  have hSj := h.low j o' h2 hoj hbj
                  have hord := c.ord hoj hoi hbj (Ne.symm e) hv' (.inr (by rw [hcl]; simp))
                  exact hns (ord_back h.closed hord (by omega) hSj)
            have kl := h.kn
            have g1 : ∀ m, m < (c.X.H i).next → (c.X.H k).get m = (c.X.H i).get m := fun m hm => c.X.quiets c.hF c.sl m hm k (by omega) kl nobar
            have g2 : ∀ m, m < (c.X.H (i + 1)).next → (c.X.H k).get m = (c.X.H (i + 1)).get m := fun m hm => c.X.quiets c.hF c.sl m hm k (by omega) kl fun j o' q1 q2 => nobar j o' (by omega) q2
            obtain ⟨φi, wi, ai, x1, x2, x3⟩ := c.hyp hR0 hE0 i (by omega)
            have hund : φi.under (c.X.H i).next := fun m pl e => (x1.dom m pl e).1
            have hphi : ∀ m pl, m < (c.X.H i).next → φ m = some pl → ∃ pl', φi m = some pl' := by
              intro m pl hm e
              rcases h.new m pl e with e | ⟨e, _⟩
              · exact ⟨pl, x3.le m pl e⟩
              · cases hq : φi m with
                | some pl' => exact ⟨pl', rfl⟩
                | none => exact absurd hq (x3.full m e hm)
            have hRc : RR P p w.heap.size w ((φ.cut (c.X.H i).next).re w.heap.size) { c.X.H i with lim := (c.X.H i).next } w := by
              refine ⟨Below.refl _ _, Nat.le_refl _, fun m pl e => ?_, fun m pl e => ?_, fun m pl o' e hl hgm hm => ?_, rfl, fun b' o' cs' e => ?_⟩
              · obtain ⟨y1, y2⟩ := Phi.cut_some (φ := φ) e
                exact ⟨y1, (h.r.dom m pl y2).2⟩
              · obtain ⟨y1, y2⟩ := Phi.cut_some (φ := φ) e
                obtain ⟨ob, u1, u2⟩ := h.r.obj m pl y2
                obtain ⟨pl', u3⟩ := hphi m pl y1 y2
                obtain ⟨ob', u4, u5⟩ := x1.obj m pl' u3
                rw [g1 m y1, u4] at u1
                cases u1
                exact ⟨ob, u4, OR.mono0 (φ := φ.cut (c.X.H i).next) (φ' := (φ.cut (c.X.H i).next).re w.heap.size) (fun _ _ h => h) (fun _ _ _ h => h) (u2.restrict hund u5)⟩
              · obtain ⟨y1, y2⟩ := Phi.cut_some (φ := φ) e
                have : (c.X.H i).next ≤ m := hl
                omega
              · obtain ⟨y1, ⟨cc, tt, ff, y2, y3⟩, y4⟩ := h.r.frz b' o' cs' e
                refine ⟨y1, ⟨cc, tt, ff, y2, FzK.ok.mono0 (φ := φ.bare) (φ' := ((φ.cut (c.X.H i).next).re w.heap.size).bare) (fun _ _ h => h) (fun _ _ _ h => h) y3⟩, fun m pl ob em hgm hm => ?_⟩
                · obtain ⟨z1, z2⟩ := Phi.cut_some (φ := φ) em
                  exact y4 m pl ob z2 (by rw [g1 m z1]; exact hgm) hm
            have hEc : EnvR ((φ.cut (c.X.H i).next).re w.heap.size) N (Env.keep (readsOf ao) (c.X.E i)) a.tmps := (hE.restrict hund (x2.keep _)).re
            obtain ⟨φ1, w1, v1', q1, q2, q3, q4⟩ := op_stepC (b := b) (k := kk) (cs := cs) (rest := rest) c.hP (c.hC w.heap.size w) hc hEc hRc h1 hop (wanted_ok hE hg hw)
            have hfz := fz_op c.hF h1
            have hfree : ∀ m, (c.X.H i).next ≤ m → m < σ1.next → φ m = none := by
              intro m hm1 hm2
              cases hq : φ m with
              | none => rfl
              | some pl =>
                exfalso
                rcases h.new m pl hq with e | ⟨_, j, hj, z1, z2⟩
                · have := (hR0.dom m pl e).1
                  have := c.X.next c.hF (i := 0) i (Nat.zero_le _) (by omega)
                  omega
                · have hjl := h.dom j hj
                  rcases Nat.lt_trichotomy j i with hlt | e | hgt
                  · have := c.X.next c.hF (i := j + 1) i (by omega) (by omega)
                    omega
                  · subst e; exact hns hj
                  · have := c.X.next c.hF (i := i + 1) j (by omega) (by omega)
                    omega
            obtain ⟨j1, j2, j3⟩ := R.join (σi := c.X.H i) h.r q4 q3.le q3.new hfree (by rw [hfz.lim]; exact Nat.le_refl _)
              (fun m hm => by rw [g2 m (by rw [e3]; exact hm), e2]) (by rw [← e3]; exact c.X.next c.hF k (by omega) kl) (fun b' o' cs' e => q3.fzn b' o' cs' e)
            obtain ⟨s1, s2⟩ := h.still hoi hbar
            refine ⟨k, _, w1, _, q1, h.next hoi hns hb hdst hop kl s1 s2 j1 j2 (q2.mono0 j3 (fun _ _ _ h => h)) (fun m pl e => ?_) (fun m z1 z2 => ?_) (fun b' o' cs' e => ?_)⟩
            · have e : (φ m).or (φ1 m) = some pl := e
              cases hq : φ m with
              | some pl' => rw [hq] at e; exact .inl (by simpa using e)
              | none =>
                rw [hq] at e
                have e : φ1 m = some pl := by simpa using e
                rcases q3.new m pl e with e4 | e4
                · rw [(Phi.cut_some (φ := φ) e4).2] at hq; cases hq
                · exact .inr ⟨e4, by rw [e3]; exact (q4.dom m pl e).1⟩
            · have := q3.full m z1 (by rw [← e3]; exact z2)
              intro e
              cases hq : φ1 m with
              | none => exact this hq
              | some pl =>
                have e5 : (φ m).or (φ1 m) = some pl := j3 m pl hq
                have e6 : (φ m).or (φ1 m) = none := e
                rw [e6] at e5; cases e5
            · have hsz := h.r.size
              have hbs := h.r.base
              rcases q3.fzn b' o' cs' e with e | e
              · exact .inl e
              · have e : w.heap.size ≤ b' := e
                exact .inr (by omega)
          · cases hst2
        · -- a load that floats
          rename_i hcl
          have hw' : wantedA (c.X.E i) ao.guard = some true := by
            have := hw
            unfold wantedA at this ⊢
            cases hgd : ao.guard with
            | none => rfl
            | some g =>
              obtain ⟨t, wnt⟩ := g
              rw [hgd] at this
              simp only at this ⊢
              rw [keep_mem] at this
              · exact this
              · unfold readsOf; rw [hgd]; exact List.mem_cons_self ..
          have hreads : ∀ t ∈ tmpsOf (opdsA ao.op), (Env.keep (readsOf ao) (c.X.E i)).get t = (c.X.E i).get t := fun t ht => keep_mem _ _ _ (by
            unfold readsOf
            split
            · exact List.mem_cons_of_mem _ ht
            · exact ht)
          rcases c.X.sload hoi (c.sl i ao hoi hv' hcl) hv' hcl hw' with ⟨ad, l1, l2, l3, l4, l5, l6⟩ | ⟨_, l5, l6⟩
          · have hsame : (c.X.H k).get ad = (c.X.H i).get ad := by
              obtain ⟨t1, t2⟩ := c.X.stay c.hF c.sl c.st c.g0 hi l2 l3 l4 l5
              by_cases hki : k ≤ i
              · refine t1 k hki fun j o' z1 z2 hoj => ?_
                cases hf : o'.isFull with
                | false => rfl
                | true =>
                  exfalso
                  have hord := c.ord hoj hoi (full_bar hf) (by omega) hv' (.inl hf)
                  unfold ordered at hord
                  rw [if_neg (by omega)] at hord
                  have hSj := hb j hord
                  exact h.above z1 hoj (bar_not_v (full_bar hf)) (bar_not_sload (full_bar hf)) hSj
              · refine t2 k (by omega) h.kn fun j o' z1 z2 hoj => ?_
                cases hf : o'.isFull with
                | false => rfl
                | true =>
                  exfalso
                  have hne : j ≠ i := by
                    intro e
                    subst e
                    rw [hoi] at hoj
                    cases hoj
                    rw [full_bar hf] at hbar; cases hbar
                  have hSj := h.low j o' z2 hoj (full_bar hf)
                  have hord := c.ord hoj hoi (full_bar hf) hne hv' (.inl hf)
                  exact hns (ord_back h.closed hord (by omega) hSj)
            have hat := load_at (c.sl i ao hoi hv' hcl) l1 hsame l6
            exact h.pure hoi hop hns hb hbar hc hdst hg hw (by rw [aop_env hreads]; exact hat) l5 b kk cs rest
          · exact h.pure hoi hop hns hb hbar hc hdst hg hw (by rw [aop_env hreads]; exact l6 _) l5 b kk cs rest
        · rename_i hcl; simp [AOper.bar, hv', hcl] at hbar

theorem countP_dec {α : Type} (p q : α → Bool) : ∀ (l : List α), (∀ x ∈ l, q x = true → p x = true) → ∀ x ∈ l, p x = true → q x = false → l.countP q < l.countP p
  | [], _, x, hx, _, _ => by cases hx
  | y :: l, h, x, hx, hp, hq => by
    have hle : l.countP q ≤ l.countP p := List.countP_mono_left fun z hz => h z (List.mem_cons_of_mem _ hz)
    rw [List.countP_cons, List.countP_cons]
    rcases List.mem_cons.1 hx with e | hx
    · subst e
      simp only [hp, hq, if_true, Bool.false_eq_true, if_false]
      omega
    · have := countP_dec p q l (fun z hz => h z (List.mem_cons_of_mem _ hz)) x hx hp hq
      have hy := h y (List.mem_cons_self ..)
      cases hqy : q y with
      | true => simp only [hy hqy, if_true]; omega
      | false => simp only [Bool.false_eq_true, if_false]; omega

theorem getD_true {listed : Array Bool} {n i : Nat} (hs : listed.size = n) (hi : i < n) : listed.getD i true = listed.getD i false := by
  have : i < listed.size := by omega
  simp [Array.getD_eq_getD_getElem?, this]
theorem getD_set {listed : Array Bool} {n i j : Nat} (hs : listed.size = n) (hi : i < n) : (listed.setIfInBounds i true).getD j false = true ↔ listed.getD j false = true ∨ j = i := by
  have : i < listed.size := by omega
  by_cases e : j = i
  · subst e; simp [Array.getD_eq_getD_getElem?, this]
  · simp [Array.getD_eq_getD_getElem?, Array.getElem?_setIfInBounds, Ne.symm e, e]

/-- Every order. -/
theorem Inv.all {ws : World} {as : Act} (hR0 : RR P p B0 w0 φ0 (c.X.H 0) ws) (hE0 : EnvR φ0 N (c.X.E 0) as.tmps) (b : Frame) (kk : List Item) (cs : List Frame) :
    ∀ (fuel t : Nat) (listed : Array Bool) (k : Nat) (φ : Phi) (w : World) (a : Act), listed.size = ops.size → (List.range ops.size).countP (fun i => !listed.getD i true) ≤ fuel →
    Inv c B0 w0 φ0 a0 (fun j => listed.getD j false = true) k φ w a →
    ∃ k' φ' w' a', Steps P (lone (b.atR a (.inRegion ops (Region.linearise.go .any ops fuel t listed []) :: kk)) cs w) (lone (b.atR a' (.inRegion ops [] :: kk)) cs w') ∧ Inv c B0 w0 φ0 a0 (fun j => j < os.length) k' φ' w' a' := by
  have hlen := c.reg.len
  have fin : ∀ (listed : Array Bool) (k : Nat) (φ : Phi) (w : World) (a : Act), listed.size = ops.size → (∀ i, i < ops.size → listed.getD i false = true) → Inv c B0 w0 φ0 a0 (fun j => listed.getD j false = true) k φ w a → Inv c B0 w0 φ0 a0 (fun j => j < os.length) k φ w a := by
    intro listed k φ w a hs hall h
    have : (fun j => listed.getD j false = true) = (fun j => j < os.length) := by
      funext j
      refine propext ⟨fun hj => h.dom j hj, fun hj => hall j (by rw [← hlen]; exact hj)⟩
    rw [this] at h; exact h
  intro fuel
  induction fuel with
  | zero =>
    intro t listed k φ w a hs hc h
    refine ⟨k, φ, w, a, .refl _ _, fin listed k φ w a hs (fun i hi => ?_) h⟩
    have h0 : (List.range ops.size).countP (fun i => !listed.getD i true) = 0 := by omega
    have := List.countP_eq_zero.1 h0 i (List.mem_range.2 hi)
    rw [← getD_true hs hi]; simpa using this
  | succ fuel ih =>
    intro t listed k φ w a hs hc h
    simp only [Region.linearise.go]
    change ∃ k' φ' w' a', Steps P (lone (b.atR a (.inRegion ops (match (Region.ready .any ops listed)[t % (Region.ready .any ops listed).length]? with
      | some i => Region.linearise.go .any ops fuel (t / (Region.ready .any ops listed).length) (listed.setIfInBounds i true) [i]
      | none => [].reverse) :: kk)) cs w) _ ∧ _
    cases hi : (Region.ready .any ops listed)[t % (Region.ready .any ops listed).length]? with
    | none =>
      have hnil : Region.ready .any ops listed = [] := by
        cases hr : Region.ready .any ops listed with
        | nil => rfl
        | cons x xs =>
          rw [hr] at hi
          have hlt : t % (x :: xs).length < (x :: xs).length := Nat.mod_lt _ (by simp)
          simp at hi
          simp at hlt
          omega
      refine ⟨k, φ, w, a, .refl _ _, fin listed k φ w a hs ?_ h⟩
      intro i
      induction i using Nat.strongRecOn with
      | _ i ihi =>
        intro hin
        cases hg : listed.getD i false with
        | true => rfl
        | false =>
          exfalso
          have hmem : i ∈ Region.ready .any ops listed := by
            unfold Region.ready
            rw [List.mem_filter]
            refine ⟨List.mem_range.2 hin, ?_⟩
            rw [getD_true hs hin, hg]
            have ho : ops[i]? = some ops[i] := by simp [hin]
            rw [ho]
            simp only [Option.map_some, Option.getD_some, Bool.not_false, Bool.true_and]
            rw [← Array.all_toList, List.all_eq_true]
            intro e he
            by_cases hbn : Region.binds .any e = true
            · have := c.scope.1 i _ ho e he hbn
              simp only [hbn, Bool.not_true, Bool.false_or]
              exact ihi e.on this (by omega)
            · simp [hbn]
          rw [hnil] at hmem
          cases hmem
    | some i =>
      have hmem := List.mem_of_getElem? hi
      unfold Region.ready at hmem
      rw [List.mem_filter, Bool.and_eq_true] at hmem
      obtain ⟨hin, hun, hed⟩ := hmem
      have hin : i < ops.size := List.mem_range.1 hin
      have ho : ops[i]? = some ops[i] := by simp [hin]
      have hunl : listed.getD i false = false := by
        rw [← getD_true hs hin]; simpa using hun
      have hb : ∀ j, (bb.getD i 0).testBit j = true → listed.getD j false = true := by
        intro j hbit
        obtain ⟨o, h1, e, h2, h3, h4⟩ := c.reg.bits i j hbit
        rw [ho] at h1
        have h1 := Option.some.inj h1
        rw [ho] at hed
        simp only [Option.map_some, Option.getD_some] at hed
        rw [← Array.all_toList, List.all_eq_true] at hed
        rw [h1] at hed
        have hl := hed e h2
        simp only [h3, Bool.not_true, Bool.false_or] at hl
        rcases h4 with rfl | ⟨_, h4⟩
        · exact hl
        · exact h.closed _ _ hl h4
      simp only []
      rw [linearise_go_acc, List.reverse_singleton, List.singleton_append]
      obtain ⟨k1, φ1, w1, a1, s1, h1⟩ := h.step hR0 hE0 (i := i) (by omega) (by rw [hunl]; simp) hb b kk cs (Region.linearise.go .any ops fuel (t / (Region.ready .any ops listed).length) (listed.setIfInBounds i true) [])
      have heq : (fun j => listed.getD j false = true ∨ j = i) = (fun j => (listed.setIfInBounds i true).getD j false = true) := by
        funext j
        exact propext (getD_set hs hin).symm
      rw [heq] at h1
      have hs' : (listed.setIfInBounds i true).size = ops.size := by simpa using hs
      obtain ⟨k2, φ2, w2, a2, s2, h2⟩ := ih (t / (Region.ready .any ops listed).length) (listed.setIfInBounds i true) k1 φ1 w1 a1 hs' (by
        have := countP_dec (fun i => !listed.getD i true) (fun j => !(listed.setIfInBounds i true).getD j true) (List.range ops.size) (fun x hx hq => by
          have hx := List.mem_range.1 hx
          rw [getD_true hs' hx] at hq
          rw [getD_true hs hx]
          cases hg : listed.getD x false with
          | false => rfl
          | true =>
            have := (getD_set (j := x) hs hin).2 (.inl hg)
            rw [this] at hq; cases hq) i (List.mem_range.2 hin) hun (by
          rw [getD_true hs' hin]
          have := (getD_set (j := i) hs hin).2 (.inr rfl)
          rw [this]; rfl)
        omega) h1
      exact ⟨k2, φ2, w2, a2, s1.trans s2, h2⟩

theorem draw_ok {P : Program} {p : AProg} (hP : CompP P p) (hfol : P.follows .mixedOrders = true) {C : Caller} (hC : ∀ B0 w0, CallerOK P p B0 w0 C) (hF : FzC C) (B0 : Nat) (w0 : World) : DrawOK P p B0 w0 C := by
  intro ops os hcr N hN env env' σ σ' φ w a b k cs t hv hE hR
  obtain ⟨l, hreg⟩ := regOK hcr
  obtain ⟨X, e1, e2, e3, e4, e5⟩ := lex_of os env env' σ σ' _ hv
  let c : Ctx P p C ops os (Region.before ops) l N := ⟨hreg, hP, hC, hF, X, by rw [e2, e3]; exact Nat.le_refl _, hN⟩
  have hR0 : RR P p B0 w0 φ (c.X.H 0) w := by show RR P p B0 w0 φ (X.H 0) w; rw [e2]; exact hR
  have hE0 : EnvR φ N (c.X.E 0) a.tmps := by show EnvR φ N (X.E 0) a.tmps; rw [e1]; exact hE
  simp only [Region.schedule, hfol, Bool.true_or, if_true]
  obtain ⟨k0, m1, m2, m3, m4⟩ := next_bar os os.length 0 (by omega)
  have hnone : ∀ j, (Array.replicate ops.size false).getD j false = false := fun j => by
    by_cases hj : j < ops.size <;> simp [Array.getD_eq_getD_getElem?, hj]
  have h0 : Inv c B0 w0 φ a (fun j => (Array.replicate ops.size false).getD j false = true) k0 φ w a := by
    refine ⟨m2, fun j o hj ho hb => ?_, fun o ho => ⟨m4 o ho, by rw [hnone]; simp⟩, ?_, φ.le_refl, fun m pl e => .inl e, fun j hj => ?_, hE.size, fun t _ => hE0.get t, fun j o t hj => ?_, rfl, fun i j hi => ?_, fun i hi => ?_, fun _ _ _ e => .inl e⟩
    · rw [m3 j o (Nat.zero_le _) hj ho] at hb; cases hb
    · exact R.later hR0 (fun m hm => c.X.quiets c.hF c.sl m hm k0 m1 m2 m3) (c.X.next c.hF k0 m1 m2) (c.X.lim c.hF k0 m2)
    · rw [hnone] at hj; cases hj
    · rw [hnone] at hj; cases hj
    · rw [hnone] at hi; cases hi
    · rw [hnone] at hi; cases hi
  obtain ⟨k1, φ1, w1, a1, s1, h1⟩ := Inv.all hR0 hE0 b k cs ops.size t (Array.replicate ops.size false) k0 φ w a (by simp) (by
    have := List.countP_le_length (p := fun i => !(Array.replicate ops.size false).getD i true) (l := List.range ops.size)
    simpa using this) h0
  have hk1 : k1 = os.length := by
    by_cases hlt : k1 < os.length
    · exact absurd hlt (h1.top _ (List.getElem?_eq_getElem hlt)).2
    · have := h1.kn; omega
  subst hk1
  obtain ⟨_, _, sc3⟩ := c.scope
  have hr := h1.r
  refine ⟨φ1, w1, a1, s1, h1.defs, ⟨h1.size, fun t => ?_⟩, ⟨h1.le, fun m pl e => ?_, fun m q1 q2 => ?_, ?_, ?_, h1.fzn⟩, ?_⟩
  · rw [← e4]
    by_cases hex : ∃ (j : Nat) (y : AOper), os[j]? = some y ∧ y.dst = some t
    · obtain ⟨j, y, hy, hd⟩ := hex
      have hj := (List.getElem?_eq_some_iff.1 hy).1
      have := X.env_val sc3 hy hd os.length (Nat.le_refl _) hj
      rw [this]
      exact h1.val j y t hj hy hd
    · have hno : ∀ (j : Nat) (y : AOper), os[j]? = some y → y.dst ≠ some t := fun j y hy hd => hex ⟨j, y, hy, hd⟩
      have := X.env_keep t os.length (Nat.le_refl _) fun j y _ hy => hno j y hy
      rw [this]
      exact h1.out t fun j y _ hy => hno j y hy
  · rcases h1.new m pl e with e | ⟨e, _⟩
    · exact .inl e
    · exact .inr (by rw [← e2]; exact e)
  · rw [← e5] at q2
    rw [← e2] at q1
    obtain ⟨j, z1, z2, z3⟩ := X.part hF m os.length (Nat.le_refl _) q1 q2
    exact h1.full j z1 m z2 z3
  · rw [← e5, ← e2]; exact X.next hF os.length (Nat.zero_le _) (Nat.le_refl _)
  · rw [← e5, ← e2]; exact X.lim hF os.length (Nat.le_refl _)
  · rw [← e5]; exact hr

end
end Go.Oct
end
/- Calls from outside: all parts joined. -/
section
set_option linter.unusedVariables false
set_option linter.unusedSimpArgs false
set_option linter.unusedSectionVars false
namespace Go.Oct
variable [Gl]
open Go.RowKit

section
variable {P : Program} {p : AProg}

/-- What is known beforehand is so. -/
structure OracleOK (P : Program) (p : AProg) (O : Caller) : Prop where
  ok : ∀ B0 w0, CallerOK P p B0 w0 O
  fz : FzC O
theorem noO_ok : OracleOK P p noO := ⟨(fun B0 w0 t args σ v σ' h => by cases h), fz_noO⟩

theorem callers_ok (hP : CompP P p) (hfol : P.follows .mixedOrders = true) {O : Caller} (hO : OracleOK P p O) : ∀ n B0 w0, CallerOK P p B0 w0 (arun p O n)
  | 0, B0, w0 => hO.ok B0 w0
  | n + 1, B0, w0 => by
    have ih := callers_ok hP hfol hO n
    intro t args σ v σ' hv
    simp only [arun] at hv
    split at hv
    · rename_i h1
      rw [hv] at h1
      exact hO.ok B0 w0 t args σ v σ' h1
    · exact run1_ok hP ih (draw_ok hP hfol ih (fz_run p hO.fz n)) n t args σ v σ' hv

/-- A call from outside. -/
theorem run_calls (hP : CompP P p) (hfol : P.follows .mixedOrders = true) {O : Caller} (hO : OracleOK P p O) {B0 : Nat} {w0 : World} {n m f : Nat} {args : List AV} {σ : AH} {v : AV} {σ' : AH} (hv : arun1 p (arun p O n) m (.fn f) args σ = some (v, σ'))
    {φ : Phi} {w : World} {vs : List Value} (hR : RR P p B0 w0 φ σ w) (hA : VRL φ args vs) {Q : Ending → World → Prop}
    (hQ : ∀ φ' w' v', VR φ' v v' → Ext φ φ' σ σ' → RR P p B0 w0 φ' σ' w' → Q (.returned v') w') : Calls P f vs.toArray w Q := by
  have ih := callers_ok hP hfol hO n
  obtain ⟨_, h2⟩ := fn_sound hP ih (draw_ok hP hfol ih (fz_run p hO.fz n)) hv hR hA
  intro cs
  obtain ⟨φ', w', v', fr, h1, h2, h3, h4, h5, h6⟩ := h2 cs
  exact ⟨.returned v', w', fr, hQ _ _ _ h4 h5 h6, h1, h2, h3⟩

/-- What no one will write is given; no object is. -/
theorem rr_empty {w : World} {fz : Nat → Nat → FzK → Prop} {gl : ∀ g cs, Gl.tab g = some cs → fz g 0 (.av cs)} (h : ∀ b o cs, fz b o cs → b < w.heap.size ∧ ∃ c e fr, w.heap[b]? = some (.cells c e fr) ∧ cs.ok ⟨fun _ => none, fz, w.heap.size, gl⟩ c o) :
    RR P p w.heap.size w ⟨fun _ => none, fz, w.heap.size, gl⟩ ⟨0, 0, .leaf⟩ w :=
  ⟨Below.refl _ _, Nat.le_refl _, (fun i pl e => by cases e), (fun i pl e => by cases e), (fun i pl o e => by cases e), rfl, fun b o cs e => ⟨(h b o cs e).1, (h b o cs e).2, fun i pl ob e => by cases e⟩⟩
/-- A function that answers yes. -/
theorem run_yes (hP : CompP P p) (hfol : P.follows .mixedOrders = true) {O : Caller} (hO : OracleOK P p O) {n m f : Nat} {args : List AV} {σ' : AH} (hv : arun1 p (arun p O n) m (.fn f) args ⟨0, 0, .leaf⟩ = some (.bool true, σ')) {w : World}
    {fz : Nat → Nat → FzK → Prop} {gl : ∀ g cs, Gl.tab g = some cs → fz g 0 (.av cs)} (h : ∀ b o cs, fz b o cs → b < w.heap.size ∧ ∃ c e fr, w.heap[b]? = some (.cells c e fr) ∧ cs.ok ⟨fun _ => none, fz, w.heap.size, gl⟩ c o)
    {vs : List Value} (hA : VRL ⟨fun _ => none, fz, w.heap.size, gl⟩ args vs) :
    Calls P f vs.toArray w fun e w' => e = .returned (.bool true) ∧ Below w.heap.size w w' := by
  refine run_calls hP hfol hO hv (rr_empty h) hA fun φ' w' v' h1 _ h3 => ?_
  cases h1
  exact ⟨rfl, h3.below⟩
/-- The package-level variables hold what is said of them. -/
def GlOK (w : World) : Prop := ∃ φ : Phi, ∀ b o cs, φ.fz b o cs → b < w.heap.size ∧ ∃ c e fr, w.heap[b]? = some (.cells c e fr) ∧ cs.ok φ.bare c o
theorem glOK_of {B0 : Nat} {w0 : World} {φ : Phi} {σ : AH} {w : World} (h : RR P p B0 w0 φ σ w) : GlOK w := ⟨φ, fun b o cs e => let ⟨h1, h2, _⟩ := h.frz b o cs e; ⟨h1, h2⟩⟩
/-- A function that answers yes, without arguments. -/
theorem run_true (hP : CompP P p) (hfol : P.follows .mixedOrders = true) {O : Caller} (hO : OracleOK P p O) {n m f : Nat} {σ' : AH} (hv : arun1 p (arun p O n) m (.fn f) [] ⟨0, 0, .leaf⟩ = some (.bool true, σ')) (w : World) (hg : GlOK w) :
    Calls P f #[] w fun e w' => e = .returned (.bool true) ∧ Below w.heap.size w w' :=
  let ⟨φ, h⟩ := hg
  run_yes hP hfol hO hv (fz := φ.fz) (gl := φ.gl) (fun b o cs e => let ⟨h1, c, t, fr, h2, h3⟩ := h b o cs e; ⟨h1, c, t, fr, h2, FzK.ok.mono0 (φ := φ.bare) (φ' := ⟨fun _ => none, φ.fz, w.heap.size, φ.gl⟩) (fun _ _ h => h) (fun _ _ _ h => h) h3⟩) (vs := []) (VRL.nil _)
end

/-! ### The table of the functions -/
theorem foldl_get {α : Type} : ∀ (l : List (Nat × α)) (t : Tr α) (n : Nat) (x : α), (l.foldl (fun t p => t.set p.1 p.2) t).get n = some x → (n, x) ∈ l ∨ t.get n = some x
  | [], t, n, x, h => .inr h
  | (m, y) :: l, t, n, x, h => by
    rcases foldl_get l _ n x h with h | h
    · exact .inl (List.mem_cons_of_mem _ h)
    · by_cases e : n = m
      · subst e
        rw [Tr.get_set_same] at h
        cases h
        exact .inl (List.mem_cons_self ..)
      · rw [Tr.get_set_other _ _ _ _ e] at h
        exact .inr h
theorem ofList_get {α : Type} {l : List (Nat × α)} {n : Nat} {x : α} (h : (Tr.ofList l).get n = some x) : (n, x) ∈ l := by
  rcases foldl_get l .leaf n x h with h | h
  · exact h
  · simp [Tr.get] at h

/-- Every temporary that code writes is one of n. -/
def fits (n : Nat) : Code → Bool
  | .region _ ops _ => ops.toList.all fun o => match o.dst with | some d => decide (d < n) | none => true
  | .seq a b => fits n a && fits n b
  | .cond _ a b => fits n a && fits n b
  | .block _ b => fits n b
  | .loop b => fits n b
  | .scope b => fits n b
  | .rangeFunc _ ps a b => ps.toList.all (fun t => decide (t < n)) && (fits n a && fits n b)
  | _ => true

theorem cc_of {P : Program} {n : Nat} {L : List ALoop} : ∀ (c : Code) (ks ks' : List (List Nat)) (ls ls' : List ALoop) (ac : ACode), compC P c ks ls = some (ac, ks', ls') → fits n c = true → (ls <+: ls') ∧ (ls' <+: L → CC P n L c ac) := by
  intro c
  induction c with
  | skip => intro ks ks' ls ls' ac h _; simp only [compC, Option.some.injEq, Prod.mk.injEq] at h; obtain ⟨rfl, rfl, rfl⟩ := h; exact ⟨List.prefix_refl _, fun _ => .skip⟩
  | label t => intro ks ks' ls ls' ac h _; simp only [compC, Option.some.injEq, Prod.mk.injEq] at h; obtain ⟨rfl, rfl, rfl⟩ := h; exact ⟨List.prefix_refl _, fun _ => .label t⟩
  | exit id => intro ks ks' ls ls' ac h _; simp only [compC, Option.some.injEq, Prod.mk.injEq] at h; obtain ⟨rfl, rfl, rfl⟩ := h; exact ⟨List.prefix_refl _, fun _ => .exit id⟩
  | ret => intro ks ks' ls ls' ac h _; simp only [compC, Option.some.injEq, Prod.mk.injEq] at h; obtain ⟨rfl, rfl, rfl⟩ := h; exact ⟨List.prefix_refl _, fun _ => .ret⟩
  | region id ops draw =>
    intro ks ks' ls ls' ac h hf
    cases ks with
    | nil => simp [compC] at h
    | cons k ks =>
      simp only [compC] at h
      obtain ⟨os, hos, e⟩ := Option.map_eq_some_iff.1 h
      simp only [Prod.mk.injEq] at e
      obtain ⟨rfl, rfl, rfl⟩ := e
      refine ⟨List.prefix_refl _, fun _ => .region id ops draw os k hos fun o ho d hd => ?_⟩
      have := List.all_eq_true.1 hf o (by simpa using ho)
      simpa [hd] using this
  | seq a b iha ihb =>
    intro ks ks' ls ls' ac h hf
    simp only [fits, Bool.and_eq_true] at hf
    simp only [compC] at h
    split at h
    · rename_i a' k1 l1 h1
      split at h
      · rename_i b' k2 l2 h2
        simp only [Option.some.injEq, Prod.mk.injEq] at h
        obtain ⟨rfl, rfl, rfl⟩ := h
        obtain ⟨p1, q1⟩ := iha _ _ _ _ _ h1 hf.1
        obtain ⟨p2, q2⟩ := ihb _ _ _ _ _ h2 hf.2
        exact ⟨p1.trans p2, fun hl => .seq (q1 (p2.trans hl)) (q2 hl)⟩
      · cases h
    · cases h
  | cond x a b iha ihb =>
    intro ks ks' ls ls' ac h hf
    simp only [fits, Bool.and_eq_true] at hf
    simp only [compC] at h
    split at h
    · rename_i c' a' k1 l1 hc h1
      split at h
      · rename_i b' k2 l2 h2
        simp only [Option.some.injEq, Prod.mk.injEq] at h
        obtain ⟨rfl, rfl, rfl⟩ := h
        obtain ⟨p1, q1⟩ := iha _ _ _ _ _ h1 hf.1
        obtain ⟨p2, q2⟩ := ihb _ _ _ _ _ h2 hf.2
        exact ⟨p1.trans p2, fun hl => .cond hc (q1 (p2.trans hl)) (q2 hl)⟩
      · cases h
    · cases h
  | block id b ih =>
    intro ks ks' ls ls' ac h hf
    simp only [compC] at h
    obtain ⟨⟨b', k1, l1⟩, h1, e⟩ := Option.map_eq_some_iff.1 h
    simp only [Prod.mk.injEq] at e
    obtain ⟨rfl, rfl, rfl⟩ := e
    obtain ⟨p1, q1⟩ := ih _ _ _ _ _ h1 hf
    exact ⟨p1, fun hl => .block id (q1 hl)⟩
  | loop b ih =>
    intro ks ks' ls ls' ac h hf
    simp only [compC] at h
    obtain ⟨⟨b', k1, l1⟩, h1, e⟩ := Option.map_eq_some_iff.1 h
    simp only [Prod.mk.injEq] at e
    obtain ⟨rfl, rfl, rfl⟩ := e
    obtain ⟨p1, q1⟩ := ih _ _ _ _ _ h1 hf
    exact ⟨p1, fun hl => .loop (q1 hl)⟩
  | scope b ih =>
    intro ks ks' ls ls' ac h hf
    simp only [compC] at h
    obtain ⟨⟨b', k1, l1⟩, h1, e⟩ := Option.map_eq_some_iff.1 h
    simp only [Prod.mk.injEq] at e
    obtain ⟨rfl, rfl, rfl⟩ := e
    obtain ⟨p1, q1⟩ := ih _ _ _ _ _ h1 hf
    exact ⟨p1, fun hl => .scope (q1 hl)⟩
  | rangeFunc f ps a b iha ihb =>
    intro ks ks' ls ls' ac h hf
    simp only [fits, Bool.and_eq_true] at hf
    simp only [compC] at h
    split at h
    · rename_i f' a' k1 l1 hc h1
      split at h
      · rename_i b' k2 l2 h2
        simp only [Option.some.injEq, Prod.mk.injEq] at h
        obtain ⟨rfl, rfl, rfl⟩ := h
        obtain ⟨p1, q1⟩ := iha _ _ _ _ _ h1 hf.2.1
        obtain ⟨p2, q2⟩ := ihb _ _ _ _ _ h2 hf.2.2
        have p3 : l2 <+: l2 ++ [⟨ps.toList, a', b'⟩] := List.prefix_append ..
        refine ⟨(p1.trans p2).trans p3, fun hl => .range ps _ hc ?_ (fun t ht => ?_) (q1 (p2.trans (p3.trans hl))) (q2 (p3.trans hl))⟩
        · obtain ⟨r, hr⟩ := hl
          rw [← hr]
          simp
        · have := List.all_eq_true.1 hf.1 t ht
          simpa using this
      · cases h
    · cases h
  | _ => intro ks ks' ls ls' ac h _; simp [compC] at h

/-- One function, checked. -/
theorem funcOK_of {P : Program} {f : Nat} {fn : Func} {c : Code} {pu : Bool} {ks : List (List Nat)} {af : AFunc} (h1 : P.funcs[f]? = some fn) (hb : fn.body = some c) (h2 : compF P fn pu ks = some af) (h3 : fits fn.ntmps c = true)
    (h4 : (fn.name == "runtime.NumGoroutine") = false) (h5 : Nat.ble (fn.params.size + fn.nfree) fn.ntmps = true) : ∃ fn c, FuncOK P f af fn c := by
  unfold compF at h2
  rw [hb] at h2
  simp only at h2
  split at h2
  · rename_i body ls res hc hr
    cases h2
    exact ⟨fn, c, h1, hb, h4, Nat.le_of_ble_eq_true h5, (cc_of c _ _ _ _ _ hc h3).2 (List.prefix_refl _), hr⟩
  · cases h2
/-- All functions, checked. -/
def AllOK (P : Program) : List (Nat × AFunc) → Prop
  | [] => True
  | (f, af) :: l => (∃ fn c, FuncOK P f af fn c) ∧ AllOK P l
theorem AllOK.get {P : Program} : ∀ {l : List (Nat × AFunc)}, AllOK P l → ∀ f af, (f, af) ∈ l → ∃ fn c, FuncOK P f af fn c
  | (f, af) :: l, h, g, ag, hm => by
    rcases List.mem_cons.1 hm with e | hm
    · cases e; exact h.1
    · exact h.2.get g ag hm
/-- A program without interfaces' methods. -/
theorem compP_of {P : Program} {l : List (Nat × AFunc)} (h : AllOK P l) : CompP P ⟨Tr.ofList l, []⟩ :=
  ⟨fun f af hf => h.get f af (ofList_get hf), fun t name f hm => by simp [AProg.meth] at hm, fun t name f hm => by simp [AProg.meth] at hm⟩
end Go.Oct
end
/- A call that leaves what was there as it was, and answers yes: what its row asks. -/
section
set_option linter.unusedVariables false
set_option linter.unusedSimpArgs false
set_option linter.unusedSectionVars false
namespace Go.Oct
variable [Gl]
open Go.RowKit Go.ChangeShapes Go.WideShapes Go.ChangeAt

section
variable {H : Type} {enc : TypeId × Value → H} {P : Program}
theorem post_below {f : Func} {s : ChangeSpec} {apart fresh handsOn again : Bool} {W W' : World} {args : Array Value} {v : Value} {ds gs : List (DataW H)} {before pa pv : List MemPlace}
    (hW : DataW.Whole enc P f.params.toList s.vars apart W args.toList ds gs before) (hb : Below W.heap.size W W')
    (hres : ∀ (b : Nat) (sp : Nat → Bool) (hd : Bool), DataW.TrodAll enc P W' b sp hd f.resultTypes.toList (v.resultList f.resultTypes.size) (s.fn H (ds ++ gs)).results [])
    (hargs : ∀ sp : Nat → Bool, (∀ p ∈ before, sp p.block = true) → DataW.TrodAll enc P W' 0 sp true f.params.toList args.toList (s.fn H (ds ++ gs)).args pa)
    (hvars : ∀ sp : Nat → Bool, (∀ p ∈ before, sp p.block = true) → DataW.TrodVars enc P W' sp s.vars (s.fn H (ds ++ gs)).vars pv)
    (hps : before = pa ++ pv)
    (hok : ∀ (j : Nat) (t : TypeId) (r : Value), f.resultTypes[j]? = some t → (v.resultList f.resultTypes.size)[j]? = some r → Value.okWide P W' .any 0 t r) :
    s.post enc P f apart fresh handsOn again W args v W' := by
  have hlt := hW.lt
  have hold : ∀ p ∈ before, (fun b => decide (b < W.heap.size)) p.block = true := fun p hp => by simpa using hW.lt p hp
  refine ⟨ds, gs, before, [], pa, pv, hW, hres _ _ _, hargs _ hold, hvars _ hold, World.keptBut_mono (fun p hp => ⟨hp, ?_⟩) (hb.frame (· ∈ before)), fun _ => ?_⟩
  · rw [hps, List.mem_append] at hp
    exact Or.inr hp
  · obtain ⟨_, _, _, _, _, hz, hn⟩ := hW
    refine ⟨hok, _, _, ([] ++ pa) ++ pv, ⟨[] ++ pa, pv, trodAll_append (hargs _ (fun _ _ => rfl)) (hres _ _ _), hvars _ (fun _ _ => rfl), rfl, ?_, ?_⟩, ?_⟩
    · intro b off hp
      have hin : MemPlace.cell b off ∈ before := by rw [hps]; simpa using hp
      have hlt' := hlt _ hin
      have h1 := hz b off hin
      simp only [World.frozen?] at h1 ⊢
      rw [hb.block b hlt']
      exact h1
    · intro ha
      have := hn ha
      rw [hps] at this
      simpa using this
    · intro p hp _
      rw [hps]
      simpa using hp
end
end Go.Oct
end
/- Functions without arguments that are known to answer yes: known calls for the runs of others. -/
section
set_option linter.unusedVariables false
set_option linter.unusedSimpArgs false
set_option linter.unusedSectionVars false
namespace Go.Oct
variable [Gl]
open Go.RowKit

section
variable {P : Program} {p : AProg}
/-- The calls that are known: the functions fs answer yes. -/
def trueO (fs : List Nat) : Caller := fun t args σ => match t, args with
  | .fn f, [] => if fs.contains f then some (.bool true, σ) else none
  | _, _ => none
def SaysTrue (P : Program) (f : Nat) : Prop := ∀ w, GlOK w → Calls P f #[] w fun e w' => e = .returned (.bool true) ∧ Below w.heap.size w w'

theorem says_of (hP : CompP P p) (hfol : P.follows .mixedOrders = true) {O : Caller} (hO : OracleOK P p O) {n m f : Nat} {σ' : AH} (hv : arun1 p (arun p O n) m (.fn f) [] ⟨0, 0, .leaf⟩ = some (.bool true, σ')) : SaysTrue P f := fun w hg => run_true hP hfol hO hv w hg
theorem trueO_ok (hP : CompP P p) {fs : List Nat} (h : ∀ f ∈ fs, (∃ af, p.funcs.get f = some af) ∧ SaysTrue P f) : OracleOK P p (trueO fs) := by
  constructor
  · intro B0 w0 t args σ v σ' hv φ w vs hR hA
    unfold trueO at hv
    split at hv
    · rename_i f
      split at hv
      · rename_i hc
        simp only [Option.some.injEq, Prod.mk.injEq] at hv
        obtain ⟨rfl, rfl⟩ := hv
        have hf : f ∈ fs := by simpa using hc
        obtain ⟨⟨af, haf⟩, hs⟩ := h f hf
        obtain ⟨fn, cd, hok⟩ := hP.fn f af haf
        have hvs : vs = [] := by
          cases vs with
          | nil => rfl
          | cons x xs => exact absurd hA.1 (by simp)
        subst hvs
        refine ⟨?_, fun c cs => ?_⟩
        · have hn := hok.name
          simp at hn
          simp [callFunc, hok.at_, hn, hok.body]
        · obtain ⟨e, w', fr, ⟨he, hb⟩, hcm, hfn, hl⟩ := hs w (glOK_of hR) (c :: cs)
          subst he
          exact ⟨φ, w', _, Steps.trans hcm (.one (step_leave_returned hl)), .bool true, Ext.refl _ _, hR.grown hb⟩
      · cases hv
    · cases hv
  · intro t args σ v σ' hv
    unfold trueO at hv
    split at hv
    · split at hv
      · simp only [Option.some.injEq, Prod.mk.injEq] at hv
        rw [← hv.2]
        exact Fz.refl _
      · cases hv
    · cases hv
end
end Go.Oct
end
/- More fuel changes no answer. -/
section
set_option linter.unusedVariables false
set_option linter.unusedSimpArgs false
namespace Go.Oct

/-- What the one answers, the other answers too. -/
def CLe (C D : Caller) : Prop := ∀ t args σ r, C t args σ = some r → D t args σ = some r
theorem CLe.refl (C : Caller) : CLe C C := fun _ _ _ _ h => h
theorem CLe.trans {A B C : Caller} (h : CLe A B) (k : CLe B C) : CLe A C := fun t a σ r e => k t a σ r (h t a σ r e)

theorem aop_le {p : AProg} {C D : Caller} (h : CLe C D) {ρ : Opd → AV} {σ : AH} {o : AOp} {r : AV × AH} (e : aop p C ρ σ o = some r) : aop p D ρ σ o = some r := by
  cases o <;> simp only [aop] at e ⊢
  case v o => exact e
  case h o => exact e
  case call f args =>
    split at e
    · exact h _ _ _ _ e
    · exact h _ _ _ _ e
    · cases e
  case invoke n x args =>
    split at e
    · split at e
      · exact h _ _ _ _ e
      · cases e
    · cases e
  case fail => cases e
theorem aops_le {p : AProg} {C D : Caller} (h : CLe C D) : ∀ (os : List AOper) (env : Env) (σ : AH) (r : Env × AH), aops p C os env σ = some r → aops p D os env σ = some r
  | [], env, σ, r, e => e
  | o :: os, env, σ, r, e => by
    simp only [aops] at e ⊢
    split at e
    · split at e
      · rename_i h1
        rw [aop_le h h1]
        exact aops_le h os _ _ _ e
      · cases e
    · exact aops_le h os _ _ _ e
    · cases e
theorem dstep_le {p : AProg} {C D : Caller} (h : CLe C D) {o : AOper} {env : Env} {σ : AH} {s : Seg} {r : AV × AH × Seg} (e : dstep p C o env σ s = some r) : dstep p D o env σ s = some r := by
  unfold dstep at e ⊢
  split at e
  · exact e
  · cases e
  · split at e
    · split at e
      · rename_i hv _ _ _ h1
        rw [if_pos hv, aop_le h h1]; exact e
      · cases e
    · rename_i hv
      rw [if_neg hv]
      split at e
      · split at e
        · rename_i h1
          rw [aop_le h h1]; exact e
        · cases e
      · split at e
        · rename_i ho
          split at e
          · rename_i h1
            try simp only [ho]
            rw [aop_le h h1]; exact e
          · cases e
        · rename_i ho
          try simp only [ho]
          split at e
          · rename_i hl
            split at e
            · rename_i h1
              rw [if_pos hl, aop_le h h1]; exact e
            · cases e
          · cases e
      · split at e
        · rename_i h1
          rw [aop_le h h1]; exact e
        · cases e
      · split at e
        · rename_i ha
          split at e
          · rename_i hc
            split at e
            · rename_i h1
              try simp only [ha]
              rw [if_pos hc, aop_le h h1]; exact e
            · cases e
          · cases e
        · rename_i ha
          split at e
          · rename_i hc
            split at e
            · rename_i h1
              try simp only [ha]
              rw [if_pos hc, aop_le h h1]; exact e
            · cases e
          · cases e
      · split at e
        · rename_i ho
          split at e
          · rename_i h1
            try simp only [ho]
            rw [aop_le h h1]; exact e
          · cases e
        · rename_i ho
          try simp only [ho]
          split at e
          · rename_i hl
            split at e
            · rename_i h1
              rw [if_pos hl, aop_le h h1]; exact e
            · cases e
          · cases e
theorem adraw_le {p : AProg} {C D : Caller} (h : CLe C D) : ∀ (os : List AOper) (env : Env) (σ : AH) (s : Seg) (r : Env × AH), adraw p C os env σ s = some r → adraw p D os env σ s = some r
  | [], env, σ, s, r, e => e
  | o :: os, env, σ, s, r, e => by
    simp only [adraw] at e ⊢
    split at e
    · rename_i h1
      rw [dstep_le h h1]
      exact adraw_le h os _ _ _ _ e
    · cases e
theorem aloop_le {f g : Fr → AH → Option Out} (h : ∀ fr σ r, f fr σ = some r → g fr σ = some r) : ∀ (n m : Nat) (fr : Fr) (σ : AH) (r : Out), n ≤ m → aloop f n fr σ = some r → aloop g m fr σ = some r
  | 0, m, fr, σ, r, hm, e => by simp [aloop] at e
  | n + 1, 0, fr, σ, r, hm, e => by omega
  | n + 1, m + 1, fr, σ, r, hm, e => by
    simp only [aloop] at e ⊢
    split at e
    · rename_i h1
      rw [h _ _ _ h1]
      exact aloop_le h n m _ _ _ (by omega) e
    · rename_i hne
      have e2 := h _ _ _ e
      rw [e2]
      obtain ⟨ex, fr', σ'⟩ := r
      cases ex with
      | normal => exact absurd e (hne _ _)
      | exit id => rfl
      | ret => rfl

theorem acode_le {p : AProg} {C D : Caller} (h : CLe C D) {n m : Nat} (hm : n ≤ m) {f : Nat} {rd : Option Nat} : ∀ (c : ACode) (fr : Fr) (σ : AH) (r : Out), acode p C n f rd c fr σ = some r → acode p D m f rd c fr σ = some r := by
  intro c
  induction c with
  | skip => intro fr σ r e; exact e
  | region d os ks =>
    intro fr σ r e
    cases d <;> simp only [acode] at e ⊢ <;> split at e
    · rename_i h1; rw [aops_le h _ _ _ _ h1]; exact e
    · cases e
    · rename_i h1; rw [adraw_le h _ _ _ _ _ h1]; exact e
    · cases e
  | seq a b iha ihb =>
    intro fr σ r e
    simp only [acode] at e ⊢
    split at e
    · rename_i h1
      rw [iha _ _ _ h1]
      exact ihb _ _ _ e
    · rename_i hne
      have e2 := iha _ _ _ e
      rw [e2]
      obtain ⟨ex, fr', σ'⟩ := r
      cases ex with
      | normal => exact absurd e (hne _ _)
      | exit id => rfl
      | ret => rfl
  | cond c a b iha ihb =>
    intro fr σ r e
    simp only [acode] at e ⊢
    split at e
    · exact iha _ _ _ e
    · exact ihb _ _ _ e
    · cases e
  | block id b ih =>
    intro fr σ r e
    simp only [acode] at e ⊢
    split at e
    · rename_i h1; rw [ih _ _ _ h1]; exact e
    · rename_i hne
      have e2 := ih _ _ _ e
      rw [e2]
      obtain ⟨ex, fr', σ'⟩ := r
      cases ex with
      | normal => rfl
      | exit j => exact absurd e (hne _ _ _)
      | ret => rfl
  | loop b ih =>
    intro fr σ r e
    simp only [acode] at e ⊢
    exact aloop_le ih n m _ _ _ hm e
  | rangeFunc i g =>
    intro fr σ r e
    simp only [acode] at e ⊢
    split at e
    · rename_i ht
      try simp only [ht]
      split at e
      · rename_i hs
        try simp only [hs]
        split at e
        · rename_i hc
          rw [h _ _ _ _ hc]
          exact e
        · cases e
      · cases e
    · cases e
  | exit id => intro fr σ r e; exact e
  | scope b ih => intro fr σ r e; simp only [acode] at e ⊢; exact ih _ _ _ e
  | ret => intro fr σ r e; exact e

theorem abody_le (p : AProg) {C D : Caller} (ih : CLe C D) {n m f : Nat} (hm : n ≤ m) {af : AFunc} {args : List AV} {σ : AH} {r : AV × AH} (e : abody p C n f af args σ = some r) : abody p D m f af args σ = some r := by
  unfold abody at e ⊢
  split at e
  · rename_i hl
    rw [if_pos hl]
    split at e
    · cases e
    · rename_i ex fr1 σ1 hne h1
      rw [acode_le ih hm _ _ _ _ h1]
      cases ex with
      | normal => exact e
      | exit id => exact absurd rfl (hne id)
      | ret => exact e
    · cases e
  · cases e
theorem apart_le {f g : List AV → AH → Option (AV × AH)} (h : ∀ a σ r, f a σ = some r → g a σ = some r) {args : List AV} {σ : AH} {r : AV × AH} (e : apart f args σ = some r) : apart g args σ = some r := by
  unfold apart at e ⊢
  split at e
  · rename_i hc
    rw [if_pos hc]
    split at e
    · rename_i h1
      rw [h _ _ _ h1]; exact e
    · cases e
  · rename_i hc
    rw [if_neg hc]
    split at e
    · rename_i h1
      rw [h _ _ _ h1]; exact e
    · cases e

theorem arun1_le' (p : AProg) {C D : Caller} (ih : CLe C D) {n m : Nat} (hm : n ≤ m) : CLe (arun1 p C n) (arun1 p D m) := by
    intro t args σ r e
    cases t with
    | fn f =>
      rw [arun1] at e ⊢
      split at e
      · rename_i hf
        try simp only [hf]
        split at e
        · rename_i hp
          rw [if_pos hp]
          exact apart_le (fun a σ r e => abody_le p ih hm e) e
        · rename_i hp
          rw [if_neg hp]
          exact abody_le p ih hm e
      · cases e
    | yield l =>
      rw [arun1] at e ⊢
      split at e
      · rename_i hg
        try simp only [hg]
        split at e
        · rename_i hf
          try simp only [hf]
          split at e
          · rename_i hlp
            try simp only [hlp]
            split at e
            · rename_i hc
              rw [if_pos hc]
              split at e
              · rename_i h1
                rw [acode_le ih hm _ _ _ _ h1]
                simp only
                split at e
                · rename_i hg1
                  try simp only [hg1]
                  split at e
                  · rename_i h2
                    rw [acode_le ih hm _ _ _ _ h2]
                    exact e
                  · cases e
                · cases e
              · cases e
            · cases e
          · cases e
        · cases e
      · cases e
theorem arun1_le (p : AProg) {C D : Caller} (ih : CLe C D) (n : Nat) : CLe (arun1 p C n) (arun1 p D (n + 1)) := arun1_le' p ih (Nat.le_succ n)
theorem arun_le (p : AProg) (O : Caller) : ∀ n, CLe (arun p O n) (arun p O (n + 1))
  | 0 => by
    intro t args σ r e
    simp only [arun] at e ⊢
    rw [e]
  | n + 1 => by
    intro t args σ r e
    rw [arun] at e ⊢
    split at e
    · exact e
    · exact arun1_le p (arun_le p O n) n _ _ _ _ e
theorem arun_mono (p : AProg) (O : Caller) {n m : Nat} (h : n ≤ m) : CLe (arun p O n) (arun p O m) := by
  induction h with
  | refl => exact CLe.refl _
  | step _ ih => exact ih.trans (arun_le p O _)
end Go.Oct
end
