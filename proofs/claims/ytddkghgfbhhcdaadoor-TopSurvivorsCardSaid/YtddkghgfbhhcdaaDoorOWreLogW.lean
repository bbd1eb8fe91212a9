/- Logs: where the ship can be. -/
import Derived.Test.YtddkghgfbhhcdaaDoorOWreNexW
set_option maxRecDepth 100000
set_option maxHeartbeats 8000000
set_option linter.unusedVariables false
set_option linter.unusedSimpArgs false
namespace Go.Oct.Wre.Fx
open Go.Oct
theorem rg_in {p : AProg} {O : Caller} {f i l : Nat} {g : Opd} {fr : Fr} {σ : AH} {Q : Kn (AEx → Fr → AH → Prop)} {h : Nat} {xs ys : List AV} (ht : target (g.ev fr.env) = some (.fn h, xs, ys)) {f0 i0 : Nat} {env0 : Env} {st0 : LoopState} {pd0 : Option AEx} {d0 : Nat} (hl : σ.get l = some (.loop f0 i0 env0 st0 pd0 d0))
    (hc : Call p O (.fn h) (xs ++ [.func (.yield σ.next) [] []] ++ ys) (σ.push (.loop f i fr.env .ready none d0)) fun _ σ2 =>
      ∃ f' i' env st pd d, σ2.get σ.next = some (.loop f' i' env st pd d) ∧ st ≠ .busy ∧ σ2.lim ≤ σ.next ∧
        Q.k (pd.getD .normal) ⟨fr.env, fr.marks⟩ (σ2.set σ.next (.loop f' i' env .exhausted pd d))) : @Rg p O f (some l) i g fr σ Q := by
  obtain ⟨n, v, σ2, e, f', i', env, st, pd, d, g2, hst, hlim, hq⟩ := hc
  refine ⟨n, _, _, _, ?_, hq⟩
  cases st with
  | busy => exact absurd rfl hst
  | ready => simp only [acode, ht, hl, e, g2, hlim, if_true]
  | done => simp only [acode, ht, hl, e, g2, hlim, if_true]
  | exhausted => simp only [acode, ht, hl, e, g2, hlim, if_true]
theorem next_call {s : Stp} {e n : Int} {back : Bool} {σ : AH} (hl : σ.lim ≤ σ.next) {K : AV → AH → Prop}
    (hK : K (.func (.func 113) [] [.ptr (some (σ.next, 0)), .ptr (some (σ.next + 2, 0)), .ptr (some (σ.next + 1, 0))]) (((σ.push (.cells (eStp s).cells)).push (.cells [.int .i64 e, .int .i64 n])).push (.cells [.bool back]))) :
    Call prog O (.fn 82) [eStp s, .agg [.int .i64 e, .int .i64 n], .bool back] σ K := by
  refine @call_of' _ _ pl _ _ _ _ _ _ _ ⟨K⟩ get82 ((oo (by decide)).2 _) rfl ?_
  have m1 : σ.lim ≤ σ.next + 1 := by omega
  have m2 : σ.lim ≤ σ.next + 1 + 1 := by omega
  simp (disch := omega) [eStp, hl, m1, m2, -Bool.exists_bool]
  exact hK
def logC (E N : Span) (nS : Bool) (S : List Stp) (c : AV) : List AV := [.int .i64 E.lo, .int .i64 E.hi, .int .i64 N.lo, .int .i64 N.hi, vl eStp nS S, vl eStp (rns S).isEmpty (rns S), vl eSeg false (sgs S S.length), c]
@[simp] theorem logC_len {E N : Span} {nS : Bool} {S : List Stp} {c : AV} : (logC E N nS S c).length = 8 := rfl
@[simp] theorem logC_7 {E N : Span} {nS : Bool} {S : List Stp} {c : AV} : (logC E N nS S c)[7]? = some c := (rfl)
@[simp] theorem logC_5 {E N : Span} {nS : Bool} {S : List Stp} {c : AV} : (logC E N nS S c)[5]? = some (vl eStp (rns S).isEmpty (rns S)) := (rfl)
@[simp] theorem logC_set {E N : Span} {nS : Bool} {S : List Stp} {c c' : AV} : (logC E N nS S c).set 7 c' = logC E N nS S c' := (rfl)
theorem logC_6 {E N : Span} {nS : Bool} {S : List Stp} {c : AV} : (logC E N nS S c)[6]? = some (vl eSeg false (sgs S S.length)) := rfl
theorem okLog_part {E N : Span} {S : List Stp} (hz : szLog S) (hok : okLog E N S) : ∀ j, j < (sgs S S.length).length → okPart (nth (sgs S S.length) j) := by
  have key : ∀ i, i ≤ S.length → ∀ j, j < (sgs S i).length → okPart (nth (sgs S i) j) := by
    intro i
    induction i with
    | zero =>
      intro _ j hj
      obtain rfl : j = 0 := by simpa [sgs] using hj
      intro q hq; exact absurd hq (by simp [sgs])
    | succ i ih =>
      intro h j hj
      have ih := ih (by omega)
      have hl := sgs_len (S := S) i (by omega)
      simp only [sgs] at hj ⊢
      by_cases e : isRun (nth S i) = true
      · rw [if_pos e] at hj ⊢
        by_cases e2 : j < (sgs S i).length
        · rw [nth_app_lo e2]; exact ih j e2
        · have : j = (sgs S i).length := by simp at hj; omega
          rw [this, nth_app_hi]; intro q hq; exact absurd hq (by simp)
      · rw [if_neg e] at hj ⊢
        unfold addL at hj ⊢
        rw [List.length_set] at hj
        rw [nth_set (by omega)]
        by_cases e2 : j = (sgs S i).length - 1
        · rw [if_pos e2]
          intro q hq
          rw [List.length_append, List.length_singleton] at hq
          have ihj := ih ((sgs S i).length - 1) (by omega)
          by_cases e3 : q < (nth (sgs S i) ((sgs S i).length - 1)).length
          · rw [nth_app_lo e3]; exact ihj q e3
          · have : q = (nth (sgs S i) ((sgs S i).length - 1)).length := by omega
            rw [this, nth_app_hi]
            have h1 := hok.2.2.2 i (by omega)
            refine ⟨h1, fun hk => e (by unfold isRun; exact decide_eq_true hk), ?_⟩
            rcases h1 with h1 | h1 | h1
            · have := h1.2.2.2.2; omega
            · have := h1.2.2.2.2.2; omega
            · have := h1.2.2.2.2.1; omega
        · rw [if_neg e2]; exact ih j hj
  exact key S.length (Nat.le_refl _)
def eP (o : Nat) : AV := .ptr (some (o, 0))
theorem encP : Enc eP 1 := ⟨fun _ => rfl, fun _ => rfl, fun _ => rfl, by decide⟩
theorem buf_lower {α : Type} {e : α → AV} {z lo lo' : Nat} {σ : AH} {v : AV} {xs : List α} (h : Buf lo z e σ v xs) (hl : lo' ≤ lo) : Buf lo' z e σ v xs := by
  rcases h with h | ⟨i, rfl, h2, h3, h4⟩
  · exact .inl h
  · exact .inr ⟨i, rfl, by omega, h3, h4⟩
theorem buf_cel {α : Type} {e : α → AV} {z lo : Nat} {σ : AH} {v : AV} {xs : List α} (h : Buf lo z e σ v xs) : v.cells = [v] ∧ v.dfd = true ∧ v.one = true := by
  rcases h with ⟨rfl, _⟩ | ⟨i, rfl, _⟩ <;> exact ⟨rfl, rfl, rfl⟩
theorem okLog_run {E N : Span} {S : List Stp} (hok : okLog E N S) : ∀ j, j < (rns S).length → okRun (nth (rns S) j) ∧ (nth (rns S) j).k = 2 := fun j hj => by
  have hm := nth_mem hj
  unfold rns at hm
  rw [List.mem_filter] at hm
  obtain ⟨q, hq, he⟩ := mem_nth.1 hm.1
  have hk : (nth (rns S) j).k = 2 := of_decide_eq_true hm.2
  have h1 := hok.2.2.2 q hq
  rw [he] at h1
  rcases h1 with h1 | h1 | h1
  · have := h1.1; unfold rns at hk; omega
  · exact ⟨⟨h1.2.2.2.1, h1.2.2.2.2.1⟩, hk⟩
  · have := h1.1; unfold rns at hk; omega
structure LI (E N : Span) (nS : Bool) (S : List Stp) (i : Nat) (σ : AH) (cv : AV) (ps : List Nat) : Prop where
  lim : σ.lim = 0
  nx : 4 ≤ σ.next
  g1 : σ.get 1 = some (.cells (logC E N nS S cv))
  g2 : σ.get 2 = some (.cells [.ptr (some (1, 0))])
  cb : Buf 3 1 eP σ cv ps
  pl : ps.length = i + 1
  pj : ∀ j, j ≤ i → 3 ≤ nth ps j ∧ σ.get (nth ps j) = some (.cells (seaC (can E N (rns S) (sgs S S.length) j))) ∧ nth ps j ∉ obj cv
theorem LI.stay {E N : Span} {nS : Bool} {S : List Stp} {i : Nat} {σ σ' : AH} {cv : AV} {ps : List Nat} (h : LI E N nS S i σ cv ps) (hl : σ'.lim = σ.lim) (hn : σ.next ≤ σ'.next) (hg : ∀ z, z < σ.next → σ'.get z = σ.get z) : LI E N nS S i σ' cv ps := by
  have h0 := h.nx
  refine ⟨hl.trans h.lim, by omega, (hg 1 (by omega)).trans h.g1, (hg 2 (by omega)).trans h.g2, h.cb.keep fun z _ hz => hg z hz, h.pl, fun j hj => ?_⟩
  obtain ⟨a, b, c⟩ := h.pj j hj
  exact ⟨a, (hg _ (AH.get_lt b)).trans b, c⟩
section
variable {α : Type} {e : α → AV} {z lo : Nat} {σ : AH} {v : AV} {xs : List α} {p : AProg} {O : Caller}
end
theorem marks_ok : ∀ (M : List Nat) (σ : AH), (∀ m ∈ M, σ.lim ≤ m) → M.Nodup → (∀ m ∈ M, σ.get m = some .dfr) → ∃ σ', takeMarks σ M = some σ' ∧ σ'.lim = σ.lim ∧ σ'.next = σ.next ∧ ∀ i, i ∉ M → σ'.get i = σ.get i
  | [], σ, hl, _, _ => ⟨σ, rfl, rfl, rfl, fun _ _ => rfl⟩
  | d :: M, σ, hl, hM, hd => by
    have hn := List.nodup_cons.1 hM
    have h1 := hd d (List.mem_cons_self ..)
    obtain ⟨σ', e1, e3, e4, e2⟩ := marks_ok M (σ.set d .dead) (fun m hm => hl m (List.mem_cons_of_mem _ hm)) hn.2 fun m hm => by
      rw [AH.get_set_other _ _ _ _ (by intro e; subst e; exact hn.1 hm)]; exact hd m (List.mem_cons_of_mem _ hm)
    refine ⟨σ', by simp only [takeMarks, h1, hl d (List.mem_cons_self ..), if_true, e1], e3, e4, fun i hi => ?_⟩
    rw [e2 i fun h => hi (List.mem_cons_of_mem _ h), AH.get_set_other _ _ _ _ (by intro e; subst e; exact hi (List.mem_cons_self ..))]
theorem ltT {a b : Nat} (h : a < b) : (a < b) = True := eq_true h
def mvt (s : Stp) (f : Nat → Bool) (n q : Nat) : Bool := (List.range n).any fun m => f m && go s m q
theorem mvt_succ (s : Stp) (f : Nat → Bool) (n q : Nat) : mvt s f (n + 1) q = (mvt s f n q || (f n && go s n q)) := by
  unfold mvt
  rw [List.range_succ, List.any_append]
  simp
structure OY (T : AH) (hb : Nat) (env : Env) (s : Stp) (f : Nat → Bool) (n : Nat) (σ : AH) : Prop where
  lim : σ.lim = 0
  nx : T.next + 2 ≤ σ.next
  low : ∀ k, k < T.next → k ≠ hb → σ.get k = T.get k
  mark : σ.get T.next = some .dfr
  loop : σ.get (T.next + 1) = some (.loop 38 1 env .ready none T.next)
  sea : σ.get hb = some (.cells (seaC (mvt s f n)))
structure PY (T : AH) (hb : Nat) (env : Env) (f h : Nat → Bool) (n : Nat) (σ : AH) : Prop where
  lim : σ.lim = 0
  nx : T.next + 2 ≤ σ.next
  low : ∀ k, k < T.next → k ≠ hb → σ.get k = T.get k
  mark : σ.get T.next = some .dfr
  loop : σ.get (T.next + 1) = some (.loop 38 2 env .ready none T.next)
  sea : σ.get hb = some (.cells (seaC fun q => f q && (decide (n ≤ q) || h q)))
structure NY (U : AH) (hb l d : Nat) (env : Env) (s : Stp) (g : Nat → Bool) (n m : Nat) (σ : AH) : Prop where
  lim : σ.lim = 0
  nx : l + 1 ≤ σ.next
  low : ∀ k, k < l → k ≠ hb → σ.get k = U.get k
  loop : σ.get l = some (.loop 38 0 env .ready none d)
  sea : σ.get hb = some (.cells (seaC fun q => g q || (decide (q < m) && go s n q)))
def eSea (f : Nat → Bool) : AV := .vptr (seaC f) 0
def seas (E N : Span) (S : List Stp) : List (Nat → Bool) := (List.range ((rns S).length + 1)).map (can E N (rns S) (sgs S S.length))
theorem seas_len (E N : Span) (S : List Stp) : (seas E N S).length = (rns S).length + 1 := by unfold seas; rw [List.length_map, List.length_range]
theorem seas_nth {E N : Span} {S : List Stp} {j : Nat} (h : j ≤ (rns S).length) : nth (seas E N S) j = can E N (rns S) (sgs S S.length) j := by
  unfold seas
  rw [nth_map (f := can E N (rns S) (sgs S S.length)) (by rw [List.length_range]; omega), nth_eq (by rw [List.length_range]; omega), List.getElem_range]
def logP (E N : Span) (nS : Bool) (S : List Stp) : AV := .vptr (logC E N nS S (vl eSea false (seas E N S))) 0
theorem fz_seaC (f : Nat → Bool) (k : Nat) (c : Nat → Option (List AV)) : (seaC f).map (fun x => (fzV (k + 1) c x).na) = seaC f := by
  unfold seaC
  rw [List.map_map]
  rfl
theorem fz_ptr {σ : AH} {o : Nat} {f : Nat → Bool} (h : σ.get o = some (.cells (seaC f))) (k : Nat) : fzV (k + 2) σ.cel (.ptr (some (o, 0))) = eSea f := by
  have hc : σ.cel o = some (seaC f) := AH.cel_get h
  show (match σ.cel o with
    | some cs => AV.vptr (cs.map fun x => (fzV (k + 1) σ.cel x).na) 0
    | none => .undef) = _
  rw [hc]
  show AV.vptr ((seaC f).map fun x => (fzV (k + 1) σ.cel x).na) 0 = _
  rw [fz_seaC]; rfl
theorem rowP (ps : List Nat) : rowOf eP ps = ps.map eP := by
  unfold rowOf
  induction ps with
  | nil => rfl
  | cons p ps ih => rw [List.flatMap_cons, ih]; rfl
theorem fz_log {E N : Span} {nS : Bool} {S : List Stp} {σ : AH} {ps : List Nat} {c : ACap} {co : Nat} (h1 : σ.get 1 = some (.cells (logC E N nS S (.slice (some (co, 0)) ps.length c)))) (hco : σ.get co = some (.cells (rowOf eP ps))) (hc : c = .op 1 ∨ c = .ex ps.length) (hl : ps.length = (rns S).length + 1)
    (hp : ∀ j, j ≤ (rns S).length → σ.get (nth ps j) = some (.cells (seaC (can E N (rns S) (sgs S S.length) j)))) : fzV 7 σ.cel (.ptr (some (1, 0))) = logP E N nS S := by
  have hc1 : σ.cel 1 = some (logC E N nS S (.slice (some (co, 0)) ps.length c)) := AH.cel_get h1
  have hc2 : σ.cel co = some (rowOf eP ps) := AH.cel_get hco
  have hcan : fzV 6 σ.cel (.slice (some (co, 0)) ps.length c) = vl eSea false (seas E N S) := by
    have hz : c.cellsOf ps.length (ps.length) = some 1 := by
      rcases hc with rfl | rfl
      · simp [ACap.cellsOf]
      · have : ps.length ≠ 0 := by omega
        simp only [ACap.cellsOf]
        rw [if_neg this, Nat.div_self (by omega), if_pos ⟨by omega, by omega⟩]
    show (match σ.cel co with
      | some cs => if 0 ≤ cs.length then
          match c.cellsOf ps.length (cs.length - 0) with
          | some z => AV.vsl false (chunks z ps.length ((cs.drop 0).map fun x => (fzV 5 σ.cel x).na))
          | none => .undef
        else .undef
      | none => .undef) = _
    rw [hc2, rowP]
    simp only [Nat.zero_le, if_true, List.drop_zero, Nat.sub_zero, List.length_map, hz, List.map_map]
    have hm : ps.map ((fun x => (fzV 5 σ.cel x).na) ∘ eP) = (seas E N S).map eSea := by
      refine List.ext_getElem? fun j => ?_
      rw [List.getElem?_map, List.getElem?_map]
      have hsl := seas_len E N S
      by_cases hj : j < ps.length
      · have e1 : ps[j]? = some (nth ps j) := nth_get? hj
        have e2 : (seas E N S)[j]? = some (nth (seas E N S) j) := nth_get? (by omega)
        rw [e1, e2, seas_nth (by omega)]
        simp only [Option.map_some, Function.comp_apply]
        have := fz_ptr (hp j (by omega)) 3
        show some ((fzV 5 σ.cel (.ptr (some (nth ps j, 0)))).na) = _
        rw [this]; rfl
      · rw [List.getElem?_eq_none (by omega), List.getElem?_eq_none (by omega)]; rfl
    rw [hm]
    have := chunks_one ((seas E N S).map eSea)
    rw [List.length_map, seas_len, ← hl] at this
    rw [this]
    simp only [vl, List.map_map]
    rfl
  show (match σ.cel 1 with
    | some cs => AV.vptr (cs.map fun x => (fzV 6 σ.cel x).na) 0
    | none => .undef) = _
  rw [hc1]
  show AV.vptr ((logC E N nS S (.slice (some (co, 0)) ps.length c)).map fun x => (fzV 6 σ.cel x).na) 0 = _
  unfold logC logP
  simp only [List.map_cons, List.map_nil, hcan]
  rfl
theorem logOf_ok (E N : Span) (nS : Bool) (S : List Stp) (hz : szLog S) (hok : okLog E N S) : ∃ v, v = .tuple [logP E N nS S, .int .i64 0] ∧ ans prog O 38 [eLog E N nS S] = some v := by
  have hck := Check_ok E N nS S hz
  rw [if_pos hok] at hck
  have hrn := runs_ok E N nS S hok.2.2.1
  have hE : 0 ≤ E.lo ∧ E.lo ≤ E.hi ∧ E.hi ≤ 59 := hok.1
  have hN : 0 ≤ N.lo ∧ N.lo ≤ N.hi ∧ N.hi ≤ 59 := hok.2.1
  have hprt := okLog_part hz hok
  have hgl := sgs_len (S := S) S.length (Nat.le_refl _)
  have hRle := rnT_le S S.length
  rw [rnT_all] at hRle hgl
  have h12 := hok.2.2.1
  obtain ⟨el, hel⟩ : ∃ el : Nat, E.lo = el := ⟨E.lo.toNat, by omega⟩
  obtain ⟨nl, hnl⟩ : ∃ nl : Nat, N.lo = nl := ⟨N.lo.toNat, by omega⟩
  refine fn_ex pl _ get38 (oo (by decide)) rfl rfl ?_
  unfold eLog at hck hrn
  simp (disch := omega) [eLog, hck, hrn, Und, -Bool.exists_bool]
  refine lp_loop pl (fun k fr σ => ∃ (e : Nat) (g : Nat → Bool), e + k = 61 ∧ el ≤ e ∧ (e : Int) ≤ E.hi + 1 ∧ fr = ⟨[(1, .ptr (some (0, 0))), (2, .ptr none), (3, .int .i64 0), (5, .ptr (some (2, 0))), (6, .ptr (some (3, 0))), (7, .int .i64 e)], []⟩ ∧ σ.lim = 0 ∧ 4 ≤ σ.next ∧
      σ.get 0 = some (.cells [.int .i64 E.lo, .int .i64 E.hi, .int .i64 N.lo, .int .i64 N.hi, vl eStp nS S]) ∧ σ.get 1 = some (.cells (logC E N nS S (.vsl true []))) ∧ σ.get 2 = some (.cells [.ptr (some (1, 0))]) ∧ σ.get 3 = some (.cells (seaC g)) ∧
      ∀ m, m < 3600 → g m = (in0 E N m && allN (nth (sgs S S.length) 0) m && decide (m < 60 * e)))
    ⟨61 - el, el, fun _ => false, by omega, by omega, by omega, by rw [hel], rfl, by simp, by simp, by simp; rfl, by simp, by simp, fun m hm => ?_⟩ ?_
  · by_cases h : m < 60 * el
    · have : in0 E N m = false := by
        unfold in0
        rw [show inI E.lo E.hi ((m / 60 : Nat) : Int) = false by unfold inI; exact decide_eq_false (by omega)]; rfl
      rw [this]; rfl
    · rw [decide_eq_false h, Bool.and_false]
  rintro k _ σ ⟨e, g, hek, hee, heh, rfl, s0, sn, sg0, sg1, sg2, sg3, hg⟩
  have l0 := AH.get_lt sg0
  have l1 := AH.get_lt sg1
  have l2 := AH.get_lt sg2
  have l3 := AH.get_lt sg3
  by_cases hel2 : (e : Int) ≤ E.hi
  · simp (disch := omega) [Und, eqf1, eqf2, s0, sg0, sg1, sg2, sg3, l0, l1, l2, l3, hel2, -Bool.exists_bool]
    refine lp_loop pl (fun k fr σ => ∃ (n : Nat) (g : Nat → Bool), n + k = 61 ∧ nl ≤ n ∧ (n : Int) ≤ N.hi + 1 ∧ fr = ⟨[(1, .ptr (some (0, 0))), (2, .ptr none), (3, .int .i64 0), (5, .ptr (some (2, 0))), (6, .ptr (some (3, 0))), (7, .int .i64 e), (8, .int .i64 n)], []⟩ ∧ σ.lim = 0 ∧ 4 ≤ σ.next ∧
        σ.get 0 = some (.cells [.int .i64 E.lo, .int .i64 E.hi, .int .i64 N.lo, .int .i64 N.hi, vl eStp nS S]) ∧ σ.get 1 = some (.cells (logC E N nS S (.vsl true []))) ∧ σ.get 2 = some (.cells [.ptr (some (1, 0))]) ∧ σ.get 3 = some (.cells (seaC g)) ∧
        ∀ m, m < 3600 → g m = (in0 E N m && allN (nth (sgs S S.length) 0) m && decide (m < 60 * e + n)))
      ⟨61 - nl, nl, g, by omega, by omega, by omega, by rw [hnl], s0, sn, sg0, sg1, sg2, sg3, fun m hm => ?_⟩ ?_
    · rw [hg m hm]
      by_cases h : m < 60 * e
      · rw [decide_eq_true h, decide_eq_true (by omega)]
      · by_cases h2 : m < 60 * e + nl
        · have : in0 E N m = false := by
            unfold in0
            rw [show inI N.lo N.hi ((m % 60 : Nat) : Int) = false by unfold inI; exact decide_eq_false (by omega)]; simp
          rw [this]; rfl
        · rw [decide_eq_false h, decide_eq_false h2]
    rintro k2 _ τ ⟨n, g2, hnk, hnn, hnh, rfl, t0, tn, tg0, tg1, tg2, tg3, hg2⟩
    have m0 := AH.get_lt tg0
    have m1 := AH.get_lt tg1
    have m2 := AH.get_lt tg2
    have m3 := AH.get_lt tg3
    by_cases hnl2 : (n : Int) ≤ N.hi
    · simp (disch := omega) [Und, eqf1, eqf2, t0, tg0, tg1, tg2, tg3, m0, m1, m2, m3, hnl2, -Bool.exists_bool]
      have hG0 : 0 < (sgs S S.length).length := by omega
      refine fits_call (nl := false) (G := sgs S S.length) (i := 0) tg1 logC_len logC_6 hG0 (hprt 0 hG0) (by have := sgs_sum S S.length (Nat.le_refl _) 0 hG0; have := hz.1; omega) (by omega) (by omega) (by omega) fun τ' ho => ?_
      have u0 := ho.lim.trans t0
      have un := ho.next
      have ug : ∀ z, z < τ.next → τ'.get z = τ.get z := fun z hz => ho.get z hz (by simp)
      have ug3 := (ug 3 m3).trans tg3
      have v3 := AH.get_lt ug3
      have hsl := seaC_len g2
      have ix : e * 60 + n < 3600 := by omega
      have ix1 : e * 60 + n + 1 ≤ 3600 := by omega
      have ix2 : e * 60 + 60 ≤ 3600 := by omega
      have hset := fun b => seaC_set g2 (e * 60 + n) b
      simp (disch := omega) [Und, eqf1, eqf2, u0, ug3, v3, hsl, ix, ix1, ix2, hset, -Bool.exists_bool]
      refine ⟨by omega, by omega, k2 - 1, by omega, n + 1, by omega, by omega, by omega, by omega, by omega, (ug 0 m0).trans tg0, (ug 1 m1).trans tg1, (ug 2 m2).trans tg2, _, rfl, fun m hm => ?_⟩
      by_cases h : m = e * 60 + n
      · rw [if_pos h]
        have h1 : m / 60 = e := by omega
        have h2 : m % 60 = n := by omega
        have h3 : in0 E N m = true := by
          unfold in0
          rw [h1, h2]
          unfold inI
          rw [decide_eq_true (by omega), decide_eq_true (by omega)]; rfl
        rw [h3, decide_eq_true (by omega), allN_eq, h1, h2]; simp
      · rw [if_neg h, hg2 m hm]
        by_cases h2 : m < 60 * e + n
        · rw [decide_eq_true h2, decide_eq_true (by omega)]
        · rw [decide_eq_false h2, decide_eq_false (by omega)]
    · simp (disch := omega) [Und, eqf1, eqf2, t0, tg0, tg1, tg2, tg3, m0, m1, m2, m3, hnl2, -Bool.exists_bool]
      refine ⟨k - 1, by omega, e + 1, by omega, by omega, by omega, by omega, by omega, g2, rfl, fun m hm => ?_⟩
      rw [hg2 m hm]
      by_cases h : m < 60 * e + n
      · rw [decide_eq_true h, decide_eq_true (by omega)]
      · by_cases h2 : m < 60 * (e + 1)
        · have : in0 E N m = false := by
            unfold in0
            rw [show inI N.lo N.hi ((m % 60 : Nat) : Int) = false by unfold inI; exact decide_eq_false (by omega)]; simp
          rw [this]; rfl
        · rw [decide_eq_false h, decide_eq_false h2]
  · simp (disch := omega) [Und, eqf1, eqf2, s0, sg0, sg1, sg2, sg3, l0, l1, l2, l3, hel2, -Bool.exists_bool, -getElem?_pos]
    have c0 : ∀ m, m < 3600 → g m = can E N (rns S) (sgs S S.length) 0 m := fun m hm => by
      rw [hg m hm]
      simp only [can]
      by_cases h : m < 60 * e
      · rw [decide_eq_true h, Bool.and_true]
      · have : in0 E N m = false := by
          unfold in0
          rw [show inI E.lo E.hi ((m / 60 : Nat) : Int) = false by unfold inI; exact decide_eq_false (by omega)]; rfl
        rw [this]; rfl
    rw [seaC_congr c0] at sg3
    refine Buf.push (lo := σ.next) (e := eP) (σ := σ.under σ.next) (v := .vsl true []) (xs := []) (.inl ⟨rfl, rfl⟩) encP (Nat.le_refl _) (Nat.le_refl _) 3 (by simp [topBytes]) rfl fun cv τ h3 g3 => ?_
    have n3 : σ.next ≤ τ.next := g3.next
    have tg : ∀ z, z < σ.next → τ.get z = σ.get z := fun z hz => g3.get z hz
    have tg1 := (tg 1 l1).trans sg1
    have tg2 := (tg 2 l2).trans sg2
    have tg3 := (tg 3 l3).trans sg3
    have tl1 := AH.get_lt tg1
    have tl2 := AH.get_lt tg2
    have tl : τ.lim = σ.next := g3.lim
    obtain ⟨x1, x2, x3⟩ := buf_cel h3
    simp (disch := omega) [Und, eqf1, eqf2, tg1, tg2, tg3, tl1, tl2, tl, x1, x2, x3, -Bool.exists_bool, -getElem?_pos]
    have hcl : ∀ z ∈ obj cv, σ.next ≤ z := fun z hz => (h3.obj_lt z hz).1
    generalize hυ : AH.set _ 1 _ = υ
    have hL0 : LI E N nS S 0 υ cv [3] := by
      have u1 : υ.get 1 = some (.cells (logC E N nS S cv)) := by rw [← hυ]; exact AH.get_set_same _ _ _ tl1
      have ug : ∀ z, z ≠ 1 → υ.get z = τ.get z := fun z hz => by rw [← hυ]; exact AH.get_set_other _ _ _ _ hz
      have un : υ.next = τ.next := by rw [← hυ]; rfl
      refine ⟨by rw [← hυ]; rfl, by omega, u1, (ug 2 (by omega)).trans tg2, ?_, rfl, fun j hj => ?_⟩
      · exact (buf_lower h3 (by omega)).keep fun z hz _ => ug z (by omega)
      · obtain rfl : j = 0 := by omega
        exact ⟨Nat.le_refl _, (ug 3 (by omega)).trans tg3, fun h => by have := hcl 3 h; omega⟩
    clear hυ
    refine lp_loop pl (fun k fr σ => ∃ (i : Nat) (cv : AV) (ps M : List Nat), i + k = (rns S).length ∧ fr = ⟨[(2, .ptr none), (3, .int .i64 0), (5, .ptr (some (2, 0))), (80, vl eStp (rns S).isEmpty (rns S)), (81, .int .i64 (rns S).length), (82, .int .i64 i)], M⟩ ∧ LI E N nS S i σ cv ps ∧ M.Nodup ∧ ∀ m ∈ M, 3 ≤ m ∧ σ.get m = some .dfr)
      ⟨(rns S).length, 0, cv, [3], [], by omega, rfl, hL0, .nil, fun m hm => by cases hm⟩ ?_
    clear hL0 hcl tl tl1 tl2 tg1 tg2 tg3 tg n3 g3 h3 x1 x2 x3 c0
    rintro k _ σ ⟨i, cv, ps, M, hik, rfl, hL, hM, hMd⟩
    have s0 := hL.lim
    have sn := hL.nx
    have lg1 := AH.get_lt hL.g1
    have lg2 := AH.get_lt hL.g2
    rcases id hL.cb with ⟨_, e2⟩ | ⟨co, rfl, co1, cog, co4⟩
    · have := hL.pl; rw [e2] at this; simp at this
    have lco := AH.get_lt cog
    have hpl := hL.pl
    by_cases hiR : i < (rns S).length
    · have hiR' : (i : Int) < (rns S).length := by omega
      have rc := row_cell encP (xs := ps) (j := i) (c := 0) (by omega) (by omega)
      have rcl := rowOf_length encP ps
      have hcc : (eP (nth ps i)).cells[0]? = some (eP (nth ps i)) := rfl
      rw [hcc] at rc
      simp at rc rcl
      have i1 : (i : Int) < ps.length := by omega
      have i2 : i < ps.length := by omega
      have i3 : i + 1 ≤ ps.length := by omega
      obtain ⟨pj1, pj2, pj3⟩ := hL.pj i (Nat.le_refl _)
      have pjl := AH.get_lt pj2
      simp (disch := omega) [eStp, Und, eqf1, eqf2, s0, hiR', hL.g1, hL.g2, lg1, lg2, cog, lco, rc, rcl, i1, i2, i3, ltT, -Bool.exists_bool, -getElem?_pos]
      generalize hT : AH.set _ (σ.next + 1 + 1 + 1) _ = T
      have t0 : T.lim = 0 := by rw [← hT]; exact s0
      have tn : T.next = σ.next + 4 := by rw [← hT]; rfl
      have tg : ∀ z, z < σ.next → T.get z = σ.get z := fun z hz => by
        have y1 : ¬ z = σ.next := by omega
        have y2 : ¬ z = σ.next + 1 := by omega
        have y3 : ¬ z = σ.next + 1 + 1 := by omega
        have y4 : ¬ z = σ.next + 1 + 1 + 1 := by omega
        rw [← hT]; simp (disch := omega) [y1, y2, y3, y4]
      have ti : T.get σ.next = some (.cells [.int .i64 i]) := by rw [← hT]; simp (disch := omega) [eqf1, eqf2, ltT]
      have ts : T.get (σ.next + 1) = some (.cells [.int .i64 (nth (rns S) i).k, .int .i64 (nth (rns S) i).a, .int .i64 (nth (rns S) i).b, .int .i64 (nth (rns S) i).vlo, .int .i64 (nth (rns S) i).vhi, .int .i64 (nth (rns S) i).elo, .int .i64 (nth (rns S) i).ehi, .int .i64 (nth (rns S) i).nlo, .int .i64 (nth (rns S) i).nhi, vl eSpan (nth (rns S) i).cn (nth (rns S) i).cl]) := by rw [← hT]; simp (disch := omega) [eqf1, eqf2, ltT]
      have tb : T.get (σ.next + 2) = some (.cells (seaC fun _ => false)) := by rw [← hT]; simp (disch := omega) [eqf1, eqf2, ltT]
      have tp : T.get (σ.next + 3) = some (.cells [.ptr (some (σ.next + 2, 0))]) := by rw [← hT]; simp (disch := omega) [eqf1, eqf2, ltT]
      clear hT
      have hst := okLog_run hok i hiR
      refine rg_of (h := 81) (xs := [eP (nth ps i)]) (ys := []) rfl ?_
      show Call prog O (.fn 81) [eP (nth ps i), .func (.yield (T.next + 1)) [] []] _ _
      generalize henv : (List.cons _ _ : Env) = env
      refine points_ok (f := can E N (rns S) (sgs S S.length) i) (lm := 0) (I := fun n s => OY T (σ.next + 2) env (nth (rns S) i) (can E N (rns S) (sgs S S.length) i) n s) (J := fun _ => False) (fun n s hI hn => ?_) (fun n s hI => hI.lim) (fun n s hI hn hf => ?_) (fun n s hI hn hf => ?_) ?_ (fun s hI => ?_) (fun s hj => hj.elim)
      · refine .inr ⟨nth ps i, _, rfl, ?_, seaC_len _, seaC_get hn⟩
        rw [hI.low _ (by omega) (by omega), tg _ pjl]; exact pj2
      · refine ⟨hI.lim, hI.nx, hI.low, hI.mark, hI.loop, ?_⟩
        rw [hI.sea]
        exact congrArg (fun c => some (AObj.cells c)) (seaC_congr fun q _ => by rw [mvt_succ, hf]; simp)
      · obtain ⟨y0, y1, y2, y3, y4, y5⟩ := hI
        obtain ⟨pe, hpe⟩ : ∃ pe : Nat, n / 60 = pe := ⟨_, rfl⟩
        obtain ⟨pn, hpn⟩ : ∃ pn : Nat, n % 60 = pn := ⟨_, rfl⟩
        rw [hpe, hpn]
        refine yield_of' pl y4 get38 rfl rfl (by omega) rfl ?_
        subst henv
        simp (disch := omega) [y0, Und, -Bool.exists_bool]
        generalize hs1 : AH.set (s.push _) s.next _ = s1
        have x0 : s1.lim = 0 := by rw [← hs1]; exact y0
        have xn : s1.next = s.next + 1 := by rw [← hs1]; rfl
        have xg : ∀ k, k < s.next → s1.get k = s.get k := fun k hk => by rw [← hs1, AH.get_set_other _ _ _ _ (by omega), AH.get_push_old _ _ _ (by omega)]
        have xs : s1.get s.next = some (.cells [.int .i64 pe, .int .i64 pn]) := by rw [← hs1, AH.get_set_same _ _ _ (Nat.lt_succ_self _)]
        have x4 : s1.get (T.next + 1) = _ := (xg _ (by omega)).trans y4
        have x5 : s1.get (σ.next + 2) = _ := (xg _ (by omega)).trans y5
        have xst : s1.get (σ.next + 1) = _ := ((xg _ (by omega)).trans (y2 _ (by omega) (by omega))).trans ts
        have xp : s1.get (σ.next + 3) = _ := ((xg _ (by omega)).trans (y2 _ (by omega) (by omega))).trans tp
        clear hs1
        rw [ak_of x4]
        have r5 := AH.get_lt x4
        generalize hob : AObj.loop _ _ _ LoopState.busy none T.next = ob
        generalize hs2 : s1.set (T.next + 1) ob = s2
        have t0' : s2.lim = 0 := by rw [← hs2]; exact x0
        have tn' : s2.next = s1.next := by rw [← hs2]; rfl
        have tg' : ∀ k, k ≠ T.next + 1 → s2.get k = s1.get k := fun k hk => by rw [← hs2, AH.get_set_other _ _ _ _ hk]
        have t7' : s2.get (T.next + 1) = some ob := by rw [← hs2, AH.get_set_same _ _ _ r5]
        clear hs2
        have t5' : s2.get (σ.next + 2) = _ := (tg' _ (by omega)).trans x5
        have tst' : s2.get (σ.next + 1) = _ := (tg' _ (by omega)).trans xst
        have tp' : s2.get (σ.next + 3) = _ := (tg' _ (by omega)).trans xp
        have ts' : s2.get s.next = _ := (tg' _ (by omega)).trans xs
        have l1' := AH.get_lt tst'
        have l2' := AH.get_lt ts'
        have l3' := AH.get_lt tp'
        simp (disch := omega) [eqf1, eqf2, t0', tst', ts', tp', l1', l2', l3', Und, -Bool.exists_bool, -getElem?_pos]
        refine next_call (s := nth (rns S) i) (by omega) ?_
        have m1 : ¬ s2.next + 1 + 1 = s2.next := by omega
        simp (disch := omega) [eqf1, eqf2, Und, -Bool.exists_bool, -getElem?_pos]
        generalize hU : AH.push (AH.push (AH.push s2 _) _) _ = U
        have u0 : U.lim = 0 := by rw [← hU]; exact t0'
        have un : U.next = s2.next + 3 := by rw [← hU]; rfl
        have ug : ∀ z, z < s2.next → U.get z = s2.get z := fun z hz => by rw [← hU]; simp (disch := omega) [eqf1, eqf2]
        have ub1 : U.get s2.next = some (.cells (eStp (nth (rns S) i)).cells) := by rw [← hU]; simp (disch := omega) [eqf1, eqf2]
        have ub3 : U.get (s2.next + 1) = some (.cells [.int .i64 pe, .int .i64 pn]) := by rw [← hU]; simp (disch := omega) [eqf1, eqf2]
        have ub2 : U.get (s2.next + 2) = some (.cells [.bool false]) := by rw [← hU]; simp (disch := omega) [eqf1, eqf2]
        clear hU
        have u7 : U.get (T.next + 1) = some ob := (ug _ (by omega)).trans t7'
        have u5 : U.get (σ.next + 2) = _ := (ug _ (by omega)).trans t5'
        have up : U.get (σ.next + 3) = _ := (ug _ (by omega)).trans tp'
        rw [← hob] at u7
        refine rg_in (h := 113) (xs := []) (ys := [.ptr (some (s2.next, 0)), .ptr (some (s2.next + 2, 0)), .ptr (some (s2.next + 1, 0))]) rfl u7 ?_
        show Call prog O (.fn 113) [.func (.yield U.next) [] [], .ptr (some (s2.next, 0)), .ptr (some (s2.next + 2, 0)), .ptr (some (s2.next + 1, 0))] _ _
        generalize henv2 : (List.cons _ _ : Env) = env2
        refine next1_ok (lo := s2.next + 4) (lm := 0) (s := nth (rns S) i) (back := false) (p := n) (I := fun m u => NY U (σ.next + 2) U.next T.next env2 (nth (rns S) i) (mvt (nth (rns S) i) (can E N (rns S) (sgs S S.length) i) n) n m u) (J := fun _ => False) hst.1 hn (fun m u hI => ?_) (fun m u u' hI ho => ?_) (fun m u hI hm hf2 => ?_) (fun m u hI hm hf2 => ?_) ?_ (fun u hI => ?_) (fun u hj => hj.elim)
        · obtain ⟨z0, z1, z2, z3, z4⟩ := hI
          rw [hpe, hpn]
          exact ⟨(z2 _ (by omega) (by omega)).trans ub1, (z2 _ (by omega) (by omega)).trans ub2, (z2 _ (by omega) (by omega)).trans ub3, by omega, by omega, by omega, by omega, z0, by omega⟩
        · obtain ⟨z0, z1, z2, z3, z4⟩ := hI
          have og : ∀ k, k < u.next → u'.get k = u.get k := fun k hk => ho.get k hk (by simp)
          have onx := ho.next
          exact ⟨ho.lim.trans z0, by omega, fun k h1 h2 => (og k (by omega)).trans (z2 k h1 h2), (og _ (by omega)).trans z3, (og _ (AH.get_lt z4)).trans z4⟩
        · obtain ⟨z0, z1, z2, z3, z4⟩ := hI
          refine ⟨z0, z1, z2, z3, z4.trans (congrArg (fun c => some (AObj.cells c)) (seaC_congr fun q _ => ?_))⟩
          by_cases e : q = m
          · subst e
            have : go (nth (rns S) i) n q = false := hf2
            rw [this]; simp
          · by_cases e2 : q < m
            · rw [decide_eq_true e2, decide_eq_true (show q < m + 1 by omega)]
            · rw [decide_eq_false e2, decide_eq_false (show ¬ q < m + 1 by omega)]
        · obtain ⟨z0, z1, z2, z3, z4⟩ := hI
          obtain ⟨qe, hqe⟩ : ∃ qe : Nat, m / 60 = qe := ⟨_, rfl⟩
          obtain ⟨qn, hqn⟩ : ∃ qn : Nat, m % 60 = qn := ⟨_, rfl⟩
          rw [hqe, hqn]
          refine yield_of' pl z3 get38 rfl rfl (by omega) rfl ?_
          subst henv2
          simp (disch := omega) [z0, Und, -Bool.exists_bool]
          generalize hv1 : AH.set (u.push _) u.next _ = v1
          have a0 : v1.lim = 0 := by rw [← hv1]; exact z0
          have an : v1.next = u.next + 1 := by rw [← hv1]; rfl
          have ag : ∀ k, k < u.next → v1.get k = u.get k := fun k hk => by rw [← hv1, AH.get_set_other _ _ _ _ (by omega), AH.get_push_old _ _ _ (by omega)]
          have ax : v1.get u.next = some (.cells [.int .i64 qe, .int .i64 qn]) := by rw [← hv1, AH.get_set_same _ _ _ (Nat.lt_succ_self _)]
          clear hv1
          have a3 : v1.get U.next = _ := (ag _ (by omega)).trans z3
          have a4 : v1.get (σ.next + 2) = _ := (ag _ (by omega)).trans z4
          have ap : v1.get (σ.next + 1 + 1 + 1) = _ := ((ag _ (by omega)).trans (z2 _ (by omega) (by omega))).trans up
          rw [ak_of a3]
          have ra := AH.get_lt a3
          generalize hob2 : AObj.loop _ _ _ LoopState.busy none T.next = ob2
          generalize hv2 : v1.set U.next ob2 = v2
          have b0 : v2.lim = 0 := by rw [← hv2]; exact a0
          have bn : v2.next = v1.next := by rw [← hv2]; rfl
          have bg : ∀ k, k ≠ U.next → v2.get k = v1.get k := fun k hk => by rw [← hv2, AH.get_set_other _ _ _ _ hk]
          have b3 : v2.get U.next = some ob2 := by rw [← hv2, AH.get_set_same _ _ _ ra]
          clear hv2
          have b4 : v2.get (σ.next + 2) = _ := (bg _ (by omega)).trans a4
          have bp : v2.get (σ.next + 1 + 1 + 1) = _ := (bg _ (by omega)).trans ap
          have bs : v2.get u.next = _ := (bg _ (by omega)).trans ax
          rw [← hob2] at b3
          have lb4 := AH.get_lt b4
          have lbp := AH.get_lt bp
          have lbs := AH.get_lt bs
          have hsl := seaC_len fun q => mvt (nth (rns S) i) (can E N (rns S) (sgs S S.length) i) n q || (decide (q < m) && go (nth (rns S) i) n q)
          have ix : qe * 60 + qn < 3600 := by omega
          have ix1 : qe * 60 + qn + 1 ≤ 3600 := by omega
          have ix2 : qe * 60 + 60 ≤ 3600 := by omega
          have ix3 : (qe : Int) < 60 := by omega
          have ix4 : (qn : Int) < 60 := by omega
          have ix5 : qe * 60 + qn = m := by omega
          have hset := seaC_set (fun q => mvt (nth (rns S) i) (can E N (rns S) (sgs S S.length) i) n q || (decide (q < m) && go (nth (rns S) i) n q)) (qe * 60 + qn) true
          have hb2 : v2.get (σ.next + 1 + 1) = _ := b4
          have lb5 := AH.get_lt hb2
          simp (disch := omega) [Und, eqf1, eqf2, b0, hb2, bp, bs, lb5, lbp, lbs, hsl, ix, ix1, ix2, ix3, ix4, hset, -Bool.exists_bool, -getElem?_pos]
          have c3 : (v2.set (σ.next + 2) (AObj.cells (seaC fun m_1 => decide (m_1 = qe * 60 + qn) || (mvt (nth (rns S) i) (can E N (rns S) (sgs S S.length) i) n m_1 || decide (m_1 < m) && go (nth (rns S) i) n m_1)))).get U.next = _ := (AH.get_set_other _ _ _ _ (by omega)).trans b3
          refine bd_normal c3 ⟨rfl, ⟨b0, ?_, fun k h1 h2 => ?_, ?_, ?_⟩, ⟨b0.trans z0.symm, ?_, fun k h1 h2 => ?_⟩⟩
          · show U.next + 1 ≤ v2.next; omega
          · rw [AH.get_set_other _ _ _ _ (by omega), AH.get_set_other _ _ _ _ h2, bg k (by omega), ag k (by omega)]; exact z2 k h1 h2
          · exact AH.get_set_same _ _ _ (by show U.next < v2.next; omega)
          · rw [AH.get_set_other _ _ _ _ (by omega), AH.get_set_same _ _ _ lb4]
            refine congrArg (fun c => some (AObj.cells c)) (seaC_congr fun q _ => ?_)
            have hgo : go (nth (rns S) i) n m = true := hf2
            by_cases e : q = m
            · rw [e, decide_eq_true ix5.symm, hgo, decide_eq_true (Nat.lt_succ_self m)]; simp
            · rw [decide_eq_false (show ¬ q = qe * 60 + qn by omega), Bool.false_or]
              by_cases e2 : q < m
              · rw [decide_eq_true e2, decide_eq_true (show q < m + 1 by omega)]
              · rw [decide_eq_false e2, decide_eq_false (show ¬ q < m + 1 by omega)]
          · show u.next ≤ v2.next; omega
          · rw [AH.get_set_other _ _ _ _ (by omega), AH.get_set_other _ _ _ _ (by omega), bg k (by omega), ag k (by omega)]
        · refine ⟨u0, by simp, fun k h1 h2 => ?_, ?_, ?_⟩
          · simp (disch := omega) [eqf1, eqf2]
          · simp (disch := omega) [eqf1, eqf2]
          · simp (disch := omega) [eqf1, eqf2, u5]
        · obtain ⟨z0, z1, z2, z3, z4⟩ := hI
          refine ⟨_, _, _, _, _, _, z3, by simp, by omega, ?_⟩
          subst henv2
          generalize hs4 : u.set U.next _ = s4
          have f0 : s4.lim = 0 := by rw [← hs4]; exact z0
          have fn : s4.next = u.next := by rw [← hs4]; rfl
          have fg : ∀ k, k ≠ U.next → s4.get k = u.get k := fun k hk => by rw [← hs4]; exact AH.get_set_other _ _ _ _ hk
          clear hs4
          have f7 : s4.get (T.next + 1) = _ := ((fg _ (by omega)).trans (z2 _ (by omega) (by omega))).trans u7
          simp (disch := omega) [Und, eqf1, eqf2, f0, -Bool.exists_bool, -getElem?_pos]
          refine bd_normal f7 ⟨rfl, ⟨f0, ?_, fun k h1 h2 => ?_, ?_, ?_, ?_⟩⟩
          · show T.next + 2 ≤ s4.next; omega
          · rw [AH.get_set_other _ _ _ _ (by omega), fg k (by omega), z2 k (by omega) h2, ug k (by omega), tg' k (by omega), xg k (by omega)]; exact y2 k h1 h2
          · rw [AH.get_set_other _ _ _ _ (by omega), fg _ (by omega), z2 _ (by omega) (by omega), ug _ (by omega), tg' _ (by omega), xg _ (by omega)]; exact y3
          · exact AH.get_set_same _ _ _ (AH.get_lt f7)
          · rw [AH.get_set_other _ _ _ _ (by omega), fg _ (by omega), z4]
            refine congrArg (fun c => some (AObj.cells c)) (seaC_congr fun q hq => ?_)
            rw [mvt_succ, hf, decide_eq_true hq]
      · refine ⟨t0, by simp, fun k hk _ => ?_, ?_, ?_, ?_⟩
        · simp (disch := omega) [eqf1, eqf2]
        · simp (disch := omega) [eqf1, eqf2]
        · simp (disch := omega) [eqf1, eqf2]
        · simp (disch := omega) [eqf1, eqf2, tb]
          rfl
      · refine ⟨_, _, _, _, _, _, hI.loop, by simp, by rw [hI.lim]; omega, ?_⟩
        subst henv
        generalize hs4 : s.set (T.next + 1) _ = s4
        have f0 : s4.lim = 0 := by rw [← hs4]; exact hI.lim
        have fn : s4.next = s.next := by rw [← hs4]; rfl
        have fg : ∀ k, k ≠ T.next + 1 → s4.get k = s.get k := fun k hk => by rw [← hs4]; exact AH.get_set_other _ _ _ _ hk
        have hnx := hI.nx
        have f11 : s4.get (σ.next + 1 + 1 + 1) = _ := ((fg _ (by omega)).trans (hI.low _ (by omega) (by omega))).trans tp
        have l11 := AH.get_lt f11
        simp (disch := omega) [Und, eqf1, eqf2, f0, f11, l11, -Bool.exists_bool, -getElem?_pos]
        have g0 : ∀ z, z < T.next → z ≠ σ.next + 2 → s4.get z = T.get z := fun z h1 h2 => (fg z (by omega)).trans (hI.low z h1 h2)
        have gb : s4.get (σ.next + 2) = some (.cells (seaC (mv (nth (rns S) i) (can E N (rns S) (sgs S S.length) i)))) := (fg _ (by omega)).trans hI.sea
        have gm : s4.get T.next = some .dfr := (fg _ (by omega)).trans hI.mark
        have hsn : T.next + 2 ≤ s4.next := by omega
        clear f11 l11 fg hs4 hnx hI
        refine rg_of (h := 81) (xs := [.ptr (some (σ.next + 2, 0))]) (ys := []) rfl ?_
        show Call prog O (.fn 81) [.ptr (some (σ.next + 2, 0)), .func (.yield (s4.next + 1)) [] []] _ _
        generalize henv : (List.cons _ _ : Env) = env
        refine points_ok (f := mv (nth (rns S) i) (can E N (rns S) (sgs S S.length) i)) (lm := 0) (I := fun n u => PY s4 (σ.next + 2) env (fun q => mv (nth (rns S) i) (can E N (rns S) (sgs S S.length) i) q) (allN (nth (sgs S S.length) (i + 1))) n u) (J := fun _ => False) (fun n u hI hn => ?_) (fun n u hI => hI.lim) (fun n u hI hn hf => ?_) (fun n u hI hn hf => ?_) ?_ (fun u hI => ?_) (fun u hj => hj.elim)
        · refine .inr ⟨σ.next + 2, _, rfl, hI.sea, seaC_len _, ?_⟩
          rw [seaC_get hn, decide_eq_true (Nat.le_refl n)]; simp
        · refine ⟨hI.lim, hI.nx, hI.low, hI.mark, hI.loop, ?_⟩
          rw [hI.sea]
          refine congrArg (fun c => some (AObj.cells c)) (seaC_congr fun q _ => ?_)
          by_cases e : q = n
          · rw [e, hf]; simp
          · by_cases e2 : n ≤ q
            · rw [decide_eq_true e2, decide_eq_true (show n + 1 ≤ q by omega)]
            · rw [decide_eq_false e2, decide_eq_false (show ¬ n + 1 ≤ q by omega)]
        · obtain ⟨y0, y1, y2, y3, y4, y5⟩ := hI
          obtain ⟨pe, hpe⟩ : ∃ pe : Nat, n / 60 = pe := ⟨_, rfl⟩
          obtain ⟨pn, hpn⟩ : ∃ pn : Nat, n % 60 = pn := ⟨_, rfl⟩
          rw [hpe, hpn]
          refine yield_of' pl y4 get38 rfl rfl (by omega) rfl ?_
          subst henv
          simp (disch := omega) [y0, Und, -Bool.exists_bool]
          generalize hs1 : AH.set (u.push _) u.next _ = s1
          have x0 : s1.lim = 0 := by rw [← hs1]; exact y0
          have xn : s1.next = u.next + 1 := by rw [← hs1]; rfl
          have xg : ∀ k, k < u.next → s1.get k = u.get k := fun k hk => by rw [← hs1, AH.get_set_other _ _ _ _ (by omega), AH.get_push_old _ _ _ (by omega)]
          have xs : s1.get u.next = some (.cells [.int .i64 pe, .int .i64 pn]) := by rw [← hs1, AH.get_set_same _ _ _ (Nat.lt_succ_self _)]
          clear hs1
          have x4 : s1.get (s4.next + 1) = _ := (xg _ (by omega)).trans y4
          have x5 : s1.get (σ.next + 2) = _ := (xg _ (by omega)).trans y5
          have xl : ∀ z, z < T.next → z ≠ σ.next + 2 → s1.get z = T.get z := fun z h1 h2 => by rw [xg z (by omega), y2 z (by omega) h2, g0 z h1 h2]
          rw [ak_of x4]
          have r5 := AH.get_lt x4
          generalize hob : AObj.loop _ _ _ LoopState.busy none s4.next = ob
          generalize hs2 : s1.set (s4.next + 1) ob = s2
          have t0' : s2.lim = 0 := by rw [← hs2]; exact x0
          have tn' : s2.next = s1.next := by rw [← hs2]; rfl
          have tg' : ∀ k, k ≠ s4.next + 1 → s2.get k = s1.get k := fun k hk => by rw [← hs2, AH.get_set_other _ _ _ _ hk]
          have t7' : s2.get (s4.next + 1) = some ob := by rw [← hs2, AH.get_set_same _ _ _ r5]
          clear hs2
          rw [← hob] at t7'
          have t5' : s2.get (σ.next + 1 + 1) = _ := (tg' _ (by omega)).trans x5
          have tl' : ∀ z, z < T.next → z ≠ σ.next + 2 → s2.get z = T.get z := fun z h1 h2 => (tg' z (by omega)).trans (xl z h1 h2)
          have tp' : s2.get (σ.next + 1 + 1 + 1) = _ := (tl' _ (by omega) (by omega)).trans tp
          have ti' : s2.get σ.next = _ := (tl' _ (by omega) (by omega)).trans ti
          have ts' : s2.get u.next = _ := (tg' _ (by omega)).trans xs
          have t2' : s2.get 2 = _ := ((tl' _ (by omega) (by omega)).trans (tg 2 lg2)).trans hL.g2
          have t1' : s2.get 1 = _ := ((tl' _ (by omega) (by omega)).trans (tg 1 lg1)).trans hL.g1
          have l1' := AH.get_lt t5'
          have l2' := AH.get_lt tp'
          have l3' := AH.get_lt ti'
          have l4' := AH.get_lt ts'
          have l5' := AH.get_lt t2'
          have l6' := AH.get_lt t1'
          simp (disch := omega) [eqf1, eqf2, t0', t5', tp', ti', ts', t2', l1', l2', l3', l4', l5', Und, -Bool.exists_bool, -getElem?_pos]
          have hw : ((i : Int) + 1) = ((i + 1 : Nat) : Int) := by omega
          rw [hw]
          have hGi : i + 1 < (sgs S S.length).length := by omega
          refine fits_call (nl := false) (G := sgs S S.length) (i := i + 1) (σ := s2.under s2.next) (o := 1) t1' logC_len logC_6 hGi (hprt _ hGi) (by have := sgs_sum S S.length (Nat.le_refl _) _ hGi; have := hz.1; omega) (Nat.le_refl _) (by omega) (by omega) fun τ' ho => ?_
          have v0 : τ'.lim = s2.next := ho.lim
          have vn : s2.next ≤ τ'.next := ho.next
          have vg : ∀ z, z < s2.next → τ'.get z = s2.get z := fun z hz => ho.get z hz (by simp)
          clear ho
          have v5 := (vg _ l1').trans t5'
          have v7 := (vg _ (AH.get_lt t7')).trans t7'
          have lv5 := AH.get_lt v5
          have hsl := seaC_len fun q => mv (nth (rns S) i) (can E N (rns S) (sgs S S.length) i) q && (decide (n ≤ q) || allN (nth (sgs S S.length) (i + 1)) q)
          have ix : pe * 60 + pn < 3600 := by omega
          have ix1 : pe * 60 + pn + 1 ≤ 3600 := by omega
          have ix2 : pe * 60 + 60 ≤ 3600 := by omega
          have ix3 : (pe : Int) < 60 := by omega
          have ix4 : (pn : Int) < 60 := by omega
          have ix5 : pe * 60 + pn = n := by omega
          have hset := fun b => seaC_set (fun q => mv (nth (rns S) i) (can E N (rns S) (sgs S S.length) i) q && (decide (n ≤ q) || allN (nth (sgs S S.length) (i + 1)) q)) (pe * 60 + pn) b
          simp (disch := omega) [Und, eqf1, eqf2, t0', v0, v5, lv5, hsl, ix, ix1, ix2, ix3, ix4, hset, -Bool.exists_bool, -getElem?_pos]
          have c3 : ((τ'.under 0).set (σ.next + 2) (AObj.cells (seaC fun m => if m = pe * 60 + pn then allH (nth (sgs S S.length) (i + 1)) ↑pe ↑pn else mv (nth (rns S) i) (can E N (rns S) (sgs S S.length) i) m && (decide (n ≤ m) || allN (nth (sgs S S.length) (i + 1)) m)))).get (s4.next + 1) = _ := (AH.get_set_other _ _ _ _ (by omega)).trans v7
          refine bd_normal c3 ⟨rfl, ⟨rfl, ?_, fun k h1 h2 => ?_, ?_, ?_, ?_⟩⟩
          · show s4.next + 2 ≤ τ'.next; omega
          · rw [AH.get_set_other _ _ _ _ (by omega), AH.get_set_other _ _ _ _ h2]
            show τ'.get k = _
            rw [vg k (by omega), tg' k (by omega), xg k (by omega)]; exact y2 k h1 h2
          · rw [AH.get_set_other _ _ _ _ (by omega), AH.get_set_other _ _ _ _ (by omega)]
            show τ'.get s4.next = _
            rw [vg _ (by omega), tg' _ (by omega), xg _ (by omega)]; exact y3
          · exact AH.get_set_same _ _ _ (by show s4.next + 1 < τ'.next; omega)
          · rw [AH.get_set_other _ _ _ _ (by omega), AH.get_set_same _ _ _ (by show σ.next + 2 < τ'.next; omega)]
            refine congrArg (fun c => some (AObj.cells c)) (seaC_congr fun q _ => ?_)
            by_cases e : q = n
            · rw [if_pos (by omega), e, hf, decide_eq_false (by omega), allN_eq, hpe, hpn]; simp
            · rw [if_neg (by omega)]
              by_cases e2 : n ≤ q
              · rw [decide_eq_true e2, decide_eq_true (show n + 1 ≤ q by omega)]
              · rw [decide_eq_false e2, decide_eq_false (show ¬ n + 1 ≤ q by omega)]
        · refine ⟨f0, by simp, fun k hk _ => ?_, ?_, ?_, ?_⟩
          · simp (disch := omega) [eqf1, eqf2]
          · simp (disch := omega) [eqf1, eqf2]
          · simp (disch := omega) [eqf1, eqf2]
          · have : σ.next + 2 < s4.next := AH.get_lt gb
            simp (disch := omega) [eqf1, eqf2, gb]
        · refine ⟨_, _, _, _, _, _, hI.loop, by simp, by rw [hI.lim]; omega, ?_⟩
          subst henv
          generalize hs5 : u.set (s4.next + 1) _ = s5
          have h0 : s5.lim = 0 := by rw [← hs5]; exact hI.lim
          have hn5 : s5.next = u.next := by rw [← hs5]; rfl
          have hg5 : ∀ k, k ≠ s4.next + 1 → s5.get k = u.get k := fun k hk => by rw [← hs5]; exact AH.get_set_other _ _ _ _ hk
          clear hs5
          have hnx := hI.nx
          have k0 : ∀ z, z < T.next → z ≠ σ.next + 2 → s5.get z = T.get z := fun z h1 h2 => by rw [hg5 z (by omega), hI.low z (by omega) h2, g0 z h1 h2]
          have kb := (hg5 _ (by omega)).trans hI.sea
          have km : s5.get T.next = some .dfr := by rw [hg5 _ (by omega), hI.low _ (by omega) (by omega)]; exact gm
          have km2 : s5.get s4.next = some .dfr := by rw [hg5 _ (by omega)]; exact hI.mark
          have kl : ∀ z, z < σ.next → s5.get z = σ.get z := fun z hz => (k0 z (by omega) (by omega)).trans (tg z hz)
          have kp : s5.get (σ.next + 1 + 1 + 1) = some (.cells [.ptr (some (σ.next + 2, 0))]) := (k0 _ (by omega) (by omega)).trans tp
          have kL := hL.stay (σ' := s5) (h0.trans s0.symm) (by omega) kl
          have kl1 := AH.get_lt kL.g1
          have kl2 := AH.get_lt kL.g2
          have klp := AH.get_lt kp
          have kco := (kl co lco).trans cog
          have klco := AH.get_lt kco
          simp (disch := omega) [Und, eqf1, eqf2, h0, kL.g1, kL.g2, kp, kl1, kl2, klp, kco, klco, -Bool.exists_bool, -getElem?_pos]
          rw [under_zero h0]
          refine kL.cb.push encP (by omega) (by omega) (σ.next + 2) (by rw [hpl]; simp only [topBytes]; omega) rfl fun cv' τ h3 g3 => ?_
          have n3 : s5.next ≤ τ.next := g3.next
          have qg : ∀ z, z < 3 → τ.get z = s5.get z := fun z hz => g3.get z hz
          have q1 := (qg 1 (by omega)).trans kL.g1
          have q2 := (qg 2 (by omega)).trans kL.g2
          have ql1 := AH.get_lt q1
          have ql : τ.lim = 0 := g3.lim.trans h0
          obtain ⟨x1, x2, x3⟩ := buf_cel h3
          simp (disch := omega) [Und, eqf1, eqf2, q1, q2, ql1, ql, x1, x2, x3, -Bool.exists_bool, -getElem?_pos]
          have qo : ∀ z, z < s5.next → z ≠ co → τ.get z = s5.get z := fun z h1 h2 => g3.only.get z h1 (by simp [obj, h2])
          have qf : ∀ z ∈ obj cv', z = co ∨ s5.next ≤ z := fun z hz => (g3.fresh z hz).elim (fun h => .inl (by simpa [obj] using h)) .inr
          have hcan : ∀ q, q < 3600 → (mv (nth (rns S) i) (can E N (rns S) (sgs S S.length) i) q && (decide (3600 ≤ q) || allN (nth (sgs S S.length) (i + 1)) q)) = can E N (rns S) (sgs S S.length) (i + 1) q := fun q hq => by
            rw [decide_eq_false (by omega)]; simp only [can, Bool.false_or]
          rw [seaC_congr hcan] at kb
          have pn0 : ∀ j, j ≤ i → nth (ps ++ [σ.next + 2]) j = nth ps j := fun j hj => nth_app_lo (by omega)
          have pn1 : nth (ps ++ [σ.next + 2]) (i + 1) = σ.next + 2 := by rw [← hpl]; exact nth_app_hi
          refine ⟨k - 1, by omega, i + 1, by omega, cv', ps ++ [σ.next + 2], _, ⟨by omega, rfl⟩, ⟨ql, by show 4 ≤ τ.next; omega, AH.get_set_same _ _ _ ql1, (AH.get_set_other _ _ _ _ (by omega)).trans q2, h3.keep fun z hz _ => AH.get_set_other _ _ _ _ (by omega), by simp [hpl], fun j hj => ?_⟩, ?_, fun m hm => ?_⟩
          · by_cases e : j = i + 1
            · rw [e, pn1]
              refine ⟨by omega, ?_, fun h => ?_⟩
              · rw [AH.get_set_other _ _ _ _ (by omega), qo _ (by omega) (by omega)]; exact kb
              · rcases qf _ h with h | h <;> omega
            · obtain ⟨a1, a2, a3⟩ := kL.pj j (by omega)
              have a4 := AH.get_lt a2
              have a5 : nth ps j ≠ co := fun h => a3 (by simp [obj, h])
              rw [pn0 j (by omega)]
              refine ⟨a1, ?_, fun h => ?_⟩
              · rw [AH.get_set_other _ _ _ _ (by omega), qo _ a4 a5]; exact a2
              · rcases qf _ h with h | h
                · exact a5 h
                · omega
          · refine List.nodup_cons.2 ⟨fun h => ?_, List.nodup_cons.2 ⟨fun h => ?_, hM⟩⟩
            · rcases List.mem_cons.1 h with h | h
              · omega
              · have := AH.get_lt (hMd _ h).2; omega
            · have := AH.get_lt (hMd _ h).2; omega
          · rcases List.mem_cons.1 hm with rfl | hm
            · exact ⟨by omega, by rw [if_neg (by omega), qo _ (by omega) (by omega)]; exact km2⟩
            · rcases List.mem_cons.1 hm with rfl | hm
              · exact ⟨by omega, by rw [if_neg (by omega), qo _ (by omega) (by omega)]; exact km⟩
              · obtain ⟨b1, b2⟩ := hMd m hm
                have b3 := AH.get_lt b2
                have b4 : m ≠ co := fun h => by rw [h, cog] at b2; cases b2
                exact ⟨b1, by rw [if_neg (by omega), qo _ (by omega) b4, kl m b3]; exact b2⟩
    · obtain rfl : i = (rns S).length := by omega
      simp (disch := omega) [Und, eqf1, eqf2, s0, hL.g1, hL.g2, lg1, lg2, -Bool.exists_bool, -getElem?_pos]
      obtain ⟨ω2, p1, p2, p3, p4⟩ := marks_ok M σ (fun m hm => by omega) hM fun m hm => (hMd m hm).2
      have ω1 : ω2.get 1 = _ := (p4 1 fun h => by have := (hMd 1 h).1; omega).trans hL.g1
      have ωc : ω2.get co = _ := (p4 co fun h => by have := (hMd co h).2; rw [cog] at this; cases this).trans cog
      have hfz := fz_log (E := E) (N := N) (nS := nS) (S := S) (σ := ω2) (ps := ps) (c := .op 1) (co := co) ω1 ωc (.inl rfl) hpl fun j hj => by
        obtain ⟨a1, a2, a3⟩ := hL.pj j hj
        rw [p4 _ fun h => by have := (hMd _ h).2; rw [a2] at this; cases this]; exact a2
      unfold RetK
      show OptK (takeMarks σ M) _
      rw [p1]
      refine ⟨ω2, rfl, [.ptr (some (1, 0)), .int .i64 0], rfl, ?_⟩
      show AV.tuple [fzV 7 ω2.cel (.ptr (some (1, 0))), .int .i64 0] = _
      rw [hfz]
end Go.Oct.Wre.Fx
