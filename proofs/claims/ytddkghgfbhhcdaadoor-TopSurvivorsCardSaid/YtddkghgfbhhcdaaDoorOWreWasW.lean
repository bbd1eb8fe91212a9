/- Logs: all points of a sea; where the ship is. -/
import Derived.Test.YtddkghgfbhhcdaaDoorOWreLogW
set_option maxRecDepth 100000
set_option maxHeartbeats 8000000
set_option linter.unusedVariables false
set_option linter.unusedSimpArgs false
namespace Go.Oct.Wre.Fx
open Go.Oct
def shSea : List Leaf := List.replicate 3600 .bool
@[simp ↓] theorem rep_sh : List.replicate 3600 Leaf.bool = shSea := rfl
theorem sea_eq (f g : Nat → Bool) : eqCells shSea (seaC f) (seaC g) = some (sameSea f g) := seaC_eq f g
@[simp] theorem aidx_sea {nl : Bool} {xs : List (Nat → Bool)} (q : IntKind) (i : Int) : aidx 1 (vl eSea nl xs) (.int q i) = if 0 ≤ i ∧ i < (xs.length : Int) then some (.vptr [eSea (nth xs i.toNat)] 0) else none :=
  aidx_vl (e := eSea) (fun _ => rfl) q i
theorem abound_self (n m : Nat) : abound n m (some (.int .i64 n)) = some n := by simp [abound]
theorem aslS_full (z i n : Nat) : aslS z (.slice (some (i, 0)) n (.op z)) none (some (.int .i64 n)) (some (.int .i64 n)) = some (.slice (some (i, 0)) n (.ex n)) := by
  have e : (ACap.op z).sure n = n := rfl
  have e2 : (ACap.op z).less z 0 (some n) = some (.ex n) := rfl
  simp only [aslS, e, abounds, abound_self]
  simp [abound, e2]
theorem last_call {E N : Span} {nS : Bool} {S : List Stp} (h12 : S.length ≤ 12) {σ : AH} {K : AV → AH → Prop}
    (hK : ∀ σ', Only [] σ σ' → K (.tuple [eSea (can E N (rns S) (sgs S S.length) (rns S).length), .bool (!sameSea (can E N (rns S) (sgs S S.length) (rns S).length) fun _ => false)]) σ') : Call prog O (.fn 39) [logP E N nS S] σ K := by
  refine @call_of' _ _ pl _ _ _ _ _ _ _ ⟨K⟩ get39 ((oo (by decide)).2 _) rfl ?_
  have hsl := seas_len E N S
  have hn := seas_nth (E := E) (N := N) (S := S) (j := (rns S).length) (Nat.le_refl _)
  have i1 : ((rns S).length : Int) < (seas E N S).length := by omega
  have i2 : (rns S).length < (seas E N S).length := by omega
  have hcl := seaC_len (can E N (rns S) (sgs S S.length) (rns S).length)
  have htk : (seaC (can E N (rns S) (sgs S S.length) (rns S).length)).take 3600 = seaC (can E N (rns S) (sgs S S.length) (rns S).length) := List.take_of_length_le (by omega)
  simp (disch := omega) [logP, Und, i1, i2, hn, eSea, hcl, htk, sea_eq, -Bool.exists_bool]
  exact hK σ (Only.refl _ _)
def ptsTo (f : Nat → Bool) (n : Nat) : List Span := ((List.range n).filter f).map pt
theorem ptsTo_succ (f : Nat → Bool) (n : Nat) : ptsTo f (n + 1) = ptsTo f n ++ if f n = true then [pt n] else [] := by
  unfold ptsTo
  rw [List.range_succ, List.filter_append, List.map_append]
  congr 1
  by_cases e : f n = true <;> simp [List.filter, e]
theorem ptsTo_len (f : Nat → Bool) (n : Nat) : (ptsTo f n).length ≤ n := by
  unfold ptsTo
  rw [List.length_map]
  have := List.length_filter_le f (List.range n)
  rwa [List.length_range] at this
abbrev ptsL (f : Nat → Bool) : List Span := ptsTo f 3600
theorem ptsL_mem {f : Nat → Bool} {q : Span} : q ∈ ptsL f ↔ ∃ n, n < 3600 ∧ f n = true ∧ q = pt n := by
  unfold ptsL ptsTo
  rw [List.mem_map]
  constructor
  · rintro ⟨n, h1, rfl⟩
    rw [List.mem_filter] at h1
    exact ⟨n, List.mem_range.1 h1.1, h1.2, rfl⟩
  · rintro ⟨n, h1, h2, rfl⟩
    exact ⟨n, List.mem_filter.2 ⟨List.mem_range.2 h1, h2⟩, rfl⟩
def SeaV (σ : AH) (v : AV) (f : Nat → Bool) : Prop := v = eSea f ∨ ∃ o, v = .ptr (some (o, 0)) ∧ σ.get o = some (.cells (seaC f))
theorem SeaV.rd {σ : AH} {v : AV} {f : Nat → Bool} (h : SeaV σ v f) {n : Nat} (hn : n < 3600) : RdAt σ v n (f n) := by
  rcases h with rfl | ⟨o, rfl, hg⟩
  · exact .inl ⟨_, rfl, seaC_len f, seaC_get hn⟩
  · exact .inr ⟨o, _, rfl, hg, seaC_len f, seaC_get hn⟩
theorem SeaV.stay {σ σ' : AH} {v : AV} {f : Nat → Bool} (h : SeaV σ v f) (hk : ∀ z, z < σ.next → σ'.get z = σ.get z) : SeaV σ' v f := by
  rcases h with rfl | ⟨o, rfl, hg⟩
  · exact .inl rfl
  · exact .inr ⟨o, rfl, (hk o (AH.get_lt hg)).trans hg⟩
structure AY (T : AH) (n0 : Nat) (env : Env) (f : Nat → Bool) (n : Nat) (σ : AH) : Prop where
  lim : σ.lim = 0
  nx : T.next + 2 ≤ σ.next
  low : ∀ k, k < T.next → k ≠ n0 → σ.get k = T.get k
  mark : σ.get T.next = some .dfr
  loop : σ.get (T.next + 1) = some (.loop 40 0 env .ready none T.next)
  buf : ∃ sv, σ.get n0 = some (.cells [sv]) ∧ Buf (T.next + 2) 2 eSpan σ sv (ptsTo f n)
theorem all_call {v : AV} {f : Nat → Bool} {σ : AH} (h0 : σ.lim = 0) (hv : SeaV σ v f) (hne : ptsL f ≠ []) {K : AV → AH → Prop}
    (hK : ∀ o σ', σ'.get o = some (.cells (rowOf eSpan (ptsL f))) → σ.next ≤ o → Only [] σ σ' → K (.slice (some (o, 0)) (ptsL f).length (.ex (ptsL f).length)) σ') : Call prog O (.fn 40) [v] σ K := by
  refine @call_of' _ _ pl _ _ _ _ _ _ _ ⟨K⟩ get40 ((oo (by decide)).2 _) rfl ?_
  simp (disch := omega) [h0, -Bool.exists_bool]
  refine rg_of (h := 81) (xs := [v]) (ys := []) rfl ?_
  generalize hT : AH.push σ _ = T
  have t0 : T.lim = 0 := by rw [← hT]; exact h0
  have tn : T.next = σ.next + 1 := by rw [← hT]; rfl
  have tg : ∀ z, z < σ.next → T.get z = σ.get z := fun z hz => by rw [← hT, AH.get_push_old _ _ _ (by omega)]
  have tb : T.get σ.next = some (.cells [.vsl true []]) := by rw [← hT]; exact AH.get_push_new _ _
  clear hT
  have hvT : SeaV T v f := hv.stay tg
  show Call prog O (.fn 81) [v, .func (.yield (T.next + 1)) [] []] _ _
  generalize henv : (List.cons _ _ : Env) = env
  refine points_ok (f := f) (lm := 0) (I := fun n s => AY T σ.next env f n s) (J := fun _ => False) (fun n s hI hn => ?_) (fun n s hI => hI.lim) (fun n s hI hn hf => ?_) (fun n s hI hn hf => ?_) ?_ (fun s hI => ?_) (fun s hj => hj.elim)
  · have hne2 : ∀ o, v = .ptr (some (o, 0)) → o ≠ σ.next := fun o e => by
      rcases hv with h | ⟨o', h, hg⟩
      · rw [e] at h; cases h
      · rw [e] at h; cases h; have := AH.get_lt hg; omega
    rcases hvT with h | ⟨o, h, hg⟩
    · exact (SeaV.rd (.inl h) hn)
    · exact SeaV.rd (.inr ⟨o, h, (hI.low o (AH.get_lt hg) (hne2 o h)).trans hg⟩) hn
  · obtain ⟨y0, y1, y2, y3, y4, sv, y5, y6⟩ := hI
    exact ⟨y0, y1, y2, y3, y4, sv, y5, by rw [ptsTo_succ, if_neg (by rw [hf]; simp), List.append_nil]; exact y6⟩
  · obtain ⟨y0, y1, y2, y3, y4, sv, y5, y6⟩ := hI
    obtain ⟨pe, hpe⟩ : ∃ pe : Nat, n / 60 = pe := ⟨_, rfl⟩
    obtain ⟨pn, hpn⟩ : ∃ pn : Nat, n % 60 = pn := ⟨_, rfl⟩
    rw [hpe, hpn]
    refine yield_of' pl y4 get40 rfl rfl (by omega) rfl ?_
    subst henv
    simp (disch := omega) [y0, Und, -Bool.exists_bool]
    generalize hs1 : AH.set (s.push _) s.next _ = s1
    have x0 : s1.lim = 0 := by rw [← hs1]; exact y0
    have xn : s1.next = s.next + 1 := by rw [← hs1]; rfl
    have xg : ∀ k, k < s.next → s1.get k = s.get k := fun k hk => by rw [← hs1, AH.get_set_other _ _ _ _ (by omega), AH.get_push_old _ _ _ (by omega)]
    have xs : s1.get s.next = some (.cells [.int .i64 pe, .int .i64 pn]) := by rw [← hs1, AH.get_set_same _ _ _ (Nat.lt_succ_self _)]
    clear hs1
    have x4 : s1.get (T.next + 1) = _ := (xg _ (by omega)).trans y4
    have x5 : s1.get σ.next = _ := (xg _ (by omega)).trans y5
    have x6 : Buf (T.next + 2) 2 eSpan s1 sv (ptsTo f n) := y6.keep fun z _ hz => xg z hz
    rw [ak_of x4]
    have r5 := AH.get_lt x4
    generalize hob : AObj.loop _ _ _ LoopState.busy none T.next = ob
    generalize hs2 : s1.set (T.next + 1) ob = s2
    have t0' : s2.lim = 0 := by rw [← hs2]; exact x0
    have tn' : s2.next = s1.next := by rw [← hs2]; rfl
    have tg' : ∀ k, k ≠ T.next + 1 → s2.get k = s1.get k := fun k hk => by rw [← hs2, AH.get_set_other _ _ _ _ hk]
    have t7' : s2.get (T.next + 1) = some ob := by rw [← hs2, AH.get_set_same _ _ _ r5]
    clear hs2
    rw [← hob] at t7'
    have t5' : s2.get σ.next = _ := (tg' _ (by omega)).trans x5
    have t6' : Buf (T.next + 2) 2 eSpan s2 sv (ptsTo f n) := x6.keep fun z hz _ => tg' z (by omega)
    have ts' : s2.get s.next = _ := (tg' _ (by omega)).trans xs
    have l1' := AH.get_lt t5'
    have l2' := AH.get_lt ts'
    simp (disch := omega) [eqf1, eqf2, t0', t5', ts', l1', l2', Und, -Bool.exists_bool, -getElem?_pos]
    have hlen := ptsTo_len f n
    refine t6'.push encSpan (by omega) (by omega) (pt n) (by simp only [topBytes]; omega) (by rw [← hpe, ← hpn]; rfl) fun sv' τ h3 g3 => ?_
    have n3 := g3.next
    have z0 := g3.lim.trans t0'
    have zg : ∀ z, z < T.next + 2 → τ.get z = s2.get z := fun z hz => g3.get z hz
    have z5 : τ.get σ.next = _ := (zg _ (by omega)).trans t5'
    have z7 : τ.get (T.next + 1) = _ := (zg _ (by omega)).trans t7'
    have lz5 := AH.get_lt z5
    obtain ⟨x1, x2, x3⟩ := buf_cel h3
    simp (disch := omega) [eqf1, eqf2, z0, z5, lz5, x1, x2, x3, Und, -Bool.exists_bool, -getElem?_pos]
    refine bd_normal ((AH.get_set_other _ _ _ _ (by omega)).trans z7) ⟨rfl, ⟨z0, ?_, fun k h1 h2 => ?_, ?_, ?_, sv', ?_, ?_⟩⟩
    · show T.next + 2 ≤ τ.next; omega
    · rw [AH.get_set_other _ _ _ _ (by omega), AH.get_set_other _ _ _ _ h2, zg k (by omega), tg' k (by omega), xg k (by omega)]; exact y2 k h1 h2
    · rw [AH.get_set_other _ _ _ _ (by omega), AH.get_set_other _ _ _ _ (by omega), zg _ (by omega), tg' _ (by omega), xg _ (by omega)]; exact y3
    · exact AH.get_set_same _ _ _ (by show T.next + 1 < τ.next; omega)
    · rw [AH.get_set_other _ _ _ _ (by omega)]; exact AH.get_set_same _ _ _ lz5
    · rw [ptsTo_succ, if_pos hf]
      exact h3.keep fun z hz _ => by rw [AH.get_set_other _ _ _ _ (by omega), AH.get_set_other _ _ _ _ (by omega)]
  · refine ⟨t0, by simp, fun k hk _ => ?_, ?_, ?_, .vsl true [], ?_, .inl ⟨rfl, rfl⟩⟩
    · simp (disch := omega) [eqf1, eqf2]
    · simp (disch := omega) [eqf1, eqf2]
    · simp (disch := omega) [eqf1, eqf2]
    · simp (disch := omega) [eqf1, eqf2, tb]
  · obtain ⟨y0, y1, y2, y3, y4, sv, y5, y6⟩ := hI
    refine ⟨_, _, _, _, _, _, y4, by simp, by omega, ?_⟩
    subst henv
    generalize hs4 : s.set (T.next + 1) _ = s4
    have f0 : s4.lim = 0 := by rw [← hs4]; exact y0
    have fn : s4.next = s.next := by rw [← hs4]; rfl
    have fg : ∀ k, k ≠ T.next + 1 → s4.get k = s.get k := fun k hk => by rw [← hs4]; exact AH.get_set_other _ _ _ _ hk
    clear hs4
    have f5 : s4.get σ.next = _ := (fg _ (by omega)).trans y5
    have f3 : s4.get T.next = _ := (fg _ (by omega)).trans y3
    have f6 : Buf (T.next + 2) 2 eSpan s4 sv (ptsL f) := y6.keep fun z hz _ => fg z (by omega)
    rcases f6 with ⟨_, e⟩ | ⟨o, rfl, o1, o2, o3⟩
    · exact absurd e hne
    have lf5 := AH.get_lt f5
    have hsl := aslS_full 2 o (ptsL f).length
    simp (disch := omega) [Und, eqf1, eqf2, f0, f5, hsl, -Bool.exists_bool, -getElem?_pos]
    rw [retP_mark f3 (by omega)]
    simp (disch := omega) [-Bool.exists_bool]
    refine hK o _ ?_ (by omega) ⟨f0.trans h0.symm, by show σ.next ≤ s4.next; omega, fun k hk _ => ?_⟩
    · rw [AH.get_set_other _ _ _ _ (by omega)]; exact o2
    · rw [AH.get_set_other _ _ _ _ (by omega), fg k (by omega), y2 k (by omega) (by omega), tg k hk]
theorem ptsL_ne {f : Nat → Bool} (h : sameSea f (fun _ => false) = false) : ptsL f ≠ [] := fun e => by
  have : sameSea f (fun _ => false) = true := sameSea_iff.2 fun n hn => by
    cases hf : f n with
    | false => rfl
    | true =>
      have hm : pt n ∈ ptsL f := ptsL_mem.2 ⟨n, hn, hf, rfl⟩
      rw [e] at hm; cases hm
  rw [h] at this; cases this
theorem ptsL_nil {f : Nat → Bool} (h : sameSea f (fun _ => false) = true) : ptsL f = [] := by
  cases e : ptsL f with
  | nil => rfl
  | cons q l =>
    have hm : q ∈ ptsL f := by rw [e]; exact List.mem_cons_self ..
    obtain ⟨n, h1, h2, _⟩ := ptsL_mem.1 hm
    rw [sameSea_iff.1 h n h1] at h2; cases h2
theorem flatSp : flatE eSpan := fun x c hc k f => by
  simp at hc
  rcases hc with rfl | rfl <;> exact ⟨rfl, rfl⟩
abbrev canR (E N : Span) (S : List Stp) : Nat → Bool := can E N (rns S) (sgs S S.length) (rns S).length
noncomputable def whereV (E N : Span) (S : List Stp) : AV := if okLog E N S then (if (ptsL (canR E N S)) = [] then .tuple [vl eSpan true [], .int .i64 4] else .tuple [vl eSpan false (ptsL (canR E N S)), .int .i64 0]) else .tuple [vl eSpan true [], .int .i64 80]
theorem logOf_bad (E N : Span) (nS : Bool) (S : List Stp) (hz : szLog S) (hok : ¬ okLog E N S) : ans prog O 38 [eLog E N nS S] = some (.tuple [.ptr none, .int .i64 80]) := by
  have hck := Check_ok E N nS S hz
  rw [if_neg hok] at hck
  refine fn_of' pl get38 (oo (by decide)) rfl rfl ?_
  unfold eLog at hck
  simp (disch := omega) [eLog, hck, Und, -Bool.exists_bool]
  rfl
theorem Where_ok (E N : Span) (nS : Bool) (S : List Stp) (hz : szLog S) : ans prog O 18 [eLog E N nS S] = some (whereV E N S) := by
  refine fn_of' pl get18 (oo (by decide)) rfl rfl ?_
  by_cases hok : okLog E N S
  · obtain ⟨v, rfl, hlog⟩ := logOf_ok E N nS S hz hok
    unfold whereV
    rw [if_pos hok]
    unfold eLog at hlog
    simp (disch := omega) [eLog, hlog, Und, -Bool.exists_bool]
    refine last_call hok.2.2.1 fun σ' ho => ?_
    have ol := ho.lim
    cases hs : sameSea (canR E N S) fun _ => false
    · have hne := ptsL_ne hs
      rw [if_neg hne]
      have hs' : sameSea (can E N (rns S) (sgs S S.length) (rns S).length) (fun _ => false) = false := hs
      simp (disch := omega) [hs', ol, Und, -Bool.exists_bool]
      refine all_call (f := canR E N S) ol (.inl rfl) hne fun o τ g1 g2 g3 => ?_
      have hc : τ.cel o = some (rowOf eSpan (ptsL (canR E N S))) := AH.cel_get g1
      simp (disch := omega) [Und, -Bool.exists_bool]
      exact fz_whole encSpan flatSp (f := τ.cel) (o := o) (xs := ptsL (canR E N S)) (c := .ex _) hc (.inr rfl) 5
    · have hs' : sameSea (can E N (rns S) (sgs S S.length) (rns S).length) (fun _ => false) = true := hs
      rw [if_pos (ptsL_nil hs)]
      simp (disch := omega) [hs', ol, Und, -Bool.exists_bool]
      rfl
  · have h1 := logOf_bad E N nS S hz hok
    unfold whereV
    rw [if_neg hok]
    unfold eLog at h1
    simp (disch := omega) [eLog, h1, Und, -Bool.exists_bool]
    rfl
end Go.Oct.Wre.Fx
