/- Nets: places are filled, walked. -/
import Derived.Test.YtddkghgfbhhcdaaOTriFloG
set_option maxRecDepth 100000
set_option maxHeartbeats 4000000
set_option linter.unusedVariables false
set_option linter.unusedSimpArgs false
namespace Go.Oct.Tri
open Go.Oct
/-- What filling keeps: what a place lacks and its angles' sum. -/
structure FI (E : List Ed) (ph : Bool) (Bt : Nat → Int) (h L : List Int) : Prop where
  ll : L.length = 17
  bd : ∀ p, p < 16 → 0 ≤ nth L p ∧ nth L p ≤ 10000000
  sum : ∀ p, p < 16 → nth L p + sAt E h p = Bt p
  op : ph = true → sAt E h 16 = Bt 16
  l16 : nth L 16 = 0
  st : ph = false → ∀ p, 8 ≤ p → p < 16 → nth L p = 0
theorem gL_pos {ph : Bool} {L : List Int} {p : Nat} (h : 0 < gL ph L p) : 8 ≤ p ∧ (ph = true → p ≠ 16 ∧ gL ph L p = nth L p) ∧ (ph = false → p = 16) := by
  unfold gL at *
  cases ph with
  | false =>
    simp at h ⊢
    by_cases e : p = 16
    · subst e; simp
    · rw [if_neg e] at h; omega
  | true =>
    simp only [cond_true] at h ⊢
    by_cases e : p < 8 ∨ p = 16
    · rw [if_pos e] at h; omega
    · rw [if_neg e]
      exact ⟨by omega, fun _ => ⟨by omega, rfl⟩, fun h => by cases h⟩
theorem FI.step {E : List Ed} {ph : Bool} {Bt : Nat → Int} {F : List Int} {h h' L : List Int} {t ps : Nat} {w : Int} (hf : FI E ph Bt h L) (ht : t < 8) (hs : Sent E (-1) F (gL ph L) h h' t ps w) (hw : w ≤ nth L t) :
    FI E ph Bt h' (tL ph (L.set t (nth L t - w)) ps w) ∧ ∀ s, s < 8 → nth (tL ph (L.set t (nth L t - w)) ps w) s = if s = t then nth L t - w else nth L s := by
  obtain ⟨f1, f2, f3, f4, f5, f6⟩ := hf
  have hp := hs.pos
  have hg := hs.goal
  have hgl := hs.pl
  obtain ⟨g1, g2, g3⟩ := gL_pos (show 0 < gL ph L ps by omega)
  have htl : t < L.length := by omega
  have hsum := hs.sum
  cases ph with
  | false =>
    have hps := g3 rfl
    subst hps
    have e0 : tL false (L.set t (nth L t - w)) 16 w = L.set t (nth L t - w) := rfl
    rw [e0]
    refine ⟨⟨by simpa using f1, fun p hp16 => ?_, fun p hp16 => ?_, (fun h => by cases h), by rw [nth_set htl, if_neg (by omega)]; exact f5, fun _ p h1 h2 => by rw [nth_set htl, if_neg (by omega)]; exact f6 rfl p h1 h2⟩, fun s hs8 => nth_set htl⟩
    · rw [nth_set htl]
      split
      · have := f2 t (by omega); omega
      · exact f2 p hp16
    · rw [nth_set htl, hsum p]
      have := f3 p hp16
      unfold dl sg
      rw [if_neg (show ¬ p = 16 by omega)]
      by_cases e : p = t
      · subst e; rw [if_pos rfl, if_pos rfl, if_pos ht]; omega
      · rw [if_neg e, if_neg e]; omega
  | true =>
    obtain ⟨g4, g5⟩ := g2 rfl
    have hps8 : ps < (L.set t (nth L t - w)).length := by rw [List.length_set]; omega
    have hne : ¬ ps = t := by omega
    have e0 : tL true (L.set t (nth L t - w)) ps w = (L.set t (nth L t - w)).set ps (nth L ps - w) := by
      show (L.set t _).set ps (nth (L.set t _) ps - w) = _
      rw [nth_set htl, if_neg hne]
    rw [e0]
    have val : ∀ p, nth ((L.set t (nth L t - w)).set ps (nth L ps - w)) p = if p = ps then nth L ps - w else if p = t then nth L t - w else nth L p := fun p => by
      rw [nth_set hps8, nth_set htl]
    refine ⟨⟨by simpa using f1, fun p hp16 => ?_, fun p hp16 => ?_, fun _ => ?_, by rw [val, if_neg (by omega), if_neg (by omega)]; exact f5, (fun h => by cases h)⟩, fun s hs8 => ?_⟩
    · rw [val]
      split
      · have := f2 ps (by omega); omega
      · split
        · have := f2 t (by omega); omega
        · exact f2 p hp16
    · rw [val, hsum p]
      have := f3 p hp16
      unfold dl sg
      by_cases e : p = ps
      · rw [if_pos e, if_neg (show ¬ p = t by omega), if_pos e, if_neg (show ¬ p < 8 by omega)]; rw [e] at this ⊢; omega
      · by_cases e2 : p = t
        · rw [if_neg e, if_pos e2, if_pos e2, if_neg e, if_pos (show p < 8 by omega)]; rw [e2] at this ⊢; omega
        · rw [if_neg e, if_neg e2, if_neg e2, if_neg e]; omega
    · rw [hsum 16, f4 rfl]
      unfold dl
      rw [if_neg (show ¬ 16 = t by omega), if_neg (show ¬ 16 = ps by omega)]; omega
    · rw [val, if_neg (show ¬ s = ps by omega)]
/-- Which of the first places lack something. -/
def fromL (L : List Int) (j : Nat) : List Bool := (List.range 17).map fun p => decide (p < j ∧ 0 < nth L p)
theorem fromL_len (L : List Int) (j : Nat) : (fromL L j).length = 17 := by simp [fromL]
theorem fromL_get (L : List Int) (j : Nat) {p : Nat} (hp : p < 17) : nth (fromL L j) p = decide (p < j ∧ 0 < nth L p) := by
  unfold fromL
  rw [nth_map (f := fun p => decide (p < j ∧ 0 < nth L p)) (by simpa using hp), nth_eq (by simpa using hp), List.getElem_range]
theorem fromL_zero (L : List Int) : fromL L 0 = bF := by
  refine ext_nth (by rw [fromL_len, bF_len]) fun j hj => ?_
  rw [fromL_get L 0 (by rw [fromL_len] at hj; exact hj), bF_no]; simp
theorem fromL_succ (L : List Int) {j : Nat} (hj : j < 17) : (fromL L j).set j (decide (0 < nth L j)) = fromL L (j + 1) := by
  refine ext_nth (by simp [fromL_len]) fun q hq => ?_
  rw [List.length_set, fromL_len] at hq
  rw [nth_set (by rw [fromL_len]; exact hj), fromL_get _ _ hq, fromL_get _ _ hq]
  by_cases e : q = j
  · subst e; simp
  · rw [if_neg e]
    congr 1
    apply propext
    constructor
    · rintro ⟨a, b⟩; exact ⟨by omega, b⟩
    · rintro ⟨a, b⟩; exact ⟨by omega, b⟩
/-- What triangles lack in all. -/
def lackN (L : List Int) : Nat := ((List.range 8).map fun t => (nth L t).toNat).sum
theorem lackN_lt {L L' : List Int} {t : Nat} (ht : t < 8) (h1 : nth L' t < nth L t) (h2 : 0 < nth L t) (h3 : ∀ s, s < 8 → s ≠ t → nth L' s = nth L s) : lackN L' < lackN L := by
  unfold lackN
  have key : ∀ (l : List Nat), t ∈ l → l.Nodup → (∀ s ∈ l, s < 8) → (l.map fun t => (nth L' t).toNat).sum < (l.map fun t => (nth L t).toNat).sum := by
    intro l
    induction l with
    | nil => intro h; cases h
    | cons a l ih =>
      intro hm hn hl
      have hn' := List.nodup_cons.1 hn
      simp only [List.map_cons, List.sum_cons]
      have same : ∀ (l : List Nat), t ∉ l → (∀ s ∈ l, s < 8) → (l.map fun t => (nth L' t).toNat) = (l.map fun t => (nth L t).toNat) := fun l h1 h2 => List.map_congr_left fun s hs => by
        rw [h3 s (h2 s hs) (by rintro rfl; exact h1 hs)]
      rcases List.mem_cons.1 hm with rfl | hm
      · rw [same l hn'.1 fun s hs => hl s (List.mem_cons_of_mem _ hs)]; omega
      · have := ih hm hn'.2 fun s hs => hl s (List.mem_cons_of_mem _ hs)
        rw [h3 a (hl a (List.mem_cons_self ..)) (by rintro rfl; exact hn'.1 hm)]; omega
  exact key _ (List.mem_range.2 ht) List.nodup_range fun s hs => List.mem_range.1 hs
section
variable {N : Nat} {nC : Bool} {C : List Bool} {aA : AV} {E : List Ed} {n i : Nat}
/-- At the end of filling nothing that wants something is reached. -/
structure Filled (E : List Ed) (ph : Bool) (h L : List Int) (R : List Bool) : Prop where
  rl : R.length = 17
  src : ∀ t, t < 8 → 0 < nth L t → nth R t = true
  clo : Clo E h (-1) fun p => nth R p
  no : ∀ q, q < 17 → nth R q = true → gL ph L q ≤ 0
theorem fill_call (hE : okE E) {ph : Bool} {Bt : Nat → Int} {bx : Nat} {σ : AH} {h L : List Int} (hT : 1 ≤ N ∧ N ≤ 8) (hn : NetI N nC C aA E n i h L σ) (hb : σ.get bx = some (.cells [.ptr (some (n, 0))])) (hf : FI E ph Bt h L) (hz : ∀ t, N ≤ t → t < 8 → nth L t = 0) {K : AV → AH → Prop}
    (hk : ∀ h' L' R σ', NetI N nC C aA E n i h' L' σ' → FI E ph Bt h' L' → Filled E ph h' L' R → (∀ t, N ≤ t → t < 8 → nth L' t = 0) → Only [n, i] σ σ' → K (.tuple []) σ') :
    Call prog O (.fn 100) [.ptr (some (n, 0)), .func (.func (gFn ph)) [] (gYs ph bx), .func (.func (tFn ph)) [] (gYs ph bx)] σ K := by
  refine @call_of' _ _ pl _ _ _ _ _ _ _ ⟨K⟩ get100 ((oo (by decide)).2 _) rfl ?_
  have hl0 := hn.lim
  have ln := AH.get_lt hn.net
  have li := AH.get_lt hn.ang
  have lb := AH.get_lt hb
  have nei := hn.ne
  have lbn : bx ≠ n := by
    rintro rfl
    have := hn.net
    rw [hb] at this
    simp [netC] at this
  have bni : bx ≠ i := by
    rintro rfl
    have := hn.ang
    rw [hb] at this
    have h5 := congrArg (fun o => match o with | some (AObj.cells cs) => cs.length % 5 | _ => 0) this
    simp [gRow_len E h hn.bd.1] at h5
  simp (disch := omega) [eqf1, eqf2, hl0, -Bool.exists_bool]
  refine lp_loop pl (fun k fr τ => ∃ (h' L' : List Int) (rest : Env), lackN L' = k ∧ fr = ⟨(0, .ptr (some (n, 0))) :: (2, .func (.func (tFn ph)) [] (gYs ph bx)) :: (4, .ptr (some (σ.next, 0))) :: rest, []⟩ ∧ NetI N nC C aA E n i h' L' τ ∧ FI E ph Bt h' L' ∧ (∀ t, N ≤ t → t < 8 → nth L' t = 0) ∧
      τ.get σ.next = some (.cells [.func (.func (gFn ph)) [] (gYs ph bx)]) ∧ σ.next + 1 ≤ τ.next ∧ ∀ k, k < σ.next → k ≠ n → k ≠ i → τ.get k = σ.get k)
    ⟨lackN L, h, L, [], rfl, rfl, ?_, hf, hz, ?_, ?_, fun k h1 h2 h3 => ?_⟩ ?_
  · exact hn.stay rfl (by simp (disch := omega) [eqf1, eqf2]) (by simp (disch := omega) [eqf1, eqf2])
  · simp
  · simp
  · simp (disch := omega) [eqf1, eqf2]
  rintro k _ τ ⟨h1, L1, rest, hk1, rfl, tn, tf, tz, tb, tnx, tg⟩
  have t0 := tn.lim
  have tnn := tn.net
  have ll := tf.ll
  have hnl := netC_len (T := (N : Int)) (nC := nC) (C := C) (aA := aA) (i := i) (m := E.length) (L := L1)
  have ltn := AH.get_lt tnn
  simp (disch := omega) [eqf1, eqf2, Und, t0, tnn, hnl, ll, -Bool.exists_bool, -getElem?_pos]
  refine lp_loop pl (fun k2 fr υ => ∃ j : Nat, k2 + j = N ∧ fr = ⟨[(0, .ptr (some (n, 0))), (2, .func (.func (tFn ph)) [] (gYs ph bx)), (4, .ptr (some (σ.next, 0))), (6, .ptr (some (τ.next, 0))), (17, .int .i64 N), (18, .int .i64 j)], []⟩ ∧
      υ.lim = 0 ∧ υ.next = τ.next + 1 ∧ (∀ k, k < τ.next → υ.get k = τ.get k) ∧ υ.get τ.next = some (.cells (bC (fromL L1 j))))
    ⟨N, 0, by omega, rfl, t0, rfl, fun k hk => by simp (disch := omega) [eqf1, eqf2], by rw [fromL_zero]; simp; rfl⟩ ?_
  rintro k2 _ υ ⟨j, hj, rfl, v0, vn, vg, vb⟩
  have vnn := (vg n ltn).trans tnn
  have hbl := bC_len (fromL_len L1 j)
  by_cases hjN : j < N
  · have h1' : (j : Int) < N := by omega
    have h2' : (j : Int) < 17 := by omega
    have h3' : j ≤ 16 := by omega
    have h4' : 4 + j + 1 ≤ 4 + 17 := by omega
    have hnp := netC_L (T := (N : Int)) (nC := nC) (C := C) (aA := aA) (i := i) (m := E.length) (L := L1) (k := j) (by omega)
    have hbs := bC_set (fromL L1 j) j (decide (0 < nth L1 j))
    rw [fromL_succ L1 (by omega)] at hbs
    have lvb := AH.get_lt vb
    simp (disch := omega) [eqf1, eqf2, Und, v0, vnn, vb, lvb, hnl, ll, hnp, hbl, hbs, h1', h2', h3', h4', -Bool.exists_bool, -getElem?_pos]
    refine ⟨k2 - 1, by omega, j + 1, by omega, by omega, vn, fun k hk => ?_, rfl⟩
    rw [if_neg (by omega)]; exact vg k hk
  · obtain rfl : j = N := by omega
    have h17 : (bC (fromL L1 j)).take 17 = bC (fromL L1 j) := List.take_of_length_le (by omega)
    simp (disch := omega) [eqf1, eqf2, Und, v0, vb, hbl, h17, -Bool.exists_bool, -getElem?_pos]
    have un : NetI j nC C aA E n i h1 L1 υ := tn.stay (v0.trans t0.symm) (vg n ltn) (vg i (AH.get_lt tn.ang))
    refine reached_call hE v0 (Nat.zero_le _) un.r (fromL_len L1 j) fun R F ω hR ho => ?_
    have o0 := ho.lim.trans v0
    have onx := ho.next
    have og : ∀ k, k < υ.next → ω.get k = υ.get k := fun k hk => ho.get k hk (by simp)
    have onn := (og n (by omega)).trans vnn
    have ltn2 := AH.get_lt onn
    have hRl := rC_len hR.rl hR.fl
    have hRo : (rC R F).all AV.one = true := by simp [rC, Function.comp_def]
    have hpc : putCells [AV.bool false, AV.bool false, AV.bool false, AV.bool false, AV.bool false, AV.bool false, AV.bool false, AV.bool false, AV.bool false, AV.bool false, AV.bool false, AV.bool false, AV.bool false, AV.bool false, AV.bool false, AV.bool false, AV.bool false, Oct.L.z 0, Oct.L.z 0, Oct.L.z 0, Oct.L.z 0, Oct.L.z 0, Oct.L.z 0, Oct.L.z 0, Oct.L.z 0, Oct.L.z 0, Oct.L.z 0, Oct.L.z 0, Oct.L.z 0, Oct.L.z 0, Oct.L.z 0, Oct.L.z 0, Oct.L.z 0, Oct.L.z 0] 0 (rC R F) = rC R F := putCells_full (by rw [hRl]; rfl)
    simp (disch := omega) [eqf1, eqf2, Und, o0, onn, cells_rC, hRl, hRo, hpc, hnl, ll, -Bool.exists_bool, -getElem?_pos]
    generalize hω1 : AH.set (ω.push _) ω.next _ = ω1
    have w0 : ω1.lim = 0 := by rw [← hω1]; exact o0
    have wn : ω1.next = ω.next + 1 := by rw [← hω1]; rfl
    have wg : ∀ k, k < ω.next → ω1.get k = ω.get k := fun k hk => by rw [← hω1, AH.get_set_other _ _ _ _ (by omega), AH.get_push_old _ _ _ (by omega)]
    have wr : ω1.get ω.next = some (.cells (rC R F)) := by rw [← hω1, AH.get_set_same _ _ _ (Nat.lt_succ_self _)]
    have wnet : NetI j nC C aA E n i h1 L1 ω1 := un.stay (w0.trans v0.symm) ((wg n (by omega)).trans (og n (by omega))) ((wg i (by have := AH.get_lt un.ang; omega)).trans (og i (AH.get_lt un.ang)))
    have wb4 : ω1.get σ.next = some (.cells [.func (.func (gFn ph)) [] (gYs ph bx)]) := by rw [wg _ (by omega), og _ (by omega), vg _ (by omega)]; exact tb
    have wold : ∀ k, k < σ.next → k ≠ n → k ≠ i → ω1.get k = σ.get k := fun k h1 h2 h3 => by rw [wg k (by omega), og k (by omega), vg k (by omega), tg k h1 h2 h3]
    clear hω1
    let I3 : Nat → List Int → List Int → Bool → AH → Prop := fun t h2 L2 mv s => NetI j nC C aA E n i h2 L2 s ∧ FI E ph Bt h2 L2 ∧ (∀ t, j ≤ t → t < 8 → nth L2 t = 0) ∧ ω1.next ≤ s.next ∧ (∀ k, k < ω1.next → k ≠ n → k ≠ i → s.get k = ω1.get k) ∧
      (mv = false → h2 = h1 ∧ L2 = L1 ∧ ∀ s, s < t → 0 < nth L1 s → ∃ D : List Bool, nth D s = true ∧ Dead E h1 (-1) F (gL ph L1) D) ∧ (mv = true → lackN L2 < lackN L1)
    refine lp_loop pl (fun k2 fr s => ∃ (t : Nat) (h2 L2 : List Int) (mv : Bool), k2 + t = j ∧ fr = ⟨[(0, .ptr (some (n, 0))), (2, .func (.func (tFn ph)) [] (gYs ph bx)), (4, .ptr (some (σ.next, 0))), (8, .ptr (some (ω.next, 0))), (9, .bool mv), (38, .int .i64 j), (39, .int .i64 t)], []⟩ ∧ I3 t h2 L2 mv s)
      ⟨j, 0, h1, L1, false, by omega, rfl, wnet, tf, tz, Nat.le_refl _, fun _ _ _ _ => rfl, fun _ => ⟨rfl, rfl, fun s hs => by omega⟩, fun h => by cases h⟩ ?_
    rintro k3 _ s ⟨t, h2, L2, mv, ht, rfl, hI⟩
    by_cases htN : t < j
    · have h1' : (t : Int) < j := by omega
      simp (disch := omega) [eqf1, eqf2, Und, h1', -Bool.exists_bool, -getElem?_pos]
      refine lp_loop pl (fun k4 fr s => ∃ (h3 L3 : List Int) (mv3 : Bool), k4 = (nth L3 t).toNat ∧ fr = ⟨[(0, .ptr (some (n, 0))), (2, .func (.func (tFn ph)) [] (gYs ph bx)), (4, .ptr (some (σ.next, 0))), (8, .ptr (some (ω.next, 0))), (9, .bool mv3), (10, .int .i64 t), (38, .int .i64 j), (39, .int .i64 t)], []⟩ ∧ I3 t h3 L3 mv3 s)
        ⟨(nth L2 t).toNat, h2, L2, mv, rfl, rfl, hI⟩ ?_
      rintro k4 _ s3 ⟨h3, L3, mv3, rfl, rfl, i1, i2, i3, i4, i5, i6, i7⟩
      have s0 := i1.lim
      have snn := i1.net
      have sll := i2.ll
      have hnl3 := netC_len (T := (j : Int)) (nC := nC) (C := C) (aA := aA) (i := i) (m := E.length) (L := L3)
      have hnp3 := netC_L (T := (j : Int)) (nC := nC) (C := C) (aA := aA) (i := i) (m := E.length) (L := L3) (k := t) (by omega)
      have h2' : (t : Int) < 17 := by omega
      have h3' : t ≤ 16 := by omega
      have h4' : 4 + t + 1 ≤ 4 + 17 := by omega
      have hbd := i2.bd t (by omega)
      have lsn := AH.get_lt snn
      by_cases hpos : 0 < nth L3 t
      · have sr : s3.get ω.next = _ := (i5 ω.next (by omega) (by omega) (by have := AH.get_lt un.ang; omega)).trans wr
        have sb4 : s3.get σ.next = _ := (i5 σ.next (by omega) (by omega) (by omega)).trans wb4
        have sbx : s3.get bx = some (.cells [.ptr (some (n, 0))]) := by rw [i5 bx (by omega) lbn bni, wold bx lb lbn bni]; exact hb
        have h34 : (rC R F).take 34 = rC R F := List.take_of_length_le (by omega)
        simp (disch := omega) [eqf1, eqf2, Und, s0, snn, sll, hnl3, hnp3, h2', h3', h4', hpos, sr, hRl, h34, -Bool.exists_bool, -getElem?_pos]
        have pnet : NetI j nC C aA E n i h3 L3 (s3.push (.cells [Oct.L.z 0])) := i1.stay rfl (AH.get_push_old _ _ _ (by omega)) (AH.get_push_old _ _ _ (by have := AH.get_lt i1.ang; omega))
        have hgoal := fill_goal (T := (j : Int)) (nC := nC) (C := C) (aA := aA) (E := E) (n := n) (i := i) (L := L3) (ph := ph) (bx := bx) (b4 := σ.next) (go := s3.next) (B := (s3.push (.cells [Oct.L.z 0])).next) sll (Nat.lt_succ_self _) (by omega) (by have := AH.get_lt i1.ang; omega) (by simp; omega) nei (by simp; omega) bni (by simp; omega) (by omega) (by omega) (by omega)
        refine send_call hE hgoal hR.rl hR.fl hR.all pnet ⟨s0, ?_, ?_, ?_, 0, ?_⟩ (by omega) hpos (by omega) (fun s4 D c1 c2 c3 c4 c5 => ?_) (fun s4 h4 ps w c1 c2 c3 c4 c5 => ?_)
        · rw [AH.get_push_old _ _ _ (by omega)]; exact sbx
        · rw [AH.get_push_old _ _ _ (by omega)]; exact snn
        · rw [AH.get_push_old _ _ _ (by omega)]; exact sb4
        · exact AH.get_push_new _ _
        · simp (disch := omega) [eqf1, eqf2, Und, -Bool.exists_bool, -getElem?_pos]
          have cn := c5.next
          simp at cn
          refine ⟨k3 - 1, by omega, t + 1, by omega, h3, L3, mv3, ⟨rfl, by omega⟩, c1, i2, i3, by omega, fun k q1 q2 q3 => ?_, fun hmv => ?_, i7⟩
          · rw [c5.get k (by simp; omega) (by simp), AH.get_push_old _ _ _ (by omega)]; exact i5 k q1 q2 q3
          · obtain ⟨e1, e2, e3⟩ := i6 hmv
            refine ⟨e1, e2, fun s hs hL => ?_⟩
            by_cases e : s = t
            · subst e; subst e1; subst e2; exact ⟨D, c3, c4⟩
            · exact e3 s (by omega) hL
        · have kp := c3.pos
          have kw0 : ¬ w = 0 := by omega
          have d0 := c1.lim
          have dnn := c1.net
          have ldn := AH.get_lt dnn
          have ldi := AH.get_lt c1.ang
          obtain ⟨_, p1, p2, p3, p4⟩ := c2
          have cn := c5.next
          simp at cn
          have hset := fun y => netC_set (T := (j : Int)) (nC := nC) (C := C) (aA := aA) (i := i) (m := E.length) (L := L3) (k := t) y
          have htl : tL ph (L3.set t (nth L3 t - w)) ps w = tL ph (L3.set t (nth L3 t - w)) ps w := rfl
          obtain ⟨f1, f2⟩ := i2.step (by omega) c3 c4
          have hpl : pl.contains (tFn ph) = true := by cases ph <;> decide
          simp at hpl
          have gne : ¬ s3.next = n := by omega
          simp (disch := omega) [eqf1, eqf2, Und, kw0, d0, dnn, ldn, sll, hnl3, hnp3, h2', h3', h4', hset, p4, gne, hpl, -Bool.exists_bool, -getElem?_pos]
          generalize hs5 : s4.set n _ = s5
          have u0 : s5.lim = 0 := by rw [← hs5]; exact d0
          have un5 : s5.next = s4.next := by rw [← hs5]; rfl
          have ug : ∀ k, k ≠ n → s5.get k = s4.get k := fun k hk => by rw [← hs5, AH.get_set_other _ _ _ _ hk]
          have unn : s5.get n = some (.cells (netC (j : Int) nC C aA i E.length (L3.set t (nth L3 t - w)))) := by rw [← hs5]; exact AH.get_set_same _ _ _ ldn
          have hps := c3.pl
          have hwb := c3.goal
          have hL3p : -9223372036854775808 ≤ nth (L3.set t (nth L3 t - w)) ps - w ∧ nth (L3.set t (nth L3 t - w)) ps - w ≤ 9223372036854775807 := by
            have hx : -10000000 ≤ nth (L3.set t (nth L3 t - w)) ps ∧ nth (L3.set t (nth L3 t - w)) ps ≤ 10000000 := by
              rw [nth_set (by omega)]
              split
              · omega
              · by_cases e : ps < 16
                · have := i2.bd ps e; omega
                · have : ps = 16 := by omega
                  subst this
                  have := i2.l16; omega
            omega
          refine took_call (T := (j : Int)) (nC := nC) (C := C) (aA := aA) (E := E) (i := i) (L := L3.set t (nth L3 t - w)) (by simpa using sll) u0 ((ug bx lbn).trans p1) unn hps hL3p fun s6 z1 z2 => ?_
          simp (disch := omega) [eqf1, eqf2, Und, -Bool.exists_bool, -getElem?_pos]
          have z3 := z2.next
          have zg : ∀ k, k < s4.next → k ≠ n → s6.get k = s4.get k := fun k q1 q2 => by rw [z2.get k (by omega) (by simpa using q2), ug k q2]
          have hlk : lackN (tL ph (L3.set t (nth L3 t - w)) ps w) < lackN L3 := lackN_lt (t := t) (by omega) (by rw [f2 t (by omega), if_pos rfl]; omega) hpos fun s hs hne => by rw [f2 s hs, if_neg hne]
          refine ⟨(nth (tL ph (L3.set t (nth L3 t - w)) ps w) t).toNat, by rw [f2 t (by omega), if_pos rfl]; omega, h4, _, rfl, ⟨z2.lim.trans u0, z1, by rw [zg i ldi (Ne.symm nei)]; exact c1.ang, nei, f1.ll, c3.bd⟩, f1, fun s q1 q2 => ?_, by omega, fun k q1 q2 q3 => ?_, (fun h => by cases h), fun _ => ?_⟩
          · rw [f2 s q2, if_neg (by omega)]; exact i3 s q1 q2
          · rw [zg k (by omega) q2, c5.get k (by simp; omega) (by simp; omega), AH.get_push_old _ _ _ (by omega)]; exact i5 k q1 q2 q3
          · cases mv3 with
            | false => obtain ⟨e1, e2, e3⟩ := i6 rfl; subst e2; exact hlk
            | true => have := i7 rfl; omega
      · simp (disch := omega) [eqf1, eqf2, Und, s0, snn, sll, hnl3, hnp3, h2', h3', h4', hpos, -Bool.exists_bool, -getElem?_pos]
        refine ⟨k3 - 1, by omega, t + 1, by omega, h3, L3, mv3, ⟨rfl, by omega⟩, i1, i2, i3, i4, i5, fun hmv => ?_, i7⟩
        obtain ⟨e1, e2, e3⟩ := i6 hmv
        refine ⟨e1, e2, fun s hs hL => ?_⟩
        by_cases e : s = t
        · subst e; subst e2; omega
        · exact e3 s (by omega) hL
    · obtain rfl : t = j := by omega
      obtain ⟨i1, i2, i3, i4, i5, i6, i7⟩ := hI
      cases mv with
      | false =>
        simp (disch := omega) [eqf1, eqf2, Und, -Bool.exists_bool, -getElem?_pos]
        obtain ⟨rfl, rfl, e3⟩ := i6 rfl
        refine hk h2 L2 R s i1 i2 ⟨hR.rl, fun q hq hL => ?_, hR.clo, ?_⟩ i3 ⟨i1.lim.trans hl0.symm, by omega, fun k q1 q2 => ?_⟩
        · have hqN : q < t := by
            by_cases e : q < t
            · exact e
            · have := i3 q (by omega) hq; omega
          refine (hR.src q (by omega) ?_).1
          rw [fromL_get _ _ (by omega)]
          simp [hqN, hL]
        · refine no_goal hR fun q hq hS => ?_
          rw [fromL_get _ _ hq] at hS
          simp at hS
          obtain ⟨D, hD1, hD2⟩ := e3 q hS.1 hS.2
          refine ⟨fun p => decide (p < 17) && nth D p, by simp [hq, hD1], fun p hp => ?_⟩
          simp at hp
          obtain ⟨c1, c2⟩ := hD2 p hp.1 hp.2
          refine ⟨c1, fun q i w hs hf => ?_⟩
          have := (stp_lt hE hs).2
          simp [this, c2 q i w hs hf]
        · simp at q2
          rw [i5 k (by omega) q2.1 q2.2, wold k q1 q2.1 q2.2]
      | true =>
        simp (disch := omega) [eqf1, eqf2, Und, -Bool.exists_bool, -getElem?_pos]
        have := i7 rfl
        refine ⟨lackN L2, by omega, h2, L2, rfl, i1, i2, i3, ?_, by omega, fun k q1 q2 q3 => ?_⟩
        · rw [i5 _ (by omega) (by omega) (by have := AH.get_lt tn.ang; omega)]; exact wb4
        · rw [i5 k (by omega) q2 q3, wold k q1 q2 q3]
end
end Go.Oct.Tri
