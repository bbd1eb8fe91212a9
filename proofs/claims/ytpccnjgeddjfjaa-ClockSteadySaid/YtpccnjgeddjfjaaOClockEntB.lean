/- Clocks on trial that are put together in new memory. -/
import Derived.Test.YtpccnjgeddjfjaaOClockSteP
import Derived.Test.YtpccnjgeddjfjaaOT4
set_option maxRecDepth 100000
set_option maxHeartbeats 1000000
set_option linter.unusedVariables false
set_option linter.unusedSimpArgs false
namespace Go.Oct.Clock
open Go.Oct
abbrev ER := Nat × ByteArray × List Int
def eER (x : ER) : AV := .agg [.str x.2.1, .slice (some (x.1, 0)) x.2.2.length (.op 1)]
theorem encER : Enc eER 2 := ⟨fun _ => rfl, fun _ => rfl, fun _ => rfl, by decide⟩
def entE (x : ER) : Ent := ⟨x.2.1, false, x.2.2⟩
def EntB (σ : AH) (v : AV) (xs : List ER) : Prop := Buf 0 2 eER σ v xs ∧ ∀ x ∈ xs, σ.get x.1 = some (.cells (rowI x.2.2)) ∧ x.1 ∉ obj v
def ownE (v : AV) (xs : List ER) : List Nat := obj v ++ xs.map (·.1)
theorem EntB.nil {σ : AH} : EntB σ (.vsl true []) [] := ⟨Buf.nil, fun x hx => by cases hx⟩
theorem EntB.lt {σ : AH} {v : AV} {xs : List ER} (h : EntB σ v xs) : ∀ i ∈ ownE v xs, i < σ.next := fun i hi => by
  rcases List.mem_append.1 hi with hi | hi
  · exact (h.1.obj_lt i hi).2
  · obtain ⟨x, hx, rfl⟩ := List.mem_map.1 hi
    exact AH.get_lt (h.2 x hx).1
theorem EntB.keep {σ σ' : AH} {v : AV} {xs : List ER} (h : EntB σ v xs) (hk : ∀ i ∈ ownE v xs, σ'.get i = σ.get i) : EntB σ' v xs := by
  obtain ⟨h1, h2⟩ := h
  refine ⟨?_, fun x hx => ⟨by rw [hk x.1 (List.mem_append_right _ (List.mem_map.2 ⟨x, hx, rfl⟩))]; exact (h2 x hx).1, (h2 x hx).2⟩⟩
  rcases h1 with h1 | ⟨i, rfl, a, b, c⟩
  · exact .inl h1
  · exact .inr ⟨i, rfl, a, by rw [hk i (List.mem_append_left _ (by simp [obj]))]; exact b, c⟩
theorem EntB.push {σ : AH} {v : AV} {xs : List ER} (h : EntB σ v xs) (hlim : σ.lim = 0) {i : Nat} {s : ByteArray} {ws : List Int} (hg : σ.get i = some (.cells (rowI ws))) (hi : i ∉ ownE v xs) {bytes : Nat} (hsz : (xs.length + 1) * bytes ≤ topBytes) {k : AV → AH → Prop}
    (hk : ∀ v' σ', EntB σ' v' (xs ++ [(i, s, ws)]) → Grew 0 v v' σ σ' → k v' σ') :
    OptK2 (aappend 2 bytes v (.slice (some (σ.next, 0)) 1 (.ex 1)) (σ.push (.cells [.str s, .slice (some (i, 0)) ws.length (.op 1)]))) k := by
  obtain ⟨h1, h2⟩ := h
  refine h1.push encER (Nat.le_of_eq hlim) (Nat.zero_le _) (i, s, ws) hsz (cs := [.str s, .slice (some (i, 0)) ws.length (.op 1)]) rfl fun v' σ' hb hgr => ?_
  refine hk v' σ' ⟨hb, fun x hx => ?_⟩ hgr
  have old : σ.get x.1 = some (.cells (rowI x.2.2)) ∧ x.1 ∉ obj v := by
    rcases List.mem_append.1 hx with hx | hx
    · exact h2 x hx
    · obtain rfl := List.mem_singleton.1 hx
      exact ⟨hg, fun hc => hi (List.mem_append_left _ hc)⟩
  obtain ⟨b, c⟩ := old
  have hlt := AH.get_lt b
  refine ⟨?_, fun hc => ?_⟩
  · rw [hgr.only.get x.1 hlt c]; exact b
  · rcases hgr.fresh _ hc with h | h
    · exact c h
    · omega
theorem rowER_map {g : AV → AV} : ∀ {xs : List ER}, (∀ s, g (.str s) = .str s) → (∀ x ∈ xs, g (.slice (some (x.1, 0)) x.2.2.length (.op 1)) = vs false x.2.2) → (rowOf eER xs).map g = rowOf eEnt (xs.map entE)
  | [], _, _ => rfl
  | x :: xs, h1, h2 => by
    have h3 := rowER_map (g := g) (xs := xs) h1 fun y hy => h2 y (List.mem_cons_of_mem _ hy)
    have e : (eER x).cells = [.str x.2.1, .slice (some (x.1, 0)) x.2.2.length (.op 1)] := rfl
    have e2 : (eEnt (entE x)).cells = [.str x.2.1, vs false x.2.2] := rfl
    simp only [rowOf, List.flatMap_cons, List.map_cons, List.map_append] at h3 ⊢
    rw [h3, e, e2]
    simp only [List.map_cons, List.map_nil]
    rw [h1, h2 x (List.mem_cons_self ..)]
theorem EntB.snap {σ : AH} {v : AV} {xs : List ER} (h : EntB σ v xs) : Snap σ v (ownE v xs) (vl eEnt xs.isEmpty (xs.map entE)) := by
  obtain ⟨h1, h2⟩ := h
  rcases h1 with ⟨rfl, rfl⟩ | ⟨i, rfl, a, b, c⟩
  · exact ⟨rfl, fun _ _ => rfl⟩
  have hcel : σ.cel i = some (rowOf eER xs) := by simp [b]
  have hrow : ∀ x ∈ xs, σ.cel x.1 = some (rowI x.2.2) := fun x hx => by simp [(h2 x hx).1]
  have hrI : ∀ (k : Nat) (ys : List Int) (cl : Nat → Option (List AV)), (rowI ys).flatMap (idsV (k + 1) cl) = [] := fun k ys cl => by
    rw [rowI_eq]
    induction ys with
    | nil => rfl
    | cons y ys ih => rw [List.map_cons, List.flatMap_cons, ih]; rfl
  have hids : ∀ ys : List ER, (∀ x ∈ ys, σ.cel x.1 = some (rowI x.2.2)) → (rowOf eER ys).flatMap (idsV 7 σ.cel) = ys.map (·.1) := by
    intro ys
    induction ys with
    | nil => intro _; rfl
    | cons y ys ih =>
      intro hy
      have e : (eER y).cells = [.str y.2.1, .slice (some (y.1, 0)) y.2.2.length (.op 1)] := rfl
      have e3 : idsV 7 σ.cel (.slice (some (y.1, 0)) y.2.2.length (.op 1)) = [y.1] := by
        show (match σ.cel y.1 with
          | some cs => y.1 :: cs.flatMap (idsV 6 σ.cel)
          | none => []) = _
        rw [hy y (List.mem_cons_self ..)]
        simp only [hrI 5]
      have e4 := ih fun x hx => hy x (List.mem_cons_of_mem _ hx)
      unfold rowOf at e4 ⊢
      rw [List.flatMap_cons, List.flatMap_append, e4, e]
      simp only [List.flatMap_cons, List.flatMap_nil, List.append_nil, e3, List.map_cons]
      rfl
  refine ⟨?_, fun T hT => ?_⟩
  · show (match σ.cel i with
      | some cs => i :: cs.flatMap (idsV 7 σ.cel)
      | none => []) = _
    rw [hcel]
    simp only [hids xs hrow]
    rfl
  · have hin : ∀ j, j ∈ T → σ.celOf T j = σ.cel j := fun j hj => by
      unfold AH.celOf
      rw [if_pos (by simpa using hj)]
    have hci : σ.celOf T i = some (rowOf eER xs) := by rw [hin i (hT i (List.mem_append_left _ (by simp [obj])))]; exact hcel
    have hm : (rowOf eER xs).map (fun c => (fzV 7 (σ.celOf T) c).na) = rowOf eEnt (xs.map entE) := rowER_map (fun s => rfl) fun x hx => by
      have hcx : σ.celOf T x.1 = some (rowI x.2.2) := by rw [hin x.1 (hT x.1 (List.mem_append_right _ (List.mem_map.2 ⟨x, hx, rfl⟩)))]; exact hrow x hx
      have := fz_whole (e := AV.int .i64) (z := 1) ⟨fun _ => rfl, fun _ => rfl, fun _ => rfl, by decide⟩ flatI (f := σ.celOf T) (o := x.1) (xs := x.2.2) (c := .op 1) hcx (.inl rfl) 5
      rw [this]
      rfl
    have hlx := rowOf_length encER xs
    show (match σ.celOf T i with
      | some cs => if 0 ≤ cs.length then
          match ACap.cellsOf xs.length (cs.length - 0) (.op 2) with
          | some z => AV.vsl false (chunks z xs.length ((cs.drop 0).map fun x => (fzV 7 (σ.celOf T) x).na))
          | none => .undef
        else .undef
      | none => .undef) = _
    rw [hci]
    simp only [Nat.zero_le, if_true, List.drop_zero, hm, Nat.sub_zero, ACap.cellsOf, hlx, Nat.le_refl]
    have fin := chunks_rowOf encEnt (xs.map entE)
    rw [List.length_map] at fin
    rw [fin]
    have hne : xs.isEmpty = false := by cases xs <;> simp at c ⊢
    rw [hne]
    rfl
/-- In a region whose order is open. -/
theorem EntB.apk {σ : AH} {v : AV} {xs : List ER} (h : EntB σ v xs) (hlim : σ.lim = 0) {i : Nat} {nm : ByteArray} {ws : List Int} (hg : σ.get i = some (.cells (rowI ws))) (hi : i ∉ ownE v xs) {s : Seg} (hsn : s.seg ≤ σ.next) (hold : ∀ i ∈ obj v, i < s.seg ∧ i ∉ s.lds) {bytes : Nat} (hsz : (xs.length + 1) * bytes ≤ topBytes) {kd : Kn (AV → AH → Seg → Prop)}
    (hk : ∀ v' σ' sts, EntB σ' v' (xs ++ [(i, nm, ws)]) → Grew 0 v v' σ σ' → (∀ i, i ∈ sts → i ∈ s.sts ∨ i ∈ obj v) → kd.k v' σ' ⟨s.seg, s.lds, sts⟩) :
    @ApK (oldA v s) 2 bytes v (.tsl 1 [.str nm, .slice (some (i, 0)) ws.length (.op 1)]) σ s kd := by
  obtain ⟨h1, h2⟩ := h
  refine h1.apk encER (Nat.le_of_eq hlim) (Nat.zero_le _) hsn hold (i, nm, ws) hsz (cs := [.str nm, .slice (some (i, 0)) ws.length (.op 1)]) rfl fun v' σ' sts hb hgr hst => ?_
  refine hk v' σ' sts ⟨hb, fun x hx => ?_⟩ hgr hst
  have old : σ.get x.1 = some (.cells (rowI x.2.2)) ∧ x.1 ∉ obj v := by
    rcases List.mem_append.1 hx with hx | hx
    · exact h2 x hx
    · obtain rfl := List.mem_singleton.1 hx
      exact ⟨hg, fun hc => hi (List.mem_append_left _ hc)⟩
  obtain ⟨b, c⟩ := old
  have hlt := AH.get_lt b
  refine ⟨?_, fun hc => ?_⟩
  · rw [hgr.only.get x.1 hlt c]; exact b
  · rcases hgr.fresh _ hc with h | h
    · exact c h
    · omega
theorem EntB.pushT {σ : AH} {v : AV} {xs : List ER} (h : EntB σ v xs) (hlim : σ.lim = 0) {i : Nat} {nm : ByteArray} {ws : List Int} (hg : σ.get i = some (.cells (rowI ws))) (hi : i ∉ ownE v xs) {bytes : Nat} (hsz : (xs.length + 1) * bytes ≤ topBytes) {k : AV → AH → Prop}
    (hk : ∀ v' σ', EntB σ' v' (xs ++ [(i, nm, ws)]) → Grew 0 v v' σ σ' → k v' σ') : OptK2 (aappend 2 bytes v (.tsl 1 [.str nm, .slice (some (i, 0)) ws.length (.op 1)]) σ) k := by
  obtain ⟨h1, h2⟩ := h
  refine h1.pushT encER (Nat.le_of_eq hlim) (Nat.zero_le _) (i, nm, ws) hsz (cs := [.str nm, .slice (some (i, 0)) ws.length (.op 1)]) rfl fun v' σ' hb hgr => ?_
  refine hk v' σ' ⟨hb, fun x hx => ?_⟩ hgr
  have old : σ.get x.1 = some (.cells (rowI x.2.2)) ∧ x.1 ∉ obj v := by
    rcases List.mem_append.1 hx with hx | hx
    · exact h2 x hx
    · obtain rfl := List.mem_singleton.1 hx
      exact ⟨hg, fun hc => hi (List.mem_append_left _ hc)⟩
  obtain ⟨b, c⟩ := old
  have hlt := AH.get_lt b
  refine ⟨?_, fun hc => ?_⟩
  · rw [hgr.only.get x.1 hlt c]; exact b
  · rcases hgr.fresh _ hc with h | h
    · exact c h
    · omega
theorem own_grow {σ σ' : AH} {v v' : AV} {xs : List ER} {x : ER} (h : Grew 0 v v' σ σ') : ∀ i ∈ ownE v' (xs ++ [x]), i ∈ ownE v xs ∨ i = x.1 ∨ σ.next ≤ i := fun i hi => by
  rcases List.mem_append.1 hi with hi | hi
  · rcases h.fresh i hi with h | h
    · exact .inl (List.mem_append_left _ h)
    · exact .inr (.inr h)
  · rw [List.map_append] at hi
    rcases List.mem_append.1 hi with hi | hi
    · exact .inl (List.mem_append_right _ hi)
    · exact .inr (.inl (by simpa using hi))
/-- Slices that were grown, n of them, apart from one another. -/
structure BufN (n lo : Nat) (σ : AH) (V : Nat → AV) (X : Nat → List Int) : Prop where
  buf : ∀ k, k < n → Buf lo 1 (AV.int .i64) σ (V k) (X k)
  dis : ∀ k l, k < n → l < n → k ≠ l → ∀ i ∈ obj (V k), i ∉ obj (V l)
theorem BufN.put {n lo : Nat} {σ σ' : AH} {V : Nat → AV} {X : Nat → List Int} (h : BufN n lo σ V X) {k : Nat} {v' : AV} {xs' : List Int} (b : Buf lo 1 (AV.int .i64) σ' v' xs') (g : Grew lo (V k) v' σ σ') (hk : k < n) :
    BufN n lo σ' (fun q => if q = k then v' else V q) (fun q => if q = k then xs' else X q) := by
  have hlt : ∀ q, q < n → ∀ i ∈ obj (V q), i < σ.next := fun q hq i hi => ((h.buf q hq).obj_lt i hi).2
  refine ⟨fun q hq => ?_, fun q l hq hl hql i hi => ?_⟩
  · by_cases e : q = k
    · simpa [e] using b
    · simp only [e, if_false]
      exact (h.buf q hq).stay g.only fun i hi => h.dis q k hq hk e i hi
  · by_cases e : q = k
    · subst e
      simp only [if_true] at hi
      have e2 : ¬ l = q := fun e => hql e.symm
      simp only [e2, if_false]
      intro hi2
      rcases g.fresh i hi with h1 | h1
      · exact h.dis q l hq hl hql i h1 hi2
      · have := hlt l hl i hi2; omega
    · simp only [e, if_false] at hi
      by_cases e2 : l = k
      · subst e2
        simp only [if_true]
        intro hi2
        rcases g.fresh i hi2 with h1 | h1
        · exact h.dis q l hq hl hql i hi h1
        · have := hlt q hq i hi; omega
      · simp only [e2, if_false]
        exact h.dis q l hq hl hql i hi
theorem BufN.stay {n lo : Nat} {σ σ' : AH} {V : Nat → AV} {X : Nat → List Int} (h : BufN n lo σ V X) (hs : ∀ i, lo ≤ i → i < σ.next → σ'.get i = σ.get i) : BufN n lo σ' V X :=
  ⟨fun k hk => (h.buf k hk).keep hs, h.dis⟩
theorem BufN.congr {n lo : Nat} {σ : AH} {V V' : Nat → AV} {X X' : Nat → List Int} (h : BufN n lo σ V X) (hv : ∀ k, k < n → V' k = V k) (hx : ∀ k, k < n → X' k = X k) : BufN n lo σ V' X' :=
  ⟨fun k hk => by rw [hv k hk, hx k hk]; exact h.buf k hk, fun k l hk hl hkl i => by rw [hv k hk, hv l hl]; exact h.dis k l hk hl hkl i⟩
end Go.Oct.Clock
