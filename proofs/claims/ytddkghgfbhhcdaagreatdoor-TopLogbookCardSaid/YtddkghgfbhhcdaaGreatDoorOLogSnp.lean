/- Rows in the heap, as calls see them. -/
import Derived.Test.YtddkghgfbhhcdaaGreatDoorOLogWet
set_option maxRecDepth 100000
set_option maxHeartbeats 4000000
set_option linter.unusedVariables false
set_option linter.unusedSimpArgs false
namespace Go.Oct.Log
open Go.Oct
section
variable {α : Type} {e : α → AV} {z lo : Nat} {σ : AH} {v : AV} {rs : List (List α)}
theorem flat_ids (hf : flatE e) (f : Nat → Option (List AV)) (k : Nat) (xs : List α) : (rowOf e xs).flatMap (idsV (k + 1) f) = [] := by
  rw [List.flatMap_eq_nil_iff]
  intro c hc
  obtain ⟨x, _, hx⟩ := List.mem_flatMap.1 hc
  exact (hf x c hx k _).1
theorem rows_snap {xs : List (Nat × Bool × List α)} (h3 : Buf lo 1 (eRo z) σ v xs) (h5 : ∀ x ∈ xs, σ.get x.1 = some (.cells (rowOf e x.2.2))) (he : Enc e z) (hf : flatE e) : Snap σ v (obj v ++ xs.map (·.1)) (vl (eRv e) xs.isEmpty (xs.map fun x => (false, x.2.2))) := by
  rcases h3 with ⟨rfl, rfl⟩ | ⟨i, rfl, h7, h8, hne⟩
  · exact ⟨rfl, fun _ _ => rfl⟩
  have hcel : σ.cel i = some (rowOf (eRo z) xs) := by simp [h8]
  refine ⟨?_, fun T hT => ?_⟩
  · show (match σ.cel i with
      | some cs => i :: cs.flatMap (idsV 7 σ.cel)
      | none => []) = i :: xs.map (·.1)
    rw [hcel, rowOf_eRo]
    show i :: _ = _
    congr 1
    rw [List.flatMap_map]
    have : ∀ ys : List (Nat × Bool × List α), (∀ x ∈ ys, x ∈ xs) → ys.flatMap (fun x => idsV 7 σ.cel (eRo z x)) = ys.map (·.1) := by
      intro ys
      induction ys with
      | nil => intro _; rfl
      | cons y ys ih =>
        intro hy
        rw [List.flatMap_cons, ih fun x hx => hy x (List.mem_cons_of_mem _ hx), List.map_cons]
        have b := h5 y (hy y (List.mem_cons_self ..))
        have hc2 : σ.cel y.1 = some (rowOf e y.2.2) := by simp [b]
        have : idsV 7 σ.cel (eRo z y) = [y.1] := by
          show (match σ.cel y.1 with
            | some cs => y.1 :: cs.flatMap (idsV 6 σ.cel)
            | none => []) = _
          rw [hc2]
          show y.1 :: _ = _
          rw [flat_ids hf]
        rw [this]; rfl
    exact this xs fun _ h => h
  · have hT : ∀ j ∈ i :: xs.map (·.1), j ∈ T := hT
    have cT : ∀ j, j ∈ T → σ.celOf T j = σ.cel j := fun j hj => by
      unfold AH.celOf
      rw [if_pos (by simpa using hj)]
    show (match σ.celOf T i with
      | some cs => if 0 ≤ cs.length then
          match ACap.cellsOf xs.length (cs.length - 0) (.op 1) with
          | some z => AV.vsl false (chunks z xs.length ((cs.drop 0).map fun x => (fzV 7 (σ.celOf T) x).na))
          | none => .undef
        else .undef
      | none => .undef) = _
    rw [cT i (hT i (List.mem_cons_self ..)), hcel, rowOf_eRo]
    simp only [Nat.zero_le, if_true, List.drop_zero, Nat.sub_zero, List.length_map, ACap.cellsOf, Nat.mul_one, Nat.le_refl, List.map_map]
    have hm : xs.map ((fun x => (fzV 7 (σ.celOf T) x).na) ∘ eRo z) = xs.map fun x => vl e false x.2.2 := by
      refine List.map_congr_left fun x hx => ?_
      have b := h5 x hx
      have hc2 : σ.celOf T x.1 = some (rowOf e x.2.2) := by
        rw [cT x.1 (hT x.1 (List.mem_cons_of_mem _ (List.mem_map_of_mem hx)))]
        simp [b]
      show (fzV 7 (σ.celOf T) (.slice (some (x.1, 0)) x.2.2.length (bif x.2.1 then .op z else .ex x.2.2.length))).na = _
      rw [fz_whole he hf hc2 (by cases x.2.1 <;> simp)]; rfl
    rw [hm]
    have := chunks_one (xs.map fun x => vl e false x.2.2)
    rw [List.length_map] at this
    rw [this]
    have hne2 : xs.isEmpty = false := by cases xs with
      | nil => exact absurd rfl hne
      | cons => rfl
    rw [hne2]
    simp only [vl, List.map_map]
    rfl
/-- One row. -/
theorem RowsB.at (h : RowsB lo z e σ v rs) {r : Nat} (hr : r < rs.length) : ∃ i o c, v = .slice (some (i, 0)) rs.length (.op 1) ∧ (∃ cs, σ.get i = some (.cells cs) ∧ cs.length = rs.length ∧ cs[r]? = some (.slice (some (o, 0)) (nth rs r).length c)) ∧ σ.get o = some (.cells (rowOf e (nth rs r))) := by
  obtain ⟨xs, rfl, h3, h5⟩ := h
  rw [List.length_map] at hr
  rcases h3 with ⟨rfl, rfl⟩ | ⟨i, rfl, h7, h8, hne⟩
  · simp at hr
  · obtain ⟨a, b, c⟩ := h5 (nth xs r) (nth_mem hr)
    rw [nth_map _ hr, List.length_map]
    refine ⟨i, (nth xs r).1, (bif (nth xs r).2.1 then .op z else .ex (nth xs r).2.2.length), rfl, ⟨_, h8, by rw [rowOf_eRo, List.length_map], ?_⟩, b⟩
    rw [rowOf_eRo, List.getElem?_map, List.getElem?_eq_getElem hr, nthE hr]
    rfl
theorem RowsB.keepL {σ' : AH} (h : RowsB lo z e σ v rs) (hk : ∀ k, lo ≤ k → k < σ.next → σ'.get k = σ.get k) : RowsB lo z e σ' v rs := by
  obtain ⟨xs, h1, h3, h5⟩ := h
  refine ⟨xs, h1, h3.keep hk, fun x hx => ?_⟩
  obtain ⟨a, b, c⟩ := h5 x hx
  exact ⟨a, (hk _ a (AH.get_lt b)).trans b, c⟩
theorem RowsB.all (h : RowsB lo z e σ v rs) (hne : rs ≠ []) : ∃ i cs, v = .slice (some (i, 0)) rs.length (.op 1) ∧ σ.get i = some (.cells cs) ∧ cs.length = rs.length ∧ ∀ r, r < rs.length → ∃ o c, cs[r]? = some (.slice (some (o, 0)) (nth rs r).length c) ∧ σ.get o = some (.cells (rowOf e (nth rs r))) := by
  obtain ⟨xs, rfl, h3, h5⟩ := h
  rcases h3 with ⟨rfl, rfl⟩ | ⟨i, rfl, h7, h8, hx⟩
  · exact absurd rfl hne
  · refine ⟨i, rowOf (eRo z) xs, by rw [List.length_map], h8, by rw [rowOf_eRo, List.length_map, List.length_map], fun r hr => ?_⟩
    rw [List.length_map] at hr
    obtain ⟨a, b, c⟩ := h5 (nth xs r) (nth_mem hr)
    rw [nth_map _ hr]
    refine ⟨(nth xs r).1, (bif (nth xs r).2.1 then .op z else .ex (nth xs r).2.2.length), ?_, b⟩
    rw [rowOf_eRo, List.getElem?_map, List.getElem?_eq_getElem hr, nthE hr]
    rfl
/-- Rows whose objects lie in a set. -/
def RowsX (S : List Nat) (lo z : Nat) (e : α → AV) (σ : AH) (v : AV) (rs : List (List α)) : Prop :=
  ∃ xs : List (Nat × Bool × List α), rs = xs.map (·.2.2) ∧ Buf lo 1 (eRo z) σ v xs ∧ (∀ x, x ∈ xs → lo ≤ x.1 ∧ σ.get x.1 = some (.cells (rowOf e x.2.2)) ∧ x.1 ∉ obj v ∧ x.1 ∈ S) ∧ (∀ i ∈ obj v, i ∈ S) ∧ ∀ i ∈ S, lo ≤ i ∧ i < σ.next
theorem RowsX.nil : RowsX [] lo z e σ (.vsl true []) [] := ⟨[], rfl, Buf.nil, (fun x hx => by cases hx), (fun i hi => by cases hi), fun i hi => by cases hi⟩
theorem RowsX.rows {S : List Nat} (h : RowsX S lo z e σ v rs) : RowsB lo z e σ v rs := by
  obtain ⟨xs, h1, h2, h3, _⟩ := h
  exact ⟨xs, h1, h2, fun x hx => ⟨(h3 x hx).1, (h3 x hx).2.1, (h3 x hx).2.2.1⟩⟩
theorem RowsX.lt {S : List Nat} (h : RowsX S lo z e σ v rs) : ∀ i ∈ S, lo ≤ i ∧ i < σ.next := by
  obtain ⟨xs, _, _, _, _, h5⟩ := h
  exact h5
theorem under_self {σ : AH} {n : Nat} (h : σ.lim = n) : σ.under n = σ := by
  cases σ
  subst h
  rfl
theorem RowsX.stay {S T : List Nat} {σ' : AH} (h : RowsX S lo z e σ v rs) (hO : Only T σ σ') (hd : ∀ i ∈ S, i ∉ T) : RowsX S lo z e σ' v rs := by
  obtain ⟨xs, h1, h2, h3, h4, h5⟩ := h
  refine ⟨xs, h1, h2.stay hO fun i hi => hd i (h4 i hi), fun x hx => ?_, h4, fun i hi => ⟨(h5 i hi).1, Nat.lt_of_lt_of_le (h5 i hi).2 hO.next⟩⟩
  obtain ⟨a, b, c, d⟩ := h3 x hx
  exact ⟨a, (hO.get _ (AH.get_lt b) (hd _ d)).trans b, c, d⟩
theorem RowsX.push {S : List Nat} (h : RowsX S lo z e σ v rs) (hlim : σ.lim ≤ lo) (hlo : lo ≤ σ.next) {i : Nat} (row : List α) (hi : lo ≤ i) (hg : σ.get i = some (.cells (rowOf e row))) (hv : i ∉ S)
    {n : Nat} (hn : n = row.length) {c : ACap} (hc : c = .op z ∨ c = .ex n) {bytes : Nat} (hsz : (rs.length + 1) * bytes ≤ topBytes) {k : AV → AH → Prop}
    (hk : ∀ v' σ', RowsX (i :: (obj v' ++ S)) lo z e σ' v' (rs ++ [row]) → Only S σ σ' → (∀ j ∈ obj v', j ∈ S ∨ σ.next ≤ j) → k v' σ') :
    OptK2 (aappend 1 bytes v (.slice (some (σ.next, 0)) 1 (.ex 1)) (σ.push (.cells [.slice (some (i, 0)) n c]))) k := by
  subst hn
  obtain ⟨xs, rfl, h3, h5, h6, h7⟩ := h
  rw [List.length_map] at hsz
  obtain ⟨b, hb⟩ : ∃ b : Bool, (AV.slice (some (i, 0)) row.length c) = eRo z (i, b, row) := by
    rcases hc with rfl | rfl
    · exact ⟨true, rfl⟩
    · exact ⟨false, rfl⟩
  rw [hb]
  refine h3.push encRo hlim hlo (i, b, row) hsz (cs := [eRo z (i, b, row)]) rfl fun v' σ' hb hgr => ?_
  have il := AH.get_lt hg
  have hOS : Only S σ σ' := hgr.only.mono h6
  have hfr : ∀ j ∈ obj v', j ∈ S ∨ σ.next ≤ j := fun j hj => (hgr.fresh j hj).imp (h6 j) id
  refine hk v' σ' ⟨xs ++ [(i, b, row)], by simp, hb, fun x hx => ?_, fun j hj => List.mem_cons_of_mem _ (List.mem_append_left _ hj), fun j hj => ?_⟩ hOS hfr
  · have old : lo ≤ x.1 ∧ σ.get x.1 = some (.cells (rowOf e x.2.2)) ∧ x.1 ∉ obj v ∧ (x.1 = i ∨ x.1 ∈ S) := by
      rcases List.mem_append.1 hx with hx | hx
      · obtain ⟨q1, q2, q3, q4⟩ := h5 x hx
        exact ⟨q1, q2, q3, .inr q4⟩
      · obtain rfl := List.mem_singleton.1 hx
        exact ⟨hi, hg, fun hh => hv (h6 _ hh), .inl rfl⟩
    obtain ⟨a, b, c, d⟩ := old
    have hlt := AH.get_lt b
    refine ⟨a, ?_, fun hc => ?_, ?_⟩
    · rw [hgr.only.get x.1 hlt c]; exact b
    · rcases hgr.fresh _ hc with h | h
      · exact c h
      · omega
    · rcases d with d | d
      · rw [d]; exact List.mem_cons_self ..
      · exact List.mem_cons_of_mem _ (List.mem_append_right _ d)
  · have hnx := hgr.only.next
    rcases List.mem_cons.1 hj with rfl | hj
    · omega
    · rcases List.mem_append.1 hj with hj | hj
      · exact hb.obj_lt j hj
      · have := h7 j hj; omega
theorem RowsX.snapS {S : List Nat} (h : RowsX S lo z e σ v rs) (he : Enc e z) (hf : flatE e) : ∃ S', Snap σ v S' (vl (eRv e) rs.isEmpty (rs.map fun x => (false, x))) ∧ ∀ i ∈ S', i ∈ S := by
  obtain ⟨xs, rfl, h2, h3, h4, h5⟩ := h
  have := rows_snap h2 (fun x hx => (h3 x hx).2.1) he hf
  refine ⟨_, by rw [show (xs.map fun x => x.2.2).isEmpty = xs.isEmpty by cases xs <;> rfl, List.map_map]; exact this, fun i hi => ?_⟩
  rcases List.mem_append.1 hi with hi | hi
  · exact h4 i hi
  · obtain ⟨x, hx, rfl⟩ := List.mem_map.1 hi
    exact (h3 x hx).2.2.2
end
end Go.Oct.Log
