/- Ranks: the order of clocks on trial, plain. -/
import Derived.Test.YtddkghgfbhhcdaaGreatDoorOLogTri
set_option maxRecDepth 100000
set_option maxHeartbeats 4000000
set_option linter.unusedVariables false
set_option linter.unusedSimpArgs false
namespace Go.Oct.Log.Ck
open Go.Oct
def enAt (l : List Ent) (i : Nat) : En := ⟨nth l i, i, numV (nth l i).weeks⟩
def enL (l : List Ent) (n : Nat) : List En := (List.range n).map (enAt l)
theorem enL_succ (l : List Ent) (n : Nat) : enL l (n + 1) = enL l n ++ [enAt l n] := by unfold enL; rw [List.range_succ, List.map_append]; rfl
theorem enL_len (l : List Ent) (n : Nat) : (enL l n).length = n := by unfold enL; simp
def nums (l : List Ent) (n : Nat) : List Int := (List.range n).map fun i => numV (nth l i).weeks
theorem nums_succ (l : List Ent) (n : Nat) : nums l (n + 1) = nums l n ++ [numV (nth l n).weeks] := by unfold nums; rw [List.range_succ, List.map_append]; rfl
theorem nums_len (l : List Ent) (n : Nat) : (nums l n).length = n := by unfold nums; simp
def ltI (l : List Ent) (a b : Nat) : Prop := ltE (enAt l a) (enAt l b)
instance (x y : En) : Decidable (ltE x y) := by unfold ltE; infer_instance
instance (l : List Ent) (a b : Nat) : Decidable (ltI l a b) := by unfold ltI; infer_instance
/-- A number more, where it belongs. -/
def ins (l : List Ent) (o : List Nat) (i : Nat) : List Nat := o.takeWhile (fun a => decide (ltI l a i)) ++ i :: o.dropWhile (fun a => decide (ltI l a i))
def ordR (l : List Ent) : Nat → List Nat
  | 0 => []
  | n + 1 => ins l (ordR l n) n
theorem ltE_trans {a b c : En} (h1 : ltE a b) (h2 : ltE b c) : ltE a c := by
  unfold ltE at *
  rcases h1 with h1 | ⟨h1, h3⟩
  · rcases h2 with h2 | ⟨h2, _⟩ <;> exact .inl (by omega)
  · rcases h2 with h2 | ⟨h2, h4⟩
    · exact .inl (by omega)
    · exact .inr ⟨by omega, slt_trans h3 h4⟩
theorem ltE_irrefl (a : En) : ¬ ltE a a := fun h => ordE.asymm a a h h
theorem ltE_tri {a b : En} (h : a.ent.name ≠ b.ent.name) : ltE a b ∨ ltE b a := by
  unfold ltE
  rcases Int.lt_trichotomy a.num b.num with h1 | h1 | h1
  · exact .inl (.inl h1)
  · rcases slt_tri a.ent.name b.ent.name with h2 | h2 | h2
    · exact .inl (.inr ⟨h1, h2⟩)
    · exact absurd h2 h
    · exact .inr (.inr ⟨h1.symm, h2⟩)
  · exact .inr (.inl h1)
theorem ins_perm (l : List Ent) (o : List Nat) (i : Nat) : (ins l o i).Perm (i :: o) := by
  unfold ins
  refine List.perm_middle.trans (List.Perm.cons i ?_)
  rw [List.takeWhile_append_dropWhile]
theorem ordR_perm (l : List Ent) : ∀ n, (ordR l n).Perm (List.range n)
  | 0 => .refl _
  | n + 1 => by
    refine (ins_perm l _ n).trans ?_
    rw [List.range_succ]
    exact ((ordR_perm l n).cons n).trans (List.perm_append_singleton n (List.range n)).symm
theorem ordR_len (l : List Ent) (n : Nat) : (ordR l n).length = n := by rw [(ordR_perm l n).length_eq, List.length_range]
theorem ordR_lt {l : List Ent} {n i : Nat} (h : i ∈ ordR l n) : i < n := List.mem_range.1 ((ordR_perm l n).mem_iff.1 h)
theorem ins_sorted {l : List Ent} {i : Nat} : ∀ {o : List Nat}, o.Pairwise (ltI l) → (∀ a ∈ o, ltI l a i ∨ ltI l i a) → (ins l o i).Pairwise (ltI l)
  | [], _, _ => by simp [ins]
  | a :: o, hp, ht => by
    have hp' := List.pairwise_cons.1 hp
    by_cases h : ltI l a i
    · have e : ins l (a :: o) i = a :: ins l o i := by simp [ins, h]
      rw [e, List.pairwise_cons]
      refine ⟨fun b hb => ?_, ins_sorted hp'.2 fun b hb => ht b (List.mem_cons_of_mem _ hb)⟩
      rcases List.mem_cons.1 ((ins_perm l o i).mem_iff.1 hb) with rfl | hb
      · exact h
      · exact hp'.1 b hb
    · have e : ins l (a :: o) i = i :: a :: o := by simp [ins, h]
      rw [e, List.pairwise_cons]
      have hia := (ht a (List.mem_cons_self ..)).resolve_left h
      refine ⟨fun b hb => ?_, hp⟩
      rcases List.mem_cons.1 hb with rfl | hb
      · exact hia
      · exact ltE_trans hia (hp'.1 b hb)
theorem tri_ne {l : List Ent} (h : okTri l) {a b : Nat} (hab : a < b) (hb : b < l.length) : (nth l a).name ≠ (nth l b).name := (h.2 b hb).2.2 a hab
theorem ordR_sorted {l : List Ent} (h : okTri l) : ∀ n, n ≤ l.length → (ordR l n).Pairwise (ltI l)
  | 0, _ => .nil
  | n + 1, hn => ins_sorted (ordR_sorted h n (by omega)) fun a ha => ltE_tri (a := enAt l a) (b := enAt l n) (tri_ne h (ordR_lt ha) (by omega))
theorem tri_weeks {l : List Ent} (h : okTri l) {i : Nat} (hi : i < l.length) : okWeeks (nth l i).weeks := by
  obtain ⟨⟨_, h2, _⟩, h4, _⟩ := h.2 i hi
  exact ⟨by omega, h4⟩
/-- What sorting leaves. -/
theorem sorted_ord {l : List Ent} (h : okTri l) {ys : List En} (hp : ys.Perm (enL l l.length)) (hs : SortedTo ltE ys l.length) : ys = (ordR l l.length).map (enAt l) := by
  have hyl : ys.length = l.length := by rw [hp.length_eq, enL_len]
  have hz : ((ordR l l.length).map (enAt l)).Perm ys := ((ordR_perm l l.length).map (enAt l)).trans hp.symm
  refine (sorted_uniq (lt := ltE) (fun a b c => ltE_trans) ltE_irrefl hz (fun p q h1 h2 => ?_) (fun p q h1 h2 => ?_)).symm
  · rw [List.length_map] at h2
    have := List.pairwise_iff_getElem.1 (ordR_sorted h l.length (Nat.le_refl _)) p q (by omega) h2 h1
    rw [nth_map _ (by omega), nth_map _ h2, nth_eq (by omega), nth_eq h2]
    exact this
  · have hne : (nth ys p).ent.name ≠ (nth ys q).ent.name := by
      have hnd : (ys.map fun x : En => x.ent.name).Nodup := by
        refine ((hp.map fun x : En => x.ent.name).nodup_iff).2 ?_
        unfold enL
        rw [List.map_map]
        refine List.pairwise_iff_getElem.2 fun a b ha hb hab => ?_
        simp only [List.length_map, List.length_range] at ha hb
        simp only [List.getElem_map, List.getElem_range, Function.comp, enAt]
        exact tri_ne h hab hb
      have := List.pairwise_iff_getElem.1 hnd p q (by simp; omega) (by simp; omega) h1
      simp only [List.getElem_map] at this
      rw [nth_eq (by omega), nth_eq h2]
      exact this
    exact (ltE_tri hne).resolve_right (hs p q h1 (by omega))
end Go.Oct.Log.Ck
