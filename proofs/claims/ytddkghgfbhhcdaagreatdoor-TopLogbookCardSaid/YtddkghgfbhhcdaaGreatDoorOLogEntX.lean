/- Clocks on trial in the heap, as a call sees them. -/
import Derived.Test.YtddkghgfbhhcdaaGreatDoorOLogRnk
import Derived.Test.YtddkghgfbhhcdaaGreatDoorOT4
set_option maxRecDepth 100000
set_option maxHeartbeats 1000000
set_option linter.unusedVariables false
set_option linter.unusedSimpArgs false
namespace Go.Oct.Log.Ck
open Go.Oct
abbrev ER := Nat × ByteArray × List Int
def eER (x : ER) : AV := .agg [.str x.2.1, .slice (some (x.1, 0)) x.2.2.length (.op 1)]
theorem encER : Enc eER 2 := ⟨fun _ => rfl, fun _ => rfl, fun _ => rfl, by decide⟩
def entE (x : ER) : Ent := ⟨x.2.1, false, x.2.2⟩
theorem rowER_map {g : AV → AV} : ∀ {xs : List ER}, (∀ s, g (.str s) = .str s) → (∀ x ∈ xs, g (.slice (some (x.1, 0)) x.2.2.length (.op 1)) = vs false x.2.2) → (rowOf eER xs).map g = rowOf eEnt (xs.map entE)
  | [], _, _ => rfl
  | x :: xs, h1, h2 => by
    have h3 := rowER_map (g := g) (xs := xs) h1 fun y hy => h2 y (List.mem_cons_of_mem _ hy)
    have e : (eER x).cells = [.str x.2.1, .slice (some (x.1, 0)) x.2.2.length (.op 1)] := rfl
    have e2 : (eEnt (entE x)).cells = [.str x.2.1, vs false x.2.2] := rfl
    simp only [rowOf, List.flatMap_cons, List.map_cons, List.map_append] at h3 ⊢
    rw [h3, e, e2]
    simp only [List.map_cons, List.map_nil]
    rw [h1, h2 x (List.mem_cons_self ..)]
theorem ents_snap {σ : AH} {i : Nat} {xs : List ER} (hg : σ.get i = some (.cells (rowOf eER xs))) (hne : xs ≠ []) (h2 : ∀ x ∈ xs, σ.get x.1 = some (.cells (rowI x.2.2))) : Snap σ (.slice (some (i, 0)) xs.length (.ex xs.length)) (i :: xs.map (·.1)) (vl eEnt false (xs.map entE)) := by
  have hcel : σ.cel i = some (rowOf eER xs) := by simp [hg]
  have hrow : ∀ x ∈ xs, σ.cel x.1 = some (rowI x.2.2) := fun x hx => by simp [h2 x hx]
  have hrI : ∀ (k : Nat) (ys : List Int) (cl : Nat → Option (List AV)), (rowI ys).flatMap (idsV (k + 1) cl) = [] := fun k ys cl => by
    rw [rowI_eq]
    induction ys with
    | nil => rfl
    | cons y ys ih => rw [List.map_cons, List.flatMap_cons, ih]; rfl
  have hids : ∀ ys : List ER, (∀ x ∈ ys, σ.cel x.1 = some (rowI x.2.2)) → (rowOf eER ys).flatMap (idsV 7 σ.cel) = ys.map (·.1) := by
    intro ys
    induction ys with
    | nil => intro _; rfl
    | cons y ys ih =>
      intro hy
      have e : (eER y).cells = [.str y.2.1, .slice (some (y.1, 0)) y.2.2.length (.op 1)] := rfl
      have e3 : idsV 7 σ.cel (.slice (some (y.1, 0)) y.2.2.length (.op 1)) = [y.1] := by
        show (match σ.cel y.1 with
          | some cs => y.1 :: cs.flatMap (idsV 6 σ.cel)
          | none => []) = _
        rw [hy y (List.mem_cons_self ..)]
        simp only [hrI 5]
      have e4 := ih fun x hx => hy x (List.mem_cons_of_mem _ hx)
      unfold rowOf at e4 ⊢
      rw [List.flatMap_cons, List.flatMap_append, e4, e]
      simp only [List.flatMap_cons, List.flatMap_nil, List.append_nil, e3, List.map_cons]
      rfl
  refine ⟨?_, fun T hT => ?_⟩
  · show (match σ.cel i with
      | some cs => i :: cs.flatMap (idsV 7 σ.cel)
      | none => []) = _
    rw [hcel]
    simp only [hids xs hrow]
  · have hin : ∀ j, j ∈ T → σ.celOf T j = σ.cel j := fun j hj => by
      unfold AH.celOf
      rw [if_pos (by simpa using hj)]
    have hci : σ.celOf T i = some (rowOf eER xs) := by rw [hin i (hT i (List.mem_cons_self ..))]; exact hcel
    have hm : (rowOf eER xs).map (fun c => (fzV 7 (σ.celOf T) c).na) = rowOf eEnt (xs.map entE) := rowER_map (fun s => rfl) fun x hx => by
      have hcx : σ.celOf T x.1 = some (rowI x.2.2) := by rw [hin x.1 (hT x.1 (List.mem_cons_of_mem _ (List.mem_map.2 ⟨x, hx, rfl⟩)))]; exact hrow x hx
      have := fz_whole (e := AV.int .i64) (z := 1) ⟨fun _ => rfl, fun _ => rfl, fun _ => rfl, by decide⟩ flatI (f := σ.celOf T) (o := x.1) (xs := x.2.2) (c := .op 1) hcx (.inl rfl) 5
      rw [this]
      rfl
    have hlx := rowOf_length encER xs
    have hl0 : xs.length ≠ 0 := fun e => hne (List.eq_nil_of_length_eq_zero e)
    show (match σ.celOf T i with
      | some cs => if 0 ≤ cs.length then
          match ACap.cellsOf xs.length (cs.length - 0) (.ex xs.length) with
          | some z => AV.vsl false (chunks z xs.length ((cs.drop 0).map fun x => (fzV 7 (σ.celOf T) x).na))
          | none => .undef
        else .undef
      | none => .undef) = _
    rw [hci]
    simp only [Nat.zero_le, if_true, List.drop_zero, hm, Nat.sub_zero, ACap.cellsOf]
    rw [if_neg hl0, hlx, Nat.mul_div_cancel_left 2 (by omega), if_pos ⟨Nat.mul_comm 2 _, Nat.le_refl _⟩]
    have := chunks_rowOf encEnt (xs.map entE)
    rw [List.length_map] at this
    simp only [this]
    rfl
end Go.Oct.Log.Ck
