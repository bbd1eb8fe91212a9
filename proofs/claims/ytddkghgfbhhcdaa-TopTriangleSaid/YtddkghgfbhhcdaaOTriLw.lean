/- Nets: what the laws' own helpers answer. -/
import Derived.Test.YtddkghgfbhhcdaaOTriSet
import Derived.Test.YtddkghgfbhhcdaaOT3
set_option maxRecDepth 100000
set_option maxHeartbeats 8000000
set_option linter.unusedVariables false
set_option linter.unusedSimpArgs false
namespace Go.Oct.Tri
open Go.Oct
/-- A net in which an angle has another span. -/
def setA (A : List An) (k : Nat) (lo hi : Int) : List An := A.set k ⟨(nth A k).t, (nth A k).s, lo, hi⟩
theorem putCells_app (pre : List AV) : ∀ (xs rest : List AV) (q : Nat), putCells (pre ++ rest) (pre.length + q) xs = pre ++ putCells rest q xs
  | [], rest, q => rfl
  | x :: xs, rest, q => by
    have e : (pre ++ rest).set (pre.length + q) x = pre ++ rest.set q x := by
      rw [List.set_append_right _ _ (by omega), Nat.add_sub_cancel_left]
    rw [putCells_cons, putCells_cons, e, Nat.add_assoc, putCells_app pre xs (rest.set q x) (q + 1)]
/-- The sum of the angles with a property. -/
def sBy (f : An → Bool) : List An → List Int → Int
  | a :: A, x :: h => (if f a = true then x else 0) + sBy f A h
  | _, _ => 0
theorem sBy_at (f : An → Bool) (C : List Bool) (p : Nat) : ∀ (A : List An) (h : List Int), (∀ a ∈ A, f a = true ↔ (ed C a).at p) → sBy f A h = sAt (edges C A) h p
  | [], h, _ => by cases h <;> rfl
  | a :: A, [], _ => rfl
  | a :: A, x :: h, hf => by
    have ih := sBy_at f C p A h fun b hb => hf b (List.mem_cons_of_mem _ hb)
    have h1 := hf a (List.mem_cons_self ..)
    show (if f a = true then x else 0) + sBy f A h = (if (ed C a).at p then x else 0) + sAt (edges C A) h p
    rw [ih]
    by_cases e : f a = true
    · rw [if_pos e, if_pos (h1.1 e)]
    · rw [if_neg e, if_neg fun h => e (h1.2 h)]
def inA (A : List An) (h : List Int) : Prop := h.length = A.length ∧ ∀ i, i < A.length → (nth A i).lo ≤ nth h i ∧ nth h i ≤ (nth A i).hi
instance (A : List An) (h : List Int) : Decidable (inA A h) := by unfold inA; infer_instance
/-- Angles that close, as the law adds them up. -/
def clD (N : Nat) (C : List Bool) (A : List An) (h : List Int) : Prop :=
  inA A h ∧ (∀ t, t < N → sBy (fun a => decide (a.t = (t : Nat))) A h = 648000) ∧ ∀ s, s < C.length → nth C s = true → sBy (fun a => decide (a.s = (s : Nat))) A h = 1296000
instance (N : Nat) (C : List Bool) (A : List An) (h : List Int) : Decidable (clD N C A h) := by unfold clD; infer_instance
theorem inA_iff {C : List Bool} {A : List An} {h : List Int} : inA A h ↔ inE (edges C A) h := by
  unfold inA inE
  rw [edges_len]
  constructor
  · rintro ⟨h1, h2⟩; exact ⟨h1, fun i hi => by rw [edges_nth C hi]; exact h2 i hi⟩
  · rintro ⟨h1, h2⟩; exact ⟨h1, fun i hi => by have := h2 i hi; rw [edges_nth C hi] at this; exact this⟩
theorem clD_iff {N : Nat} {C : List Bool} {A : List An} (hok : okNet N C A) {h : List Int} : clD N C A h ↔ isCl N C A h := by
  have hN := hok.1
  have hC := hok.2.1
  have mem : ∀ a ∈ A, okAn N C.length a := fun a ha => by
    obtain ⟨i, hi, rfl⟩ := mem_nth.1 ha
    exact hok.2.2.2.1 i hi
  have ht : ∀ t, t < N → sBy (fun a => decide (a.t = (t : Nat))) A h = sAt (edges C A) h t := fun t ht => sBy_at _ C t A h fun a ha => by
    obtain ⟨a1, a2, a3⟩ := mem a ha
    have p1 := plc_le (C := C) (s := a.s) (by omega) (by omega) a2.1
    show decide (a.t = (t : Nat)) = true ↔ a.t.toNat = t ∨ plc C a.s = t
    simp; omega
  have hs : ∀ s, s < C.length → nth C s = true → sBy (fun a => decide (a.s = (s : Nat))) A h = sAt (edges C A) h (8 + s) := fun s hs hc => sBy_at _ C (8 + s) A h fun a ha => by
    obtain ⟨a1, a2, a3⟩ := mem a ha
    show decide (a.s = (s : Nat)) = true ↔ a.t.toNat = 8 + s ∨ plc C a.s = 8 + s
    unfold plc
    by_cases e : a.s.toNat = s
    · rw [e, hc]; simp; omega
    · by_cases e2 : nth C a.s.toNat = true
      · rw [if_pos e2]; simp; omega
      · rw [if_neg e2]; simp; omega
  constructor
  · rintro ⟨h1, h2, h3⟩
    refine ⟨inA_iff.1 h1, fun p hp => ?_⟩
    by_cases e : p < N
    · rw [← ht p e, h2 p e]; unfold Bt0; rw [if_pos (by omega)]
    · by_cases e2 : 8 ≤ p ∧ p < 8 + C.length ∧ nth C (p - 8) = true
      · have := h3 (p - 8) (by omega) e2.2.2
        rw [hs (p - 8) (by omega) e2.2.2, show 8 + (p - 8) = p by omega] at this
        rw [this]; unfold Bt0; rw [if_neg (by omega), if_pos e2]
      · have hb : Bt0 N C p = 0 := by unfold Bt0; rw [if_neg (by omega), if_neg e2]
        rw [at_none hok h hp hb, hb]
  · rintro ⟨h1, h2⟩
    refine ⟨inA_iff.2 h1, fun t ht' => ?_, fun s hs' hc => ?_⟩
    · rw [ht t ht', h2 t (by omega)]; unfold Bt0; rw [if_pos (by omega)]
    · rw [hs s hs' hc, h2 (8 + s) (by omega)]; unfold Bt0
      rw [if_neg (by omega), if_pos ⟨by omega, by omega, by rw [Nat.add_sub_cancel_left]; exact hc⟩]
/-! ### Arguments -/
end Go.Oct.Tri
