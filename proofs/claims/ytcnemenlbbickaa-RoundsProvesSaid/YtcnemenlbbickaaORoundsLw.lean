/- Nets: what the laws' own helpers answer. -/
import Derived.Test.YtcnemenlbbickaaORoundsSet
import Derived.Test.YtcnemenlbbickaaOT3
set_option maxRecDepth 100000
set_option maxHeartbeats 8000000
set_option linter.unusedVariables false
set_option linter.unusedSimpArgs false
namespace Go.Oct.Rounds
open Go.Oct
@[simp] theorem to_ok (a b : Int) : ans prog O 27 [.int .i64 a, .int .i64 b] = some (.agg [.int .i64 a, .int .i64 b]) := by
  refine fn_of' pl get27 (oo (by decide)) rfl rfl ?_
  simp (disch := omega) [-Bool.exists_bool]
/-- A net in which an angle has another span. -/
def setA (A : List An) (k : Nat) (lo hi : Int) : List An := A.set k ⟨(nth A k).t, (nth A k).s, lo, hi⟩
theorem putCells_app (pre : List AV) : ∀ (xs rest : List AV) (q : Nat), putCells (pre ++ rest) (pre.length + q) xs = pre ++ putCells rest q xs
  | [], rest, q => rfl
  | x :: xs, rest, q => by
    have e : (pre ++ rest).set (pre.length + q) x = pre ++ rest.set q x := by
      rw [List.set_append_right _ _ (by omega), Nat.add_sub_cancel_left]
    rw [putCells_cons, putCells_cons, e, Nat.add_assoc, putCells_app pre xs (rest.set q x) (q + 1)]
theorem rowAn_set {A : List An} {k : Nat} (a : An) (hk : k < A.length) : putCells (rowOf eAn A) (k * 4) (eAn a).cells = rowOf eAn (A.set k a) := by
  induction A generalizing k with
  | nil => simp at hk
  | cons x A ih =>
    cases k with
    | zero => rfl
    | succ k =>
      have h1 := ih (k := k) (by simpa using hk)
      have h2 := putCells_app (eAn x).cells (eAn a).cells (rowOf eAn A) (k * 4)
      rw [h1] at h2
      have e1 : (k + 1) * 4 = (eAn x).cells.length + k * 4 := by simp; omega
      rw [e1]
      exact h2
/-- The sum of the angles with a property. -/
def sBy (f : An → Bool) : List An → List Int → Int
  | a :: A, x :: h => (if f a = true then x else 0) + sBy f A h
  | _, _ => 0
def inA (A : List An) (h : List Int) : Prop := h.length = A.length ∧ ∀ i, i < A.length → (nth A i).lo ≤ nth h i ∧ nth h i ≤ (nth A i).hi
instance (A : List An) (h : List Int) : Decidable (inA A h) := by unfold inA; infer_instance
/-- Angles that close, as the law adds them up. -/
def clD (N : Nat) (C : List Bool) (A : List An) (h : List Int) : Prop :=
  inA A h ∧ (∀ t, t < N → sBy (fun a => decide (a.t = (t : Nat))) A h = 648000) ∧ ∀ s, s < C.length → nth C s = true → sBy (fun a => decide (a.s = (s : Nat))) A h = 1296000
instance (N : Nat) (C : List Bool) (A : List An) (h : List Int) : Decidable (clD N C A h) := by unfold clD; infer_instance
theorem inA_iff {C : List Bool} {A : List An} {h : List Int} : inA A h ↔ inE (edges C A) h := by
  unfold inA inE
  rw [edges_len]
  constructor
  · rintro ⟨h1, h2⟩; exact ⟨h1, fun i hi => by rw [edges_nth C hi]; exact h2 i hi⟩
  · rintro ⟨h1, h2⟩; exact ⟨h1, fun i hi => by have := h2 i hi; rw [edges_nth C hi] at this; exact this⟩
/-! ### Arguments -/
def anOK (a : An) : Prop := i64 a.t ∧ i64 a.s ∧ i64 a.lo ∧ i64 a.hi
theorem inv_ans {x : AV} (h : CellIs (.sl true [.int .i64, .int .i64, .int .i64, .int .i64]) x) : ∃ nl xs, Slice eAn anOK x nl xs := by
  refine h.inv_sl fun cs hc => ?_
  obtain ⟨c, _, rfl, h, hc⟩ := hc.uncons
  obtain ⟨d, _, rfl, h', hc⟩ := hc.uncons
  obtain ⟨e, _, rfl, h2, hc⟩ := hc.uncons
  obtain ⟨f, rfl, h3⟩ := hc.one
  obtain ⟨n, rfl, hn⟩ := h.inv_int
  obtain ⟨m, rfl, hm⟩ := h'.inv_int
  obtain ⟨k, rfl, hk⟩ := h2.inv_int
  obtain ⟨l, rfl, hl⟩ := h3.inv_int
  exact ⟨⟨n, m, k, l⟩, rfl, hn, hm, hk, hl⟩
theorem inv_bools {x : AV} (h : CellIs (.sl false [.bool]) x) : ∃ nl xs, Slice AV.bool (fun _ => True) x nl xs := by
  refine h.inv_sl fun cs hc => ?_
  obtain ⟨c, rfl, h⟩ := hc.one
  obtain ⟨n, rfl⟩ := h.inv_bool
  exact ⟨n, rfl, trivial⟩
end Go.Oct.Rounds
