/- Nets: what the laws' own helpers answer. -/
import Derived.Test.YtcnemenlbbickaaORoundsSet
import Derived.Test.YtcnemenlbbickaaOT3
set_option maxRecDepth 100000
set_option maxHeartbeats 8000000
set_option linter.unusedVariables false
set_option linter.unusedSimpArgs false
namespace Go.Oct.Rounds
open Go.Oct
@[simp] theorem to_ok (a b : Int) : ans prog O 27 [.int .i64 a, .int .i64 b] = some (.agg [.int .i64 a, .int .i64 b]) := by
  refine fn_of' pl get27 (oo (by decide)) rfl rfl ?_
  simp (disch := omega) [-Bool.exists_bool]
/-- A net in which an angle has another span. -/
def setA (A : List An) (k : Nat) (lo hi : Int) : List An := A.set k ⟨(nth A k).t, (nth A k).s, lo, hi⟩
theorem putCells_app (pre : List AV) : ∀ (xs rest : List AV) (q : Nat), putCells (pre ++ rest) (pre.length + q) xs = pre ++ putCells rest q xs
  | [], rest, q => rfl
  | x :: xs, rest, q => by
    have e : (pre ++ rest).set (pre.length + q) x = pre ++ rest.set q x := by
      rw [List.set_append_right _ _ (by omega), Nat.add_sub_cancel_left]
    rw [putCells_cons, putCells_cons, e, Nat.add_assoc, putCells_app pre xs (rest.set q x) (q + 1)]
/-- The sum of the angles with a property. -/
def sBy (f : An → Bool) : List An → List Int → Int
  | a :: A, x :: h => (if f a = true then x else 0) + sBy f A h
  | _, _ => 0
theorem sBy_app (f : An → Bool) : ∀ (A : List An) (h : List Int) (a : An) (x : Int), h.length = A.length → sBy f (A ++ [a]) (h ++ [x]) = sBy f A h + if f a = true then x else 0
  | [], [], a, x, _ => by simp [sBy]
  | [], _ :: _, _, _, h => by simp at h
  | _ :: _, [], _, _, h => by simp at h
  | b :: A, y :: h, a, x, hl => by
    have := sBy_app f A h a x (by simpa using hl)
    simp only [List.cons_append, sBy, this]; omega
theorem sBy_at (f : An → Bool) (C : List Bool) (p : Nat) : ∀ (A : List An) (h : List Int), (∀ a ∈ A, f a = true ↔ (ed C a).at p) → sBy f A h = sAt (edges C A) h p
  | [], h, _ => by cases h <;> rfl
  | a :: A, [], _ => rfl
  | a :: A, x :: h, hf => by
    have ih := sBy_at f C p A h fun b hb => hf b (List.mem_cons_of_mem _ hb)
    have h1 := hf a (List.mem_cons_self ..)
    show (if f a = true then x else 0) + sBy f A h = (if (ed C a).at p then x else 0) + sAt (edges C A) h p
    rw [ih]
    by_cases e : f a = true
    · rw [if_pos e, if_pos (h1.1 e)]
    · rw [if_neg e, if_neg fun h => e (h1.2 h)]
theorem sBy_bd (f : An → Bool) : ∀ (A : List An) (h : List Int), (∀ i, i < h.length → 0 ≤ nth h i ∧ nth h i ≤ 648000) → h.length = A.length → 0 ≤ sBy f A h ∧ sBy f A h ≤ 648000 * A.length
  | [], [], _, _ => by simp [sBy]
  | [], _ :: _, _, h => by simp at h
  | _ :: _, [], _, h => by simp at h
  | a :: A, x :: h, hb, hl => by
    have ih := sBy_bd f A h (fun i hi => by simpa using hb (i + 1) (by simpa using hi)) (by simpa using hl)
    have h0 := hb 0 (by simp)
    simp only [nth_zero] at h0
    simp only [sBy, List.length_cons]
    split <;> omega
def inA (A : List An) (h : List Int) : Prop := h.length = A.length ∧ ∀ i, i < A.length → (nth A i).lo ≤ nth h i ∧ nth h i ≤ (nth A i).hi
instance (A : List An) (h : List Int) : Decidable (inA A h) := by unfold inA; infer_instance
/-- Angles that close, as the law adds them up. -/
def clD (N : Nat) (C : List Bool) (A : List An) (h : List Int) : Prop :=
  inA A h ∧ (∀ t, t < N → sBy (fun a => decide (a.t = (t : Nat))) A h = 648000) ∧ ∀ s, s < C.length → nth C s = true → sBy (fun a => decide (a.s = (s : Nat))) A h = 1296000
instance (N : Nat) (C : List Bool) (A : List An) (h : List Int) : Decidable (clD N C A h) := by unfold clD; infer_instance
theorem inA_iff {C : List Bool} {A : List An} {h : List Int} : inA A h ↔ inE (edges C A) h := by
  unfold inA inE
  rw [edges_len]
  constructor
  · rintro ⟨h1, h2⟩; exact ⟨h1, fun i hi => by rw [edges_nth C hi]; exact h2 i hi⟩
  · rintro ⟨h1, h2⟩; exact ⟨h1, fun i hi => by have := h2 i hi; rw [edges_nth C hi] at this; exact this⟩
theorem clD_iff {N : Nat} {C : List Bool} {A : List An} (hok : okNet N C A) {h : List Int} : clD N C A h ↔ isCl N C A h := by
  have hN := hok.1
  have hC := hok.2.1
  have mem : ∀ a ∈ A, okAn N C.length a := fun a ha => by
    obtain ⟨i, hi, rfl⟩ := mem_nth.1 ha
    exact hok.2.2.2.1 i hi
  have ht : ∀ t, t < N → sBy (fun a => decide (a.t = (t : Nat))) A h = sAt (edges C A) h t := fun t ht => sBy_at _ C t A h fun a ha => by
    obtain ⟨a1, a2, a3⟩ := mem a ha
    have p1 := plc_le (C := C) (s := a.s) (by omega) (by omega) a2.1
    show decide (a.t = (t : Nat)) = true ↔ a.t.toNat = t ∨ plc C a.s = t
    simp; omega
  have hs : ∀ s, s < C.length → nth C s = true → sBy (fun a => decide (a.s = (s : Nat))) A h = sAt (edges C A) h (8 + s) := fun s hs hc => sBy_at _ C (8 + s) A h fun a ha => by
    obtain ⟨a1, a2, a3⟩ := mem a ha
    show decide (a.s = (s : Nat)) = true ↔ a.t.toNat = 8 + s ∨ plc C a.s = 8 + s
    unfold plc
    by_cases e : a.s.toNat = s
    · rw [e, hc]; simp; omega
    · by_cases e2 : nth C a.s.toNat = true
      · rw [if_pos e2]; simp; omega
      · rw [if_neg e2]; simp; omega
  constructor
  · rintro ⟨h1, h2, h3⟩
    refine ⟨inA_iff.1 h1, fun p hp => ?_⟩
    by_cases e : p < N
    · rw [← ht p e, h2 p e]; unfold Bt0; rw [if_pos (by omega)]
    · by_cases e2 : 8 ≤ p ∧ p < 8 + C.length ∧ nth C (p - 8) = true
      · have := h3 (p - 8) (by omega) e2.2.2
        rw [hs (p - 8) (by omega) e2.2.2, show 8 + (p - 8) = p by omega] at this
        rw [this]; unfold Bt0; rw [if_neg (by omega), if_pos e2]
      · have hb : Bt0 N C p = 0 := by unfold Bt0; rw [if_neg (by omega), if_neg e2]
        rw [at_none hok h hp hb, hb]
  · rintro ⟨h1, h2⟩
    refine ⟨inA_iff.2 h1, fun t ht' => ?_, fun s hs' hc => ?_⟩
    · rw [ht t ht', h2 t (by omega)]; unfold Bt0; rw [if_pos (by omega)]
    · rw [hs s hs' hc, h2 (8 + s) (by omega)]; unfold Bt0
      rw [if_neg (by omega), if_pos ⟨by omega, by omega, by rw [Nat.add_sub_cancel_left]; exact hc⟩]
/-! ### Arguments -/
def anOK (a : An) : Prop := i64 a.t ∧ i64 a.s ∧ i64 a.lo ∧ i64 a.hi
theorem inv_ans {x : AV} (h : CellIs (.sl true [.int .i64, .int .i64, .int .i64, .int .i64]) x) : ∃ nl xs, Slice eAn anOK x nl xs := by
  refine h.inv_sl fun cs hc => ?_
  obtain ⟨c, _, rfl, h, hc⟩ := hc.uncons
  obtain ⟨d, _, rfl, h', hc⟩ := hc.uncons
  obtain ⟨e, _, rfl, h2, hc⟩ := hc.uncons
  obtain ⟨f, rfl, h3⟩ := hc.one
  obtain ⟨n, rfl, hn⟩ := h.inv_int
  obtain ⟨m, rfl, hm⟩ := h'.inv_int
  obtain ⟨k, rfl, hk⟩ := h2.inv_int
  obtain ⟨l, rfl, hl⟩ := h3.inv_int
  exact ⟨⟨n, m, k, l⟩, rfl, hn, hm, hk, hl⟩
theorem inv_bools {x : AV} (h : CellIs (.sl false [.bool]) x) : ∃ nl xs, Slice AV.bool (fun _ => True) x nl xs := by
  refine h.inv_sl fun cs hc => ?_
  obtain ⟨c, rfl, h⟩ := hc.one
  obtain ⟨n, rfl⟩ := h.inv_bool
  exact ⟨n, rfl, trivial⟩
end Go.Oct.Rounds
