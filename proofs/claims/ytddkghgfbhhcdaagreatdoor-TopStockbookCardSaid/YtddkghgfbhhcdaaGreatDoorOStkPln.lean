/- Plans, plain: when they are valid. -/
import Derived.Test.YtddkghgfbhhcdaaGreatDoorOStkOrd
set_option maxRecDepth 100000
set_option maxHeartbeats 2000000
set_option linter.unusedVariables false
set_option linter.unusedSimpArgs false
namespace Go.Oct.Stk.Sh
open Go.Oct
abbrev Plan := List (Bool × List Int)
def row (P : Plan) (d : Nat) : List Int := (nth P d).2
/-- All pieces of so many days. -/
def flat (P : Plan) : Nat → List Int
  | 0 => []
  | d + 1 => flat P d ++ row P d
/-- And some of the next day. -/
def items (P : Plan) (d e : Nat) : List Int := flat P d ++ (row P d).take e
theorem items_zero (P : Plan) (d : Nat) : items P d 0 = flat P d := by simp [items]
theorem items_all (P : Plan) (d : Nat) : items P d (row P d).length = flat P (d + 1) := by simp [items, flat]
theorem items_succ {P : Plan} {d e : Nat} (h : e < (row P d).length) : items P d (e + 1) = items P d e ++ [nth (row P d) e] := by
  unfold items; rw [take_succ_nth h, List.append_assoc]
/-- The pieces of a day are above one another; those that go into them were made before. -/
def okDay (l : List Pc) (men : Int) (P : Plan) (d : Nat) : Prop := ((row P d).length : Int) ≤ men ∧ Rises (row P d) l.length (row P d).length
def okPre (l : List Pc) (P : Plan) (d : Nat) : Prop := ∀ x ∈ row P d, ∀ k, k < l.length → (nth l k).into = x → (k : Int) ∈ flat P d
structure okPlan (l : List Pc) (men : Int) (P : Plan) : Prop where
  ne : P ≠ []
  last : row P (P.length - 1) ≠ []
  day : ∀ d, d < P.length → okDay l men P d
  nd : (flat P P.length).Nodup
  all : ∀ i, i < l.length → (i : Int) ∈ flat P P.length
  pre : ∀ d, d < P.length → okPre l P d
open Classical in
noncomputable instance (l : List Pc) (men : Int) (P : Plan) : Decidable (okPlan l men P) := propDecidable _
theorem flat_pre (P : Plan) {d : Nat} : ∀ {n : Nat}, d ≤ n → ∃ r, flat P n = flat P d ++ r
  | 0, h => by obtain rfl : d = 0 := by omega
               exact ⟨[], by simp⟩
  | n + 1, h => by
    by_cases e : d = n + 1
    · subst e; exact ⟨[], by simp⟩
    · obtain ⟨r, hr⟩ := flat_pre P (d := d) (n := n) (by omega)
      exact ⟨r ++ row P n, by simp only [flat]; rw [hr, List.append_assoc]⟩
theorem items_pre {P : Plan} {d e n : Nat} (h : d < n) : ∃ r, flat P n = items P d e ++ r := by
  obtain ⟨r, hr⟩ := flat_pre P (d := d + 1) (n := n) h
  refine ⟨(row P d).drop e ++ r, ?_⟩
  rw [hr]
  simp only [flat, items, List.append_assoc]
  rw [← List.append_assoc (List.take e _), List.take_append_drop]
theorem okPlan.items_nd {l : List Pc} {men : Int} {P : Plan} (h : okPlan l men P) {d e : Nat} (hd : d < P.length) : (items P d e).Nodup := by
  obtain ⟨r, hr⟩ := items_pre (P := P) (d := d) (e := e) hd
  have := h.nd
  rw [hr] at this
  exact (List.nodup_append.1 this).1
theorem flat_in {P : Plan} {x : Int} : ∀ {n : Nat}, x ∈ flat P n ↔ ∃ d, d < n ∧ x ∈ row P d
  | 0 => by simp [flat]
  | n + 1 => by
    simp only [flat, List.mem_append, flat_in (n := n)]
    constructor
    · rintro (⟨d, h1, h2⟩ | h)
      · exact ⟨d, by omega, h2⟩
      · exact ⟨n, by omega, h⟩
    · rintro ⟨d, h1, h2⟩
      by_cases e : d = n
      · subst e; exact .inr h2
      · exact .inl ⟨d, by omega, h2⟩
theorem rises_in {xs : List Int} {n : Int} {m : Nat} (h : Rises xs n m) {x : Int} (hx : x ∈ xs.take m) (hm : m ≤ xs.length) : 0 ≤ x ∧ x ≤ n - 1 := by
  obtain ⟨i, hi, rfl⟩ := mem_nth.1 hx
  rw [List.length_take] at hi
  rw [nth_take (by omega) (by omega)]
  exact (h i (by omega)).1
/-- Pieces of valid days are pieces. -/
theorem flat_rng {l : List Pc} {men : Int} {P : Plan} {n : Nat} (h : ∀ d, d < n → okDay l men P d) {x : Int} (hx : x ∈ flat P n) : 0 ≤ x ∧ x ≤ (l.length : Int) - 1 := by
  obtain ⟨d, h1, h2⟩ := flat_in.1 hx
  exact rises_in (h d h1).2 (by rw [List.take_length]; exact h2) (Nat.le_refl _)
theorem nodup_cover {n : Nat} {xs : List Int} (hn : xs.Nodup) (hr : ∀ x ∈ xs, 0 ≤ x ∧ x ≤ (n : Int) - 1) : xs.length ≤ n ∧ (xs.length = n ↔ ∀ i, i < n → (i : Int) ∈ xs) := by
  have e0 : ((List.range n).map (fun i : Nat => (i : Int))).length = n := by simp
  have nd0 : ((List.range n).map (fun i : Nat => (i : Int))).Nodup := by
    refine List.pairwise_iff_getElem.2 fun i j hi hj hij => ?_
    simp at hi hj ⊢
    omega
  have sub : xs ⊆ (List.range n).map (fun i : Nat => (i : Int)) := fun x hx => by
    have := hr x hx
    exact List.mem_map.2 ⟨x.toNat, List.mem_range.2 (by omega), by omega⟩
  have hle := nodupLe hn sub
  rw [e0] at hle
  refine ⟨hle, fun h i hi => ?_, fun h => ?_⟩
  · apply Decidable.byContradiction
    intro hc
    have h2 := nodupLe (xs := (i : Int) :: xs) (ys := (List.range n).map (fun i : Nat => (i : Int))) (List.nodup_cons.2 ⟨hc, hn⟩) (fun y hy => by
      rcases List.mem_cons.1 hy with rfl | hy
      · exact List.mem_map.2 ⟨i, List.mem_range.2 hi, rfl⟩
      · exact sub hy)
    rw [e0, List.length_cons] at h2
    omega
  · have h2 := nodupLe (xs := (List.range n).map (fun i : Nat => (i : Int))) (ys := xs) nd0 (fun y hy => by
      obtain ⟨i, hi, rfl⟩ := List.mem_map.1 hy
      exact h i (List.mem_range.1 hi))
    rw [e0] at h2
    omega
/-- What has been seen of a plan up to a day, and a place of it. -/
structure Seen (l : List Pc) (men : Int) (P : Plan) (d e : Nat) : Prop where
  days : ∀ q, q < d → okDay l men P q
  rise : Rises (row P d) l.length e
  le : e ≤ (row P d).length
  nd : (items P d e).Nodup
  pre : ∀ q, q < d → okPre l P q
  preE : ∀ x ∈ (row P d).take e, ∀ k, k < l.length → (nth l k).into = x → (k : Int) ∈ flat P d
theorem Seen.next {l : List Pc} {men : Int} {P : Plan} {d e : Nat} (h : Seen l men P d e) (he : e < (row P d).length) (h1 : 0 ≤ nth (row P d) e ∧ nth (row P d) e ≤ (l.length : Int) - 1) (h2 : 0 < e → nth (row P d) (e - 1) < nth (row P d) e)
    (h3 : nth (row P d) e ∉ items P d e) (h4 : ∀ k, k < l.length → (nth l k).into = nth (row P d) e → (k : Int) ∈ flat P d) : Seen l men P d (e + 1) := by
  refine ⟨h.days, fun i hi => ?_, by omega, ?_, h.pre, fun x hx => ?_⟩
  · by_cases q : i = e
    · subst q; exact ⟨h1, h2⟩
    · exact h.rise i (by omega)
  · rw [items_succ he]
    refine List.nodup_append.2 ⟨h.nd, by simp, fun a ha b hb => ?_⟩
    obtain rfl := List.mem_singleton.1 hb
    intro e; exact h3 (e ▸ ha)
  · rw [take_succ_nth he] at hx
    rcases List.mem_append.1 hx with hx | hx
    · exact h.preE x hx
    · obtain rfl := List.mem_singleton.1 hx
      exact h4
theorem Seen.day {l : List Pc} {men : Int} {P : Plan} {d : Nat} (h : Seen l men P d (row P d).length) (hm : ((row P d).length : Int) ≤ men) : Seen l men P (d + 1) 0 := by
  refine ⟨fun q hq => ?_, fun i hi => by omega, Nat.zero_le _, ?_, fun q hq => ?_, fun x hx => by simp at hx⟩
  · by_cases e : q = d
    · subst e; exact ⟨hm, h.rise⟩
    · exact h.days q (by omega)
  · rw [items_zero, ← items_all]; exact h.nd
  · by_cases e : q = d
    · subst e
      intro x hx k hk hx2
      exact h.preE x (by rw [List.take_length]; exact hx) k hk hx2
    · exact h.pre q (by omega)
theorem seen_zero (l : List Pc) (men : Int) (P : Plan) : Seen l men P 0 0 := ⟨fun q hq => by omega, fun i hi => by omega, Nat.zero_le _, by simp [items, flat], fun q hq => by omega, fun x hx => by simp at hx⟩
theorem Seen.rng {l : List Pc} {men : Int} {P : Plan} {d e : Nat} (h : Seen l men P d e) {x : Int} (hx : x ∈ items P d e) : 0 ≤ x ∧ x ≤ (l.length : Int) - 1 := by
  rcases List.mem_append.1 hx with hx | hx
  · exact flat_rng h.days hx
  · exact rises_in h.rise hx h.le
theorem Seen.len {l : List Pc} {men : Int} {P : Plan} {d e : Nat} (h : Seen l men P d e) : (items P d e).length ≤ l.length := (nodup_cover h.nd fun x hx => h.rng hx).1
theorem Seen.fin {l : List Pc} {men : Int} {P : Plan} (hl : 1 ≤ l.length) (h : Seen l men P P.length 0) : okPlan l men P ↔ ((flat P P.length).length = l.length ∧ row P (P.length - 1) ≠ []) := by
  have hnd := h.nd
  rw [items_zero] at hnd
  have hc := nodup_cover (n := l.length) hnd fun x hx => flat_rng h.days hx
  constructor
  · intro ho; exact ⟨hc.2.2 ho.all, ho.last⟩
  · rintro ⟨h1, h2⟩
    refine ⟨?_, h2, h.days, hnd, hc.2.1 h1, h.pre⟩
    intro e
    rw [e] at h1
    simp [flat] at h1
    omega
theorem okPlan.seen {l : List Pc} {men : Int} {P : Plan} (h : okPlan l men P) {d e : Nat} (hd : d < P.length) (he : e ≤ (row P d).length) : Seen l men P d e := by
  have h1 := h.day d hd
  refine ⟨fun q hq => h.day q (by omega), fun i hi => h1.2 i (by omega), he, h.items_nd hd, fun q hq => h.pre q (by omega), fun x hx => h.pre d hd x (List.mem_of_mem_take hx)⟩
end Go.Oct.Stk.Sh
