/- Posts and tasks that lack, plain: either the ones or the others. -/
import Derived.Test.YtpgjndgpackffaaDoorOShopPosP
import Derived.Test.YtpgjndgpackffaaDoorOShopSets
import Derived.Test.YtpgjndgpackffaaDoorOShopHall
set_option maxRecDepth 100000
set_option maxHeartbeats 4000000
set_option linter.unusedVariables false
set_option linter.unusedSimpArgs false
namespace Go.Oct.Shop
open Go.Oct
theorem comp_nth {M : List Mn} {T : List Int} : ∀ {so P : List Int}, comp M T so P → ∀ i, i < P.length → ∃ n : Nat, n < M.length ∧ nth P i = n ∧ hasS (nth M n) (nth T (so.length + i)) = true ∧ (n : Int) ∉ so ∧ ∀ j, j < i → nth P j ≠ n
  | so, m :: P, h, 0, _ => by
    obtain ⟨⟨n, hn, rfl, hl, ha⟩, _⟩ := h
    unfold ablP at ha
    simp only [Bool.and_eq_true, Bool.not_eq_true', List.contains_eq_mem, decide_eq_false_iff_not] at ha
    exact ⟨n, hn, rfl, ha.1, ha.2, fun j hj => by omega⟩
  | so, m :: P, h, i + 1, hi => by
    obtain ⟨n, h1, h2, h3, h4, h5⟩ := comp_nth h.2 i (by simpa using hi)
    refine ⟨n, h1, h2, ?_, fun h6 => h4 (List.mem_append_left _ h6), fun j hj => ?_⟩
    · rw [List.length_append, List.length_singleton] at h3
      rw [show so.length + (i + 1) = so.length + 1 + i by omega]
      exact h3
    · cases j with
      | zero => exact fun e => h4 (by have e : m = n := e; rw [← e]; simp)
      | succ j => exact h5 j (by omega)
theorem comp_of {M : List Mn} {T F : List Int} (hF : F.length = T.length) (h : ∀ i, i < F.length → ∃ n : Nat, n < M.length ∧ nth F i = n ∧ hasS (nth M n) (nth T i) = true ∧ ∀ j, j < i → nth F j ≠ n) : ∀ d i, i + d = F.length → comp M T (F.take i) (F.drop i)
  | 0, i, hd => by
    rw [List.drop_of_length_le (by omega)]
    show (F.take i).length = T.length
    rw [List.length_take]; omega
  | d + 1, i, hd => by
    rw [drop_nth (by omega)]
    obtain ⟨n, h1, h2, h3, h4⟩ := h i (by omega)
    have hl : (F.take i).length = i := by rw [List.length_take]; omega
    refine ⟨⟨n, h1, h2, by omega, ?_⟩, ?_⟩
    · unfold ablP
      simp only [Bool.and_eq_true, Bool.not_eq_true', List.contains_eq_mem, decide_eq_false_iff_not]
      rw [hl]
      refine ⟨h3, fun hm => ?_⟩
      obtain ⟨j, j1, j2⟩ := mem_nth.1 hm
      rw [hl] at j1
      rw [nth_take j1 (by omega)] at j2
      exact h4 j j1 j2
    · rw [← take_succ_nth (by omega)]
      exact comp_of hF h d (i + 1) (by omega)
/-- How many have the skill of some of a list of tasks; tasks that lack. -/
def ableL (M : List Mn) (T I : List Int) (m : Nat) : Bool := I.any fun k => hasS (nth M m) (nth T k.toNat)
def able (M : List Mn) (T I : List Int) : Nat := (List.range M.length).countP (ableL M T I)
theorem ableL_iff {M : List Mn} {T I : List Int} {m : Nat} : ableL M T I m = true ↔ ∃ k ∈ I, hasS (nth M m) (nth T k.toNat) = true := by
  unfold ableL
  simp
theorem asc_mem {n : Nat} : ∀ {i : Nat} {I : List Int}, asc n i I → ∀ x ∈ I, (i : Int) ≤ x ∧ x < n := fun h x hx => by
  obtain ⟨q, h1, rfl⟩ := mem_nth.1 hx
  exact asc_nth h q h1
theorem asc_lt {n : Nat} {i : Nat} {x : Int} {I : List Int} (h : asc n i (x :: I)) : ∀ y ∈ I, x < y := fun y hy => by
  have := (asc_mem h.2 y hy).1
  omega
theorem nodup_map_asc {n : Nat} {f : Int → Nat} : ∀ {i : Nat} {I : List Int}, asc n i I → (∀ x y : Int, 0 ≤ x → x < y → y < n → f x ≠ f y) → (I.map f).Nodup
  | _, [], _, _ => List.nodup_nil
  | i, x :: I, h, hf => by
    rw [List.map_cons, List.nodup_cons]
    refine ⟨fun hm => ?_, nodup_map_asc h.2 hf⟩
    obtain ⟨y, h1, h2⟩ := List.mem_map.1 hm
    have h3 := asc_lt h y h1
    have h4 := asc_mem h.2 y h1
    have h5 := h.1
    exact hf x y (by omega) h3 h4.2 h2.symm
/-- Never both. -/
theorem never_both {M : List Mn} {T P I : List Int} (hP : comp M T [] P) (hI : asc T.length 0 I) : I.length ≤ able M T I := by
  have hl := comp_len hP
  have hn := comp_nth hP
  simp only [List.length_nil, Nat.zero_add] at hl hn
  have h1 : (I.map fun k => (nth P k.toNat).toNat).Nodup := nodup_map_asc hI fun x y hx hy hyn => by
    obtain ⟨a, _, a2, _⟩ := hn x.toNat (by omega)
    obtain ⟨b, _, b2, _, _, b5⟩ := hn y.toNat (by omega)
    have := b5 x.toNat (by omega)
    rw [a2, b2, Int.toNat_natCast, Int.toNat_natCast]
    intro e
    subst e
    exact this a2
  have h2 := nodup_le (B := (List.range M.length).filter (ableL M T I)) h1 fun y hy => by
    obtain ⟨k, k1, rfl⟩ := List.mem_map.1 hy
    have hk := asc_mem hI k k1
    obtain ⟨a, a1, a2, a3, _⟩ := hn k.toNat (by omega)
    rw [a2, Int.toNat_natCast]
    exact List.mem_filter.2 ⟨List.mem_range.2 a1, ableL_iff.2 ⟨k, k1, a3⟩⟩
  rw [List.length_map] at h2
  unfold able
  rw [List.countP_eq_length_filter]
  exact h2
theorem asc_filter {S : Nat → Bool} : ∀ (d i : Nat), asc (i + d) i (((List.range' i d).filter S).map fun k : Nat => (k : Int))
  | 0, i => trivial
  | d + 1, i => by
    have h := asc_filter (S := S) d (i + 1)
    rw [show i + 1 + d = i + (d + 1) by omega] at h
    rw [List.range'_succ, List.filter_cons]
    split
    · exact ⟨⟨by show (i : Int) ≤ (i : Int); omega, by show (i : Int) < _; omega⟩, by rw [Int.toNat_natCast]; exact h⟩
    · exact asc_up (by omega) h
/-- One of both. -/
theorem one_of {M : List Mn} {T : List Int} (h : ∀ I, asc T.length 0 I → I.length ≤ able M T I) : ∃ P, comp M T [] P := by
  obtain ⟨f, h1, h2⟩ := hall (fun k m => hasS (nth M m) (nth T k)) T.length (List.range T.length) (List.range M.length) (by simp) List.nodup_range List.nodup_range fun S => by
    have ha := asc_filter (S := S) T.length 0
    rw [Nat.zero_add, ← List.range_eq_range'] at ha
    have h3 := h _ ha
    rw [List.length_map, ← List.countP_eq_length_filter] at h3
    refine Nat.le_trans h3 (countP_le fun m _ hm => ?_)
    obtain ⟨k, k1, k2⟩ := ableL_iff.1 hm
    obtain ⟨q, q1, rfl⟩ := List.mem_map.1 k1
    obtain ⟨q2, q3⟩ := List.mem_filter.1 q1
    exact nbr_iff.2 ⟨q, q2, q3, by simpa using k2⟩
  have hlen : ((List.range T.length).map fun k => (f k : Int)).length = T.length := by simp
  have hnth : ∀ i, i < T.length → nth ((List.range T.length).map fun k => (f k : Int)) i = f i := fun i hi => by
    rw [nth_map _ (by simpa using hi), nth_eq (by simpa using hi)]
    simp
  have hc := comp_of (M := M) (T := T) hlen (fun i hi => by
    rw [hlen] at hi
    obtain ⟨a, b⟩ := h1 i (List.mem_range.2 hi)
    refine ⟨f i, List.mem_range.1 a, hnth i hi, b, fun j hj => ?_⟩
    rw [hnth j (by omega)]
    intro e
    have := h2 j (List.mem_range.2 (by omega)) i (List.mem_range.2 hi) (by omega)
    omega) T.length 0 (by rw [hlen]; omega)
  rw [List.take_zero, List.drop_zero] at hc
  exact ⟨_, hc⟩
end Go.Oct.Shop
