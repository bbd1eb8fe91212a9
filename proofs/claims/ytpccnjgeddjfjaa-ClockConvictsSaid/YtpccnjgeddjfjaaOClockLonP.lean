/- Watches, plain: fewer days; how few clocks suffice. -/
import Derived.Test.YtpccnjgeddjfjaaOClockWtS
set_option maxRecDepth 100000
set_option maxHeartbeats 1000000
set_option linter.unusedVariables false
set_option linter.unusedSimpArgs false
namespace Go.Oct.Clock
open Go.Oct
theorem can_mono {w : Wt} {J n n' : Nat} (h : canBe w J n) (hn : n' ≤ n) : canBe w J n' := by
  obtain ⟨z, h⟩ := h
  exact ⟨z, fun d hd => h.first d (by omega), fun d hd => h.second d (by omega), fun d k h0 hd hk hj => h.rate d k h0 (by omega) hk hj⟩
/-- With two clocks as jumpers a watch can be. -/
theorem can3 {w : Wt} (hw : okWt w) (n : Nat) : canBe w 3 n := by
  have h2 := hw.1.2.2
  have hr := hw.2.2.2.2
  unfold rtOK at hr
  refine ⟨fun k d => if k = 0 then nth w.F d + nth w.S d + w.r2.lo * d else if k = 1 then nth w.S d + w.r2.lo * d else w.r2.lo * d, fun d hd => ?_, fun d hd => ?_, fun d k h0 hd hk hj => ?_⟩
  · simp; omega
  · simp; omega
  · obtain rfl | rfl | rfl : k = 0 ∨ k = 1 ∨ k = 2 := by omega
    · exfalso; revert hj; decide
    · exfalso; revert hj; decide
    · simp only [show ¬ (2 : Nat) = 0 by omega, show ¬ (2 : Nat) = 1 by omega, if_false]
      have e : w.r2.lo * (d : Int) = w.r2.lo * ((d - 1 : Nat) : Int) + w.r2.lo := by
        rw [show (d : Int) = ((d - 1 : Nat) : Int) + 1 by omega, Int.mul_add, Int.mul_one]
      show w.r2.lo ≤ _ ∧ _ ≤ w.r2.hi
      omega
/-- One day can always be. -/
theorem can1 {w : Wt} (hw : okWt w) (J : Nat) : canBe w J 1 := by
  obtain ⟨z, h⟩ := can7 w hw 1
  exact ⟨z, h.first, h.second, fun d k h0 hd => by omega⟩
def cutW (w : Wt) (m : Nat) : Wt := ⟨w.F.take m, w.S.take m, w.wr, w.r0, w.r1, w.r2⟩
theorem cut_ok {w : Wt} (hw : okWt w) {m : Nat} (h2 : 2 ≤ m) (hm : m ≤ w.F.length) : okWt (cutW w m) := by
  obtain ⟨⟨h20, hS, hwr⟩, hd, hr⟩ := hw
  have l1 : (w.F.take m).length = m := by rw [List.length_take]; omega
  have l2 : (w.S.take m).length = m := by rw [List.length_take]; omega
  refine ⟨⟨?_, ?_, hwr⟩, fun i hi => ?_, hr⟩
  · show 2 ≤ ((w.F.take m).length : Int) ∧ ((w.F.take m).length : Int) ≤ 20; rw [l1]; omega
  · show ((w.S.take m).length : Int) = (w.F.take m).length; rw [l1, l2]
  · have hi' : i < m := by have : i < (w.F.take m).length := hi; omega
    show inB (nth (w.F.take m) i) ∧ inB (nth (w.S.take m) i)
    rw [nth_take hi' (by omega), nth_take hi' (by omega)]
    exact hd i (by omega)
theorem cut_can {w : Wt} (hw : okWt w) {m J n : Nat} (hm : m ≤ w.F.length) (hn : n ≤ m) : canBe (cutW w m) J n ↔ canBe w J n := by
  have hS := hw.1.2.1
  constructor
  · rintro ⟨z, h⟩
    refine ⟨z, fun d hd => ?_, fun d hd => ?_, h.rate⟩
    · have := h.first d hd
      change nth (w.F.take m) d - _ ≤ _ ∧ _ ≤ nth (w.F.take m) d + _ at this
      rw [nth_take (by omega) (by omega)] at this
      exact this
    · have := h.second d hd
      change nth (w.S.take m) d - _ ≤ _ ∧ _ ≤ nth (w.S.take m) d + _ at this
      rw [nth_take (by omega) (by omega)] at this
      exact this
  · rintro ⟨z, h⟩
    refine ⟨z, fun d hd => ?_, fun d hd => ?_, h.rate⟩
    · have := h.first d hd
      change nth (w.F.take m) d - _ ≤ _ ∧ _ ≤ nth (w.F.take m) d + _
      rw [nth_take (by omega) (by omega)]
      exact this
    · have := h.second d hd
      change nth (w.S.take m) d - _ ≤ _ ∧ _ ≤ nth (w.S.take m) d + _
      rw [nth_take (by omega) (by omega)]
      exact this
/-! ### Lists of sets -/
theorem jl_mem {w : Wt} {m : Nat} {x : Int} : ∀ s, x ∈ jl w m s ↔ ∃ t : Nat, t < s ∧ x = t ∧ pc t = m ∧ canBe w t w.F.length
  | 0 => ⟨fun h => (by cases h), fun ⟨t, h, _⟩ => (by omega)⟩
  | s + 1 => by
    by_cases hs : pc s = m ∧ canBe w s w.F.length
    · rw [jl_yes hs, List.mem_append, jl_mem s, List.mem_singleton]
      constructor
      · rintro (⟨t, h1, h2⟩ | h)
        · exact ⟨t, by omega, h2⟩
        · exact ⟨s, by omega, h, hs⟩
      · rintro ⟨t, h1, h2, h3⟩
        by_cases e : t = s
        · subst e; exact .inr h2
        · exact .inl ⟨t, by omega, h2, h3⟩
    · rw [jl_no hs, jl_mem s]
      constructor
      · rintro ⟨t, h1, h2⟩; exact ⟨t, by omega, h2⟩
      · rintro ⟨t, h1, h2, h3⟩
        by_cases e : t = s
        · subst e; exact absurd h3 hs
        · exact ⟨t, by omega, h2, h3⟩
theorem jl_rise {w : Wt} {m : Nat} : ∀ s, ∀ i, 0 < i → i < (jl w m s).length → nth (jl w m s) (i - 1) < nth (jl w m s) i
  | 0, i, _, h => by simp [jl] at h
  | s + 1, i, h0, hi => by
    by_cases hs : pc s = m ∧ canBe w s w.F.length
    · rw [jl_yes hs] at hi ⊢
      by_cases e : i < (jl w m s).length
      · rw [nth_append_left (by omega), nth_append_left e]
        exact jl_rise s i h0 e
      · have hl : i = (jl w m s).length := by simp at hi; omega
        rw [nth_append_left (by omega), nth_append_right (by omega) (by simp; omega), hl, Nat.sub_self]
        obtain ⟨t, h1, h2, _⟩ := (jl_mem s).1 (nth_mem (xs := jl w m s) (i := (jl w m s).length - 1) (by omega))
        rw [h2]
        show (t : Int) < s
        omega
    · rw [jl_no hs] at hi ⊢
      exact jl_rise s i h0 hi
theorem pc_le : ∀ t : Nat, t < 8 → pc t ≤ 2 → t ≤ 6 := by decide
theorem pc_zero : ∀ t : Nat, t < 8 → pc t = 0 → t = 0 := by decide
/-- What is said of the sets that are named. -/
theorem jump_facts {w : Wt} (hw : okWt w) {L : List Int} (h : JumpOf w L) : ∃ m, m ≤ 2 ∧ L = jl w m 8 ∧ L ≠ [] ∧ (∀ m', m' < m → jl w m' 8 = []) ∧ Rises L 7 L.length ∧ ∀ i, i < L.length → ∃ t : Nat, t < 8 ∧ nth L i = t ∧ pc t = m := by
  obtain ⟨m, h1, h2, h3, h4⟩ := h
  have hm : m ≤ 2 := by
    apply Classical.byContradiction
    intro hc
    have h5 := h4 2 (by omega)
    have h6 : ((3 : Nat) : Int) ∈ jl w 2 8 := (jl_mem 8).2 ⟨3, by omega, rfl, by decide, can3 hw _⟩
    rw [h5] at h6
    cases h6
  have hel : ∀ i, i < L.length → ∃ t : Nat, t < 8 ∧ nth L i = t ∧ pc t = m := fun i hi => by
    have h5 := nth_mem hi
    rw [h2] at h5
    obtain ⟨t, t1, t2, t3, _⟩ := (jl_mem 8).1 h5
    exact ⟨t, t1, by rw [h2]; exact t2, t3⟩
  refine ⟨m, hm, h2, h3, h4, fun i hi => ⟨?_, fun h0 => ?_⟩, hel⟩
  · obtain ⟨t, t1, t2, t3⟩ := hel i hi
    have := pc_le t t1 (by omega)
    rw [t2]
    omega
  · subst h2
    exact jl_rise 8 i h0 hi
/-- The first set named is none if and only if all can be without. -/
theorem jump_zero {w : Wt} (hw : okWt w) {L : List Int} (h : JumpOf w L) : nth L 0 = 0 ↔ canBe w 0 w.F.length := by
  obtain ⟨m, h1, h2, h3, h4, _, h5⟩ := jump_facts hw h
  constructor
  · intro hz
    obtain ⟨t, t1, t2, t3⟩ := h5 0 (List.length_pos_iff.2 h3)
    have e : t = 0 := by omega
    subst e
    have hm := nth_mem (show 0 < L.length from List.length_pos_iff.2 h3)
    rw [hz, h2] at hm
    obtain ⟨s, s1, s2, s3, s4⟩ := (jl_mem 8).1 hm
    have : s = 0 := by omega
    subst this
    exact s4
  · intro hc
    have h6 : ((0 : Nat) : Int) ∈ jl w 0 8 := (jl_mem 8).2 ⟨0, by omega, rfl, by decide, hc⟩
    have hm0 : m = 0 := by
      apply Classical.byContradiction
      intro e
      rw [h4 0 (by omega)] at h6
      cases h6
    obtain ⟨t, t1, t2, t3⟩ := h5 0 (List.length_pos_iff.2 h3)
    rw [t2, pc_zero t t1 (by omega)]
    rfl
theorem since_iff {w : Wt} (hw : okWt w) {d e : Int} (h : SinceOf w d e) : (e = 0 ∨ e = 4) ∧ (e = 0 ↔ ¬ canBe w 0 w.F.length) ∧ (e = 0 → 1 ≤ d ∧ d ≤ (w.F.length : Int) - 1) := by
  rcases h with ⟨n, h1, rfl, rfl, h2, h3⟩ | ⟨rfl, rfl, h1⟩
  · refine ⟨.inl rfl, ⟨fun _ hc => h2 (can_mono hc (by omega)), fun _ => rfl⟩, fun _ => ?_⟩
    have : n ≠ 0 := fun e => by subst e; exact h2 (can1 hw 0)
    omega
  · have h20 := hw.1.1
    refine ⟨.inr rfl, ⟨fun h => by omega, fun h => ?_⟩, fun h => by omega⟩
    have := h1 (w.F.length - 1) (by omega)
    rw [show w.F.length - 1 + 1 = w.F.length by omega] at this
    exact absurd this h
/-- With fewer days not more clocks must have jumped. -/
theorem jump_cut {w : Wt} (hw : okWt w) {m : Nat} (h2 : 2 ≤ m) (hm : m ≤ w.F.length) {L L' : List Int} (h : JumpOf w L) (h' : JumpOf (cutW w m) L') {a b : Nat} (ha : L = jl w a 8) (hb : L' = jl (cutW w m) b 8) (hb2 : ∀ x, x < b → jl (cutW w m) x 8 = []) : b ≤ a := by
  apply Classical.byContradiction
  intro hc
  have h5 := hb2 a (by omega)
  obtain ⟨_, _, _, h3, _⟩ := h
  have h6 := nth_mem (show 0 < L.length from List.length_pos_iff.2 h3)
  rw [ha] at h6
  obtain ⟨t, t1, t2, t3, t4⟩ := (jl_mem 8).1 h6
  have hl : (cutW w m).F.length = m := by show (w.F.take m).length = m; rw [List.length_take]; omega
  have h7 : ((t : Nat) : Int) ∈ jl (cutW w m) a 8 := (jl_mem 8).2 ⟨t, t1, rfl, t3, by rw [hl]; exact (cut_can hw hm (Nat.le_refl _)).2 (can_mono t4 hm)⟩
  rw [h5] at h7
  cases h7
theorem since_cut {w : Wt} (hw : okWt w) {m : Nat} (h2 : 2 ≤ m) (hm : m ≤ w.F.length) {d e d' e' : Int} (h : SinceOf w d e) (h' : SinceOf (cutW w m) d' e') : if e = 0 ∧ d < m then e' = 0 ∧ d' = d else e' = 4 := by
  have hl : (cutW w m).F.length = m := by show (w.F.take m).length = m; rw [List.length_take]; omega
  have key : SinceOf (cutW w m) (if e = 0 ∧ d < m then d else 0) (if e = 0 ∧ d < m then 0 else 4) := by
    rcases h with ⟨n, h1, rfl, rfl, h2, h3⟩ | ⟨rfl, rfl, h1⟩
    · by_cases hn : n < m
      · rw [if_pos ⟨rfl, by omega⟩, if_pos ⟨rfl, by omega⟩]
        exact .inl ⟨n, by omega, rfl, rfl, fun h => h2 ((cut_can hw hm (by omega)).1 h), fun i hi => (cut_can hw hm (by omega)).2 (h3 i hi)⟩
      · rw [if_neg (by omega), if_neg (by omega)]
        exact .inr ⟨rfl, rfl, fun i hi => (cut_can hw hm (by omega)).2 (h3 i (by omega))⟩
    · rw [if_neg (by omega), if_neg (by omega)]
      exact .inr ⟨rfl, rfl, fun i hi => (cut_can hw hm (by omega)).2 (h1 i (by omega))⟩
  obtain ⟨e1, e2⟩ := h'.uniq key
  split
  · rename_i hc
    rw [if_pos hc] at e1 e2
    exact ⟨e2, e1⟩
  · rename_i hc
    rw [if_neg hc] at e2
    exact e2
end Go.Oct.Clock
