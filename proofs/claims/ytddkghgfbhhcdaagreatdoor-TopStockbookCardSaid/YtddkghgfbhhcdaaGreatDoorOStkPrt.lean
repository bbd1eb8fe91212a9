/- Plans that are made day by day, the highest levels first, plain. -/
import Derived.Test.YtddkghgfbhhcdaaGreatDoorOStkSrt
import Derived.Test.YtddkghgfbhhcdaaGreatDoorOStkFit
import Derived.Test.YtddkghgfbhhcdaaGreatDoorOStkHu
set_option maxRecDepth 100000
set_option maxHeartbeats 4000000
set_option linter.unusedVariables false
set_option linter.unusedSimpArgs false
namespace Go.Oct.Stk.Sh
open Go.Oct
/-- The pieces that can be made, of the first ones. -/
def tdy (l : List Pc) (D : Nat → Bool) (j : Nat) : List Nat := (List.range j).filter (av l D)
theorem tdy_succ (l : List Pc) (D : Nat → Bool) (j : Nat) : tdy l D (j + 1) = tdy l D j ++ if av l D j then [j] else [] := by
  unfold tdy
  rw [List.range_succ, List.filter_append]
  cases h : av l D j <;> simp [h]
theorem tdy_le (l : List Pc) (D : Nat → Bool) (j : Nat) : (tdy l D j).length ≤ j := by
  unfold tdy
  have := List.length_filter_le (av l D) (List.range j)
  rwa [List.length_range] at this
theorem tdy_cnt (l : List Pc) (D : Nat → Bool) : ∀ j, (tdy l D j).length = cnt (av l D) j
  | 0 => rfl
  | j + 1 => by
    rw [tdy_succ, List.length_append, tdy_cnt l D j]
    simp only [cnt]
    cases av l D j <;> simp
theorem tdy_mem {l : List Pc} {D : Nat → Bool} {x : Nat} : x ∈ tdy l D l.length ↔ av l D x = true := by
  unfold tdy
  rw [List.mem_filter, List.mem_range]
  exact ⟨fun h => h.2, fun h => ⟨(av_iff.1 h).1, h⟩⟩
theorem tdy_nd (l : List Pc) (D : Nat → Bool) (j : Nat) : (tdy l D j).Nodup := List.nodup_range.filter _
theorem nd_map {α β : Type} {f : α → β} : ∀ {xs : List α}, xs.Nodup → (∀ a ∈ xs, ∀ b ∈ xs, f a = f b → a = b) → (xs.map f).Nodup
  | [], _, _ => .nil
  | x :: xs, h, hi => by
    have h1 := List.nodup_cons.1 h
    rw [List.map_cons]
    refine List.nodup_cons.2 ⟨fun hc => ?_, nd_map h1.2 fun a ha b hb => hi a (List.mem_cons_of_mem _ ha) b (List.mem_cons_of_mem _ hb)⟩
    obtain ⟨y, h2, h3⟩ := List.mem_map.1 hc
    exact h1.1 (hi y (List.mem_cons_of_mem _ h2) x (List.mem_cons_self ..) h3 ▸ h2)
structure Part (l : List Pc) (m : Nat) (P : Plan) : Prop where
  day : ∀ d, d < P.length → Rises (row P d) l.length (row P d).length
  can : ∀ d, d < P.length → ∀ x ∈ row P d, av l (has (flat P d)) x.toNat = true
  len : ∀ d, d < P.length → (row P d).length = min m (tdy l (has (flat P d)) l.length).length
  top : ∀ d, d < P.length → ∀ a ∈ row P d, ∀ b, av l (has (flat P d)) b = true → (b : Int) ∉ row P d → lev l b ≤ lev l a.toNat
  ne : ∀ d, d < P.length → row P d ≠ []
theorem Part.nil (l : List Pc) (m : Nat) : Part l m [] := ⟨fun d h => by simp at h, fun d h => by simp at h, fun d h => by simp at h, fun d h => by simp at h, fun d h => by simp at h⟩
theorem row_old {P : Plan} {x : Bool × List Int} {d : Nat} (h : d < P.length) : row (P ++ [x]) d = row P d := by unfold row; rw [nth_append_left h]
theorem row_new (P : Plan) (x : Bool × List Int) : row (P ++ [x]) P.length = x.2 := by
  unfold row
  rw [nth_append_right (Nat.le_refl _) (by simp), Nat.sub_self]; rfl
theorem flat_old {P : Plan} {x : Bool × List Int} : ∀ {d : Nat}, d ≤ P.length → flat (P ++ [x]) d = flat P d
  | 0, _ => rfl
  | d + 1, h => by simp only [flat]; rw [flat_old (by omega), row_old (by omega)]
theorem flat_new (P : Plan) (x : Bool × List Int) : flat (P ++ [x]) (P ++ [x]).length = flat P P.length ++ x.2 := by
  rw [List.length_append, List.length_singleton]
  simp only [flat]
  rw [flat_old (Nat.le_refl _), row_new]
theorem Part.add {l : List Pc} {m : Nat} {P : Plan} (h : Part l m P) {rs : List Int} (h1 : Rises rs l.length rs.length) (h2 : ∀ x ∈ rs, av l (has (flat P P.length)) x.toNat = true) (h3 : rs.length = min m (tdy l (has (flat P P.length)) l.length).length)
    (h4 : ∀ a ∈ rs, ∀ b, av l (has (flat P P.length)) b = true → (b : Int) ∉ rs → lev l b ≤ lev l a.toNat) (h5 : rs ≠ []) : Part l m (P ++ [(false, rs)]) := by
  have hl : (P ++ [(false, rs)]).length = P.length + 1 := by simp
  constructor
  all_goals
    intro d hd
    by_cases e : d < P.length
    · rw [row_old e]
      try rw [flat_old (by omega)]
      first | exact h.day d e | exact h.can d e | exact h.len d e | exact h.top d e | exact h.ne d e
    · obtain rfl : d = P.length := by omega
      rw [row_new]
      try rw [flat_old (Nat.le_refl _)]
      first | exact h1 | exact h2 | exact h3 | exact h4 | exact h5
theorem sorted_rises {rs : List Int} {n : Int} (hs : SortedTo ltI rs rs.length) (hn : rs.Nodup) (hr : ∀ x ∈ rs, 0 ≤ x ∧ x ≤ n - 1) : Rises rs n rs.length := fun i hi => by
  refine ⟨hr _ (nth_mem hi), fun h0 => ?_⟩
  have h1 := hs (i - 1) i (by omega) hi
  unfold ltI at h1
  have h2 : nth rs (i - 1) ≠ nth rs i := by
    rw [nth_eq hi, nth_eq (show i - 1 < rs.length by omega)]
    intro e
    have := (List.getElem_inj hn).1 e
    omega
  omega
theorem Part.step {l : List Pc} {m n : Nat} {P : Plan} (h : Part l m P) {ys : List P5} (hp : ys.Perm ((tdy l (has (flat P P.length)) l.length).map (p5At l))) (hT : SortedTo ltP ys ys.length) {rs : List Int} (hr : rs.Perm ((ys.take n).map (·.ix))) (hI : SortedTo ltI rs rs.length)
    (hn : n = min m (tdy l (has (flat P P.length)) l.length).length) (hn0 : 0 < n) : Part l m (P ++ [(false, rs)]) := by
  have hyl : ys.length = (tdy l (has (flat P P.length)) l.length).length := by rw [hp.length_eq, List.length_map]
  have hin : ∀ x, x ∈ ys → ∃ i, av l (has (flat P P.length)) i = true ∧ x = p5At l i := fun x hx => by
    obtain ⟨i, h1, h2⟩ := List.mem_map.1 (hp.mem_iff.1 hx)
    exact ⟨i, tdy_mem.1 h1, h2.symm⟩
  have hnd : (ys.map (·.ix)).Nodup := by
    refine ((hp.map (·.ix)).nodup_iff).2 ?_
    rw [List.map_map]
    refine nd_map (tdy_nd _ _ _) fun a _ b _ e => ?_
    simp only [Function.comp_def, p5At] at e
    omega
  have hids : ∀ a, a ∈ rs ↔ ∃ p, p < n ∧ p < ys.length ∧ a = (nth ys p).ix := fun a => by
    rw [hr.mem_iff, List.mem_map]
    constructor
    · rintro ⟨x, hx, rfl⟩
      obtain ⟨p, hp', rfl⟩ := mem_nth.1 hx
      rw [List.length_take] at hp'
      exact ⟨p, by omega, by omega, by rw [nth_take (by omega) (by omega)]⟩
    · rintro ⟨p, h1, h2, rfl⟩
      exact ⟨nth ys p, by rw [← nth_take (n := n) h1 (by omega)]; exact nth_mem (by rw [List.length_take]; omega), rfl⟩
  have hrn : rs.Nodup := (hr.nodup_iff).2 (by rw [List.map_take]; exact hnd.sublist (List.take_sublist _ _))
  have hrl : rs.length = n := by rw [hr.length_eq]; simp; omega
  have hav : ∀ a ∈ rs, 0 ≤ a ∧ av l (has (flat P P.length)) a.toNat = true := fun a ha => by
    obtain ⟨p, h1, h2, rfl⟩ := (hids a).1 ha
    obtain ⟨i, i1, i2⟩ := hin _ (nth_mem h2)
    rw [i2]
    simp only [p5At]
    exact ⟨by omega, by rw [Int.toNat_natCast]; exact i1⟩
  refine h.add (sorted_rises hI hrn fun x hx => ?_) (fun x hx => (hav x hx).2) (by omega) (fun a ha b hb hbn => ?_) (fun e => by rw [e] at hrl; simp at hrl; omega)
  · have := hav x hx
    have := (av_iff.1 this.2).1
    omega
  · obtain ⟨p, h1, h2, rfl⟩ := (hids a).1 ha
    have hbm : p5At l b ∈ ys := hp.mem_iff.2 (List.mem_map.2 ⟨b, tdy_mem.2 hb, rfl⟩)
    obtain ⟨q, q1, q2⟩ := mem_nth.1 hbm
    have hqn : n ≤ q := Nat.le_of_not_lt fun hc => hbn ((hids _).2 ⟨q, hc, q1, by rw [q2]; rfl⟩)
    have h3 := hT p q (by omega) q1
    rw [q2] at h3
    obtain ⟨i, i1, i2⟩ := hin _ (nth_mem h2)
    rw [i2] at h3 ⊢
    unfold ltP at h3
    simp only [p5At, Int.toNat_natCast] at h3 ⊢
    omega
theorem has_iff {xs : List Int} {i : Nat} : has xs i = true ↔ (i : Int) ∈ xs := by unfold has; exact decide_eq_true_iff
theorem Part.nd {l : List Pc} {m : Nat} {P : Plan} (h : Part l m P) : ∀ d, d ≤ P.length → (flat P d).Nodup ∧ ∀ x ∈ flat P d, 0 ≤ x ∧ x ≤ (l.length : Int) - 1
  | 0, _ => by simp [flat]
  | d + 1, hd => by
    obtain ⟨h1, h2⟩ := h.nd d (by omega)
    have hri := h.day d (by omega)
    have hrow : ∀ x ∈ row P d, 0 ≤ x ∧ x ≤ (l.length : Int) - 1 := fun x hx => rises_in hri (by rw [List.take_length]; exact hx) (Nat.le_refl _)
    simp only [flat]
    refine ⟨List.nodup_append.2 ⟨h1, ?_, fun a ha b hb e => ?_⟩, fun x hx => ?_⟩
    · rw [List.nodup_iff_pairwise_ne, List.pairwise_iff_getElem]
      have hlt : ∀ q p, p < q → q < (row P d).length → nth (row P d) p < nth (row P d) q := fun q => by
        induction q with
        | zero => intro p h; omega
        | succ q ih =>
          intro p h3 h4
          have h5 := (hri (q + 1) h4).2 (by omega)
          rw [Nat.add_sub_cancel] at h5
          by_cases e : p = q
          · subst e; exact h5
          · have := ih p (by omega) (by omega); omega
      intro i j h3 h4 h5 e
      have := hlt j i h5 h4
      rw [nth_eq h3, nth_eq h4] at this
      omega
    · subst e
      have h3 := (av_iff.1 (h.can d (by omega) a hb)).2.1
      have h4 := hrow a hb
      have h5 : has (flat P d) a.toNat = true := has_iff.2 (by rw [show ((a.toNat : Nat) : Int) = a by omega]; exact ha)
      rw [h3] at h5; cases h5
    · rcases List.mem_append.1 hx with hx | hx
      · exact h2 x hx
      · exact hrow x hx
theorem Part.flat_le {l : List Pc} {m : Nat} {P : Plan} (h : Part l m P) : (flat P P.length).length ≤ l.length := by
  have := h.nd P.length (Nat.le_refl _)
  exact (nodup_cover this.1 this.2).1
theorem Part.fin {l : List Pc} {m : Nat} {P : Plan} (ho : okOrd l) (hm : 0 < m) (h : Part l m P) (hz : tdy l (has (flat P P.length)) l.length = []) : okPlan l m P ∧ ∃ j, j < height l ∧ (P.length : Int) ≤ bnd l m j := by
  have hall : ∀ i, i < l.length → (i : Int) ∈ flat P P.length := fun i hi => by
    apply Classical.byContradiction
    intro hc
    have hd : has (flat P P.length) i = false := by
      cases e : has (flat P P.length) i
      · rfl
      · exact absurd (has_iff.1 e) hc
    have h1 := hgt_ge (l := l) hi hd
    have h2 := (lev_in ho hi).1
    obtain ⟨q, q1, q2, q3⟩ := hgt_at (l := l) (D := has (flat P P.length)) (by omega)
    have := tdy_mem.2 (top_av ho q1 q2 (by omega))
    rw [hz] at this
    cases this
  have hP : 0 < P.length := by
    have hl := ho.1
    have := hall 0 (by omega)
    apply Nat.pos_of_ne_zero
    intro e
    rw [e] at this
    simp [flat] at this
  have hnd := h.nd P.length (Nat.le_refl _)
  refine ⟨⟨fun e => by rw [e] at hP; simp at hP, h.ne _ (by omega), fun d hd => ⟨?_, h.day d hd⟩, hnd.1, hall, fun d hd x hx k hk he => ?_⟩, ?_⟩
  · have := h.len d hd; omega
  · have h1 := (av_iff.1 (h.can d hd x hx)).2.2 k hk
    have h2 := rises_in (h.day d hd) (x := x) (by rw [List.take_length]; exact hx) (Nat.le_refl _)
    exact has_iff.1 (h1 (by rw [he]; omega))
  · refine Runs.bound ho hm (S := fun d => (row P d).map Int.toNat) (D := fun d => has (flat P d)) (T := P.length) ⟨fun i => ?_, fun t ht i => ?_, fun t ht => ?_, fun t ht i hi => ?_, fun t ht => ?_, fun t ht a ha b hb hbn => ?_, fun t ht => ?_, fun i hi => has_iff.2 (hall i hi)⟩ hP
    · simp [has, flat]
    · have hr : ∀ x ∈ row P t, 0 ≤ x := fun x hx => (rises_in (h.day t ht) (x := x) (by rw [List.take_length]; exact hx) (Nat.le_refl _)).1
      rw [Bool.eq_iff_iff]
      simp only [Bool.or_eq_true, has_iff, flat, List.mem_append, List.contains_iff_mem, List.mem_map]
      constructor
      · rintro (h1 | h1)
        · exact .inl h1
        · exact .inr ⟨_, h1, by omega⟩
      · rintro (h1 | ⟨x, h1, h2⟩)
        · exact .inl h1
        · have := hr x h1
          exact .inr (by rw [show (i : Int) = x by omega]; exact h1)
    · have h1 := (h.nd (t + 1) (by omega)).1
      simp only [flat] at h1
      refine nd_map (List.nodup_append.1 h1).2.1 fun a ha b hb e => ?_
      have h2 := (rises_in (h.day t ht) (x := a) (by rw [List.take_length]; exact ha) (Nat.le_refl _)).1
      have h3 := (rises_in (h.day t ht) (x := b) (by rw [List.take_length]; exact hb) (Nat.le_refl _)).1
      omega
    · obtain ⟨x, h1, rfl⟩ := List.mem_map.1 hi
      exact h.can t ht x h1
    · rw [List.length_map, ← tdy_cnt]; exact h.len t ht
    · obtain ⟨x, h1, rfl⟩ := List.mem_map.1 ha
      refine h.top t ht x h1 b hb fun hc => hbn (List.mem_map.2 ⟨_, hc, by omega⟩)
    · simpa using h.ne t ht
end Go.Oct.Stk.Sh
