/- The marriage theorem, plain. -/
import Derived.Test.YtpgjndgpackffaaDoorOT3
set_option linter.unusedVariables false
set_option linter.unusedSimpArgs false
namespace Go.Oct.Shop
open Go.Oct
theorem countP_split {α : Type} (p q : α → Bool) : ∀ l : List α, l.countP p = l.countP (fun x => p x && q x) + l.countP (fun x => p x && !q x)
  | [] => rfl
  | x :: l => by
    have h := countP_split p q l
    simp only [List.countP_cons]
    cases p x <;> cases q x <;> simp <;> omega
theorem countP_le {α : Type} {p q : α → Bool} : ∀ {l : List α}, (∀ x ∈ l, p x = true → q x = true) → l.countP p ≤ l.countP q
  | [], _ => Nat.le_refl _
  | x :: l, h => by
    have h1 := countP_le (l := l) fun y hy => h y (List.mem_cons_of_mem _ hy)
    have h2 := h x (List.mem_cons_self ..)
    simp only [List.countP_cons]
    cases hp : p x
    · simp only [Bool.false_eq_true, if_false]; split <;> omega
    · rw [h2 hp]; simp; omega
theorem countP_eq {α : Type} {p q : α → Bool} {l : List α} (h : ∀ x ∈ l, p x = q x) : l.countP p = l.countP q :=
  Nat.le_antisymm (countP_le fun x hx e => by rw [← h x hx]; exact e) (countP_le fun x hx e => by rw [h x hx]; exact e)
theorem countP_pos' {α : Type} {p : α → Bool} : ∀ {l : List α}, 0 < l.countP p → ∃ x ∈ l, p x = true
  | [], h => by simp at h
  | x :: l, h => by
    cases hp : p x
    · have h1 : 0 < l.countP p := by simpa [List.countP_cons, hp] using h
      obtain ⟨y, h2, h3⟩ := countP_pos' h1
      exact ⟨y, List.mem_cons_of_mem _ h2, h3⟩
    · exact ⟨x, List.mem_cons_self .., hp⟩
theorem countP_filter' {α : Type} (p q : α → Bool) : ∀ l : List α, (l.filter q).countP p = l.countP (fun x => q x && p x)
  | [] => rfl
  | x :: l => by
    have h := countP_filter' p q l
    cases hq : q x
    · simp [List.filter_cons, hq, List.countP_cons]
      simpa using h
    · simp [List.filter_cons, hq, List.countP_cons]
      simpa using h
theorem countP_len {α : Type} {p : α → Bool} : ∀ {l : List α}, l.countP p ≤ l.length
  | [] => Nat.le_refl _
  | x :: l => by
    have := countP_len (p := p) (l := l)
    simp only [List.countP_cons, List.length_cons]
    split <;> omega
def nbr (R : Nat → Nat → Bool) (tasks : List Nat) (S : Nat → Bool) (m : Nat) : Bool := tasks.any fun k => S k && R k m
theorem nbr_iff {R : Nat → Nat → Bool} {tasks : List Nat} {S : Nat → Bool} {m : Nat} : nbr R tasks S m = true ↔ ∃ k ∈ tasks, S k = true ∧ R k m = true := by
  unfold nbr
  simp
theorem hall (R : Nat → Nat → Bool) : ∀ (n : Nat) (tasks men : List Nat), tasks.length ≤ n → tasks.Nodup → men.Nodup →
    (∀ S : Nat → Bool, tasks.countP S ≤ men.countP (nbr R tasks S)) → ∃ f : Nat → Nat, (∀ k ∈ tasks, f k ∈ men ∧ R k (f k) = true) ∧ ∀ k ∈ tasks, ∀ l ∈ tasks, f k = f l → k = l
  | 0, tasks, men, hn, _, _, _ => by
    obtain rfl : tasks = [] := List.length_eq_zero_iff.1 (by omega)
    exact ⟨fun k => k, by simp, by simp⟩
  | n + 1, tasks, men, hn, ht, hm, h => by
    by_cases hx : ∃ S : Nat → Bool, 0 < tasks.countP S ∧ tasks.countP S < tasks.length ∧ men.countP (nbr R tasks S) ≤ tasks.countP S
    · obtain ⟨S, s1, s2, s3⟩ := hx
      have sp := countP_split (fun _ : Nat => true) S tasks
      have e1 : tasks.countP (fun _ => true) = tasks.length := by
        have : ∀ l : List Nat, l.countP (fun _ => true) = l.length := fun l => by induction l with | nil => rfl | cons x l ih => simp [List.countP_cons, ih]
        exact this tasks
      have l1 : (tasks.filter S).length = tasks.countP S := by rw [List.countP_eq_length_filter]
      have l2 : (tasks.filter fun k => !S k).length = tasks.countP (fun k => !S k) := by rw [List.countP_eq_length_filter]
      simp only [Bool.true_and] at sp
      have e2 : tasks.countP (fun x => S x) = tasks.countP S := rfl
      obtain ⟨f1, a1, b1⟩ := hall R n (tasks.filter S) (men.filter (nbr R tasks S)) (by omega) (ht.filter _) (hm.filter _) (fun S' => by
        have h1 := h (fun k => S k && S' k)
        rw [countP_filter', countP_filter']
        refine Nat.le_trans h1 (countP_le fun m _ hm' => ?_)
        obtain ⟨k, k1, k2, k3⟩ := nbr_iff.1 hm'
        simp only [Bool.and_eq_true] at k2 ⊢
        exact ⟨nbr_iff.2 ⟨k, k1, k2.1, k3⟩, nbr_iff.2 ⟨k, List.mem_filter.2 ⟨k1, k2.1⟩, k2.2, k3⟩⟩)
      obtain ⟨f2, a2, b2⟩ := hall R n (tasks.filter fun k => !S k) (men.filter fun m => !nbr R tasks S m) (by omega) (ht.filter _) (hm.filter _) (fun S' => by
        have h1 := h (fun k => S k || S' k)
        rw [countP_filter', countP_filter']
        have h2 := countP_split (fun k => S k || S' k) S tasks
        have h3 : tasks.countP (fun x => (S x || S' x) && S x) = tasks.countP S := countP_eq fun x _ => by cases S x <;> cases S' x <;> rfl
        have h4 : tasks.countP (fun x => (S x || S' x) && !S x) = tasks.countP (fun x => !S x && S' x) := countP_eq fun x _ => by cases S x <;> cases S' x <;> rfl
        have h5 := countP_split (nbr R tasks fun k => S k || S' k) (nbr R tasks S) men
        have h6 : men.countP (fun m => nbr R tasks (fun k => S k || S' k) m && nbr R tasks S m) ≤ men.countP (nbr R tasks S) := countP_le fun m _ hm' => by
          simp only [Bool.and_eq_true] at hm'
          exact hm'.2
        have h7 : men.countP (fun m => nbr R tasks (fun k => S k || S' k) m && !nbr R tasks S m) ≤ men.countP (fun m => !nbr R tasks S m && nbr R (tasks.filter fun k => !S k) S' m) := countP_le fun m _ hm' => by
          simp only [Bool.and_eq_true, Bool.not_eq_true'] at hm' ⊢
          obtain ⟨k, k1, k2, k3⟩ := nbr_iff.1 hm'.1
          have k4 : S k = false := by
            cases hs : S k with
            | false => rfl
            | true =>
              have := nbr_iff.2 ⟨k, k1, hs, k3⟩
              rw [hm'.2] at this
              cases this
          rw [k4, Bool.false_or] at k2
          exact ⟨hm'.2, nbr_iff.2 ⟨k, List.mem_filter.2 ⟨k1, by rw [k4]; rfl⟩, k2, k3⟩⟩
        omega)
      refine ⟨fun k => if S k then f1 k else f2 k, fun k hk => ?_, fun k hk l hl he => ?_⟩
      · cases hs : S k with
        | true =>
          have := a1 k (List.mem_filter.2 ⟨hk, hs⟩)
          simp only [hs, if_true]
          exact ⟨(List.mem_filter.1 this.1).1, this.2⟩
        | false =>
          have := a2 k (List.mem_filter.2 ⟨hk, by rw [hs]; rfl⟩)
          simp only [hs]
          exact ⟨(List.mem_filter.1 this.1).1, this.2⟩
      · cases hs : S k <;> cases hs2 : S l
        · simp only [hs, hs2] at he
          exact b2 k (List.mem_filter.2 ⟨hk, by rw [hs]; rfl⟩) l (List.mem_filter.2 ⟨hl, by rw [hs2]; rfl⟩) he
        · exfalso
          simp only [hs, hs2, if_true] at he
          have h1 := (List.mem_filter.1 (a2 k (List.mem_filter.2 ⟨hk, by rw [hs]; rfl⟩)).1).2
          have h2 := (List.mem_filter.1 (a1 l (List.mem_filter.2 ⟨hl, hs2⟩)).1).2
          simp at he
          rw [he, h2] at h1
          cases h1
        · exfalso
          simp only [hs, hs2, if_true] at he
          have h1 := (List.mem_filter.1 (a2 l (List.mem_filter.2 ⟨hl, by rw [hs2]; rfl⟩)).1).2
          have h2 := (List.mem_filter.1 (a1 k (List.mem_filter.2 ⟨hk, hs⟩)).1).2
          simp at he
          rw [← he, h2] at h1
          cases h1
        · simp only [hs, hs2, if_true] at he
          exact b1 k (List.mem_filter.2 ⟨hk, hs⟩) l (List.mem_filter.2 ⟨hl, hs2⟩) he
    · cases tasks with
      | nil => exact ⟨fun k => k, by simp, by simp⟩
      | cons k ts =>
        obtain ⟨hk, hts⟩ := List.nodup_cons.1 ht
        have h1 := h (fun x => x == k)
        have h2 : 0 < men.countP (nbr R (k :: ts) fun x => x == k) := by
          simp only [List.countP_cons, beq_self_eq_true, if_true] at h1
          omega
        obtain ⟨m, m1, m2⟩ := countP_pos' h2
        obtain ⟨k', k1, k2, k3⟩ := nbr_iff.1 m2
        obtain rfl : k' = k := by simpa using k2
        obtain ⟨f, a, b⟩ := hall R n ts (men.filter fun x => x != m) (by simp at hn; omega) hts (hm.filter _) (fun S' => by
          rw [countP_filter']
          by_cases h0 : ts.countP S' = 0
          · omega
          · have e1 : (k' :: ts).countP (fun x => S' x && x != k') = ts.countP S' := by
              simp only [List.countP_cons, bne_self_eq_false, Bool.and_false]
              have : ts.countP (fun x => S' x && x != k') = ts.countP S' := countP_eq fun x hx => by
                have : x ≠ k' := fun e => hk (e ▸ hx)
                simp [this]
              simpa using this
            have e2 : ts.countP S' ≤ ts.length := countP_len
            have h3 : (k' :: ts).countP (fun x => S' x && x != k') < men.countP (nbr R (k' :: ts) fun x => S' x && x != k') := by
              apply Classical.byContradiction
              intro h4
              exact hx ⟨fun x => S' x && x != k', by rw [e1]; omega, by rw [e1, List.length_cons]; omega, by omega⟩
            have h4 := countP_split (nbr R (k' :: ts) fun x => S' x && x != k') (fun x => x == m) men
            have h5 : men.countP (fun x => nbr R (k' :: ts) (fun x => S' x && x != k') x && x == m) ≤ 1 := by
              refine Nat.le_trans (countP_le (q := fun x => x == m) fun x _ hx' => ?_) (List.nodup_iff_count.1 hm m)
              simp only [Bool.and_eq_true] at hx'
              exact hx'.2
            have h6 : men.countP (fun x => nbr R (k' :: ts) (fun x => S' x && x != k') x && !(x == m)) ≤ men.countP (fun x => x != m && nbr R ts S' x) := countP_le fun x _ hx' => by
              simp only [Bool.and_eq_true] at hx' ⊢
              obtain ⟨q, q1, q2, q3⟩ := nbr_iff.1 hx'.1
              simp only [Bool.and_eq_true] at q2
              have q4 : q ∈ ts := by
                rcases List.mem_cons.1 q1 with e | q1
                · subst e; simp at q2
                · exact q1
              exact ⟨hx'.2, nbr_iff.2 ⟨q, q4, q2.1, q3⟩⟩
            omega)
        have hfm : ∀ x ∈ ts, f x ∈ men ∧ f x ≠ m := fun x hx' => by
          have := List.mem_filter.1 (a x hx').1
          exact ⟨this.1, by simpa using this.2⟩
        refine ⟨fun x => if x = k' then m else f x, fun x hx' => ?_, fun x hx' y hy he => ?_⟩
        · by_cases e : x = k'
          · subst e
            simp only [if_true]
            exact ⟨m1, k3⟩
          · simp only [if_neg e]
            rcases List.mem_cons.1 hx' with e' | hx'
            · exact absurd e' e
            · exact ⟨(hfm x hx').1, (a x hx').2⟩
        · by_cases e : x = k' <;> by_cases e2 : y = k'
          · rw [e, e2]
          · simp only [if_pos e, if_neg e2] at he
            rcases List.mem_cons.1 hy with e' | hy
            · exact absurd e' e2
            · exact absurd he.symm (hfm y hy).2
          · simp only [if_neg e, if_pos e2] at he
            rcases List.mem_cons.1 hx' with e' | hx'
            · exact absurd e' e
            · exact absurd he (hfm x hx').2
          · simp only [if_neg e, if_neg e2] at he
            rcases List.mem_cons.1 hx' with e' | hx' <;> rcases List.mem_cons.1 hy with e'' | hy
            · rw [e', e'']
            · exact absurd e' e
            · exact absurd e'' e2
            · exact b x hx' y hy he
theorem nodup_le : ∀ {A B : List Nat}, A.Nodup → (∀ x ∈ A, x ∈ B) → A.length ≤ B.length
  | [], _, _, _ => Nat.zero_le _
  | x :: A, B, h, hs => by
    obtain ⟨h1, h2⟩ := List.nodup_cons.1 h
    have h3 := nodup_le (A := A) (B := B.erase x) h2 fun y hy => (List.mem_erase_of_ne (fun e => h1 (by rw [← e]; exact hy))).2 (hs y (List.mem_cons_of_mem _ hy))
    have h4 := hs x (List.mem_cons_self ..)
    have h5 := List.length_erase_of_mem h4
    have h6 := List.length_pos_of_mem h4
    rw [List.length_cons]
    omega
end Go.Oct.Shop
