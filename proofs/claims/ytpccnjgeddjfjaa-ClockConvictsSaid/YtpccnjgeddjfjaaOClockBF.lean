/- Bounds on differences, plain: as many rounds as there are numbers, and one more, tell whether all can be kept. -/
import Derived.Test.YtpccnjgeddjfjaaOT3
set_option maxRecDepth 100000
set_option maxHeartbeats 1000000
set_option linter.unusedVariables false
set_option linter.unusedSimpArgs false
namespace Go.Oct.Clock
open Go.Oct
/-- One number is at most another one, and some more. -/
structure Cn where
  to : Nat
  fr : Nat
  more : Int
  deriving Inhabited, DecidableEq
def sat (C : List Cn) (y : Nat → Int) : Prop := ∀ c ∈ C, y c.to ≤ y c.fr + c.more
def rel (b : Nat → Int) (c : Cn) : Nat → Int := fun v => if v = c.to then min (b c.to) (b c.fr + c.more) else b v
def round (C : List Cn) (b : Nat → Int) : Nat → Int := C.foldl rel b
def bk (C : List Cn) : Nat → Nat → Int
  | 0 => fun _ => 0
  | k + 1 => round C (bk C k)
theorem rel_le (b : Nat → Int) (c : Cn) (v : Nat) : rel b c v ≤ b v := by
  unfold rel
  split
  · rename_i e; subst e; omega
  · exact Int.le_refl _
theorem round_cons (c : Cn) (C : List Cn) (b : Nat → Int) : round (c :: C) b = round C (rel b c) := rfl
theorem round_app (A C : List Cn) (b : Nat → Int) : round (A ++ C) b = round C (round A b) := List.foldl_append
theorem round_le : ∀ (C : List Cn) (b : Nat → Int) (v : Nat), round C b v ≤ b v
  | [], b, v => Int.le_refl _
  | c :: C, b, v => by
    rw [round_cons]
    exact Int.le_trans (round_le C _ v) (rel_le b c v)
theorem rel_ge {c : Cn} {D b : Nat → Int} (h : D c.to ≤ D c.fr + c.more) (hb : ∀ v, D v ≤ b v) (v : Nat) : D v ≤ rel b c v := by
  unfold rel
  split
  · rename_i e
    have := hb c.to
    have := hb c.fr
    rw [e]
    omega
  · exact hb v
theorem round_ge : ∀ {C : List Cn} {D b : Nat → Int}, sat C D → (∀ v, D v ≤ b v) → ∀ v, D v ≤ round C b v
  | [], _, _, _, hb, v => hb v
  | c :: C, D, b, h, hb, v => by
    rw [round_cons]
    exact round_ge (fun x hx => h x (List.mem_cons_of_mem _ hx)) (rel_ge (h c (List.mem_cons_self ..)) hb) v
theorem round_fix : ∀ {C : List Cn} {b : Nat → Int}, (∀ v, round C b v = b v) → sat C b
  | [], _, _ => fun c hc => by cases hc
  | c :: C, b, h => by
    have hr : rel b c = b := by
      funext v
      have h1 := h v
      rw [round_cons] at h1
      have h2 := round_le C (rel b c) v
      have h3 := rel_le b c v
      omega
    intro x hx
    rcases List.mem_cons.1 hx with rfl | hx
    · have h1 := congrFun hr x.to
      unfold rel at h1
      rw [if_pos rfl] at h1
      omega
    · refine round_fix (C := C) (b := b) (fun v => ?_) x hx
      have h1 := h v
      rw [round_cons, hr] at h1
      exact h1
theorem round_tight {C : List Cn} {D b : Nat → Int} (h : sat C D) (hb : ∀ v, D v ≤ b v) {c : Cn} (hc : c ∈ C) (hf : b c.fr = D c.fr) (ht : D c.to = D c.fr + c.more) : round C b c.to = D c.to := by
  obtain ⟨A, B, rfl⟩ := List.append_of_mem hc
  have hA : sat A D := fun x hx => h x (List.mem_append_left _ hx)
  have hB : sat (c :: B) D := fun x hx => h x (List.mem_append_right _ hx)
  have g1 := round_ge hA hb
  have h1 : round A b c.fr = D c.fr := by
    have := round_le A b c.fr
    have := g1 c.fr
    omega
  have g2 := round_ge (C := c :: B) hB g1 c.to
  have g3 : round (c :: B) (round A b) c.to ≤ D c.to := by
    rw [round_cons]
    refine Int.le_trans (round_le B _ _) ?_
    unfold rel
    rw [if_pos rfl]
    omega
  rw [round_app]
  omega
theorem round_final {C : List Cn} {D b : Nat → Int} (h : sat C D) (hb : ∀ v, D v ≤ b v) {v : Nat} (hv : b v = D v) : round C b v = D v := by
  have := round_le C b v
  have := round_ge h hb v
  omega
/-- How many numbers have come to rest. -/
def fin (V : Nat) (D b : Nat → Int) : Nat := (List.range V).countP fun v => b v == D v
theorem cnt_lt {p q : Nat → Bool} {v : Nat} : ∀ {l : List Nat}, (∀ x ∈ l, p x = true → q x = true) → v ∈ l → p v = false → q v = true → l.countP p + 1 ≤ l.countP q
  | [], _, h, _, _ => by cases h
  | x :: l, hpq, hv, h1, h2 => by
    have mono : l.countP p ≤ l.countP q := List.countP_mono_left fun y hy => hpq y (List.mem_cons_of_mem _ hy)
    simp only [List.countP_cons]
    rcases List.mem_cons.1 hv with rfl | hv
    · rw [h1, h2]; simp; omega
    · have ih := cnt_lt (l := l) (fun y hy => hpq y (List.mem_cons_of_mem _ hy)) hv h1 h2
      have h3 := hpq x (List.mem_cons_self ..)
      cases hp : p x
      · simp only [Bool.false_eq_true, if_false]; split <;> omega
      · rw [h3 hp]; simp; omega
def cost (V : Nat) (y : Nat → Int) : Nat := ((List.range V).map fun v => (-y v).toNat).sum
theorem cost_le {y z : Nat → Int} : ∀ {l : List Nat}, (∀ v ∈ l, y v ≤ z v) → (l.map fun v => (-z v).toNat).sum ≤ (l.map fun v => (-y v).toNat).sum
  | [], _ => Nat.le_refl _
  | x :: l, h => by
    have h1 := cost_le (l := l) fun v hv => h v (List.mem_cons_of_mem _ hv)
    have h2 := h x (List.mem_cons_self ..)
    simp only [List.map_cons, List.sum_cons]
    omega
theorem cost_lt {y z : Nat → Int} {v : Nat} : ∀ {l : List Nat}, (∀ x ∈ l, y x ≤ z x) → v ∈ l → y v < z v → z v ≤ 0 → (l.map fun v => (-z v).toNat).sum < (l.map fun v => (-y v).toNat).sum
  | [], _, h, _, _ => by cases h
  | x :: l, h, hv, h1, h2 => by
    simp only [List.map_cons, List.sum_cons]
    rcases List.mem_cons.1 hv with rfl | hv
    · have := cost_le (l := l) fun v hv => h v (List.mem_cons_of_mem _ hv)
      omega
    · have := cost_lt (l := l) (fun y hy => h y (List.mem_cons_of_mem _ hy)) hv h1 h2
      have := h x (List.mem_cons_self ..)
      omega
theorem least_ex {P : Nat → Prop} : ∀ n, P n → ∃ m, P m ∧ ∀ i, i < m → ¬ P i := by
  intro n
  induction n using Nat.strongRecOn with
  | ind n ih =>
    intro h
    by_cases hx : ∃ i, i < n ∧ P i
    · obtain ⟨i, h1, h2⟩ := hx
      exact ih i h1 h2
    · exact ⟨n, h, fun i hi hp => hx ⟨i, hi, hp⟩⟩
/-- A solution of none above 0 that can't be raised. -/
theorem top_ex {C : List Cn} {V : Nat} (hC : ∀ c ∈ C, c.to < V ∧ c.fr < V) {x : Nat → Int} (hx : sat C x) : ∃ D : Nat → Int, sat C D ∧ (∀ v, D v ≤ 0) ∧ ∀ y : Nat → Int, sat C y → (∀ v, y v ≤ 0) → cost V D ≤ cost V y := by
  obtain ⟨m, hm⟩ : ∃ m : Int, ∀ v, v < V → x v ≤ m := by
    clear hC
    induction V with
    | zero => exact ⟨0, fun v hv => by omega⟩
    | succ V ih =>
      obtain ⟨m, hm⟩ := ih
      refine ⟨max m (x V), fun v hv => ?_⟩
      by_cases e : v = V
      · subst e; omega
      · have := hm v (by omega); omega
  have h0 : ∃ n, ∃ y : Nat → Int, sat C y ∧ (∀ v, y v ≤ 0) ∧ cost V y = n := by
    refine ⟨_, fun v => if v < V then x v - m else 0, fun c hc => ?_, fun v => ?_, rfl⟩
    · obtain ⟨h1, h2⟩ := hC c hc
      simp only [if_pos h1, if_pos h2]
      have := hx c hc
      omega
    · show (if v < V then x v - m else 0) ≤ 0
      split
      · rename_i h; have := hm v h; omega
      · omega
  obtain ⟨n, hn⟩ := h0
  obtain ⟨k, ⟨D, d1, d2, d3⟩, hk⟩ := least_ex (P := fun n => ∃ y : Nat → Int, sat C y ∧ (∀ v, y v ≤ 0) ∧ cost V y = n) n hn
  refine ⟨D, d1, d2, fun y y1 y2 => ?_⟩
  apply Classical.byContradiction
  intro hc
  exact hk (cost V y) (by omega) ⟨y, y1, y2, rfl⟩
theorem fin_step {C : List Cn} {V : Nat} (hC : ∀ c ∈ C, c.to < V ∧ c.fr < V) {D b : Nat → Int} (h1 : sat C D) (h2 : ∀ v, D v ≤ 0) (h3 : ∀ y : Nat → Int, sat C y → (∀ v, y v ≤ 0) → cost V D ≤ cost V y) (hb : ∀ v, D v ≤ b v) (hb0 : ∀ v, b v ≤ 0) (hf : fin V D b < V) : fin V D b + 1 ≤ fin V D (round C b) := by
  have hkeep : ∀ v ∈ List.range V, (b v == D v) = true → (round C b v == D v) = true := fun v _ hv => by
    have hv' : b v = D v := by simpa using hv
    simp [round_final h1 hb hv']
  by_cases hx : ∃ c ∈ C, b c.fr = D c.fr ∧ b c.to ≠ D c.to ∧ D c.to = D c.fr + c.more
  · obtain ⟨c, c1, c2, c3, c4⟩ := hx
    have ht := round_tight h1 hb c1 c2 c4
    exact cnt_lt hkeep (List.mem_range.2 (hC c c1).1) (by simpa using c3) (by simpa using ht)
  · exfalso
    -- all that are not at rest can be raised
    have hex : ∃ v, v < V ∧ b v ≠ D v := by
      apply Classical.byContradiction
      intro hc
      have hall : fin V D b = V := by
        unfold fin
        have : (List.range V).countP (fun v => b v == D v) = (List.range V).length := List.countP_eq_length.2 fun v hv => by
          have := List.mem_range.1 hv
          simp only [beq_iff_eq]
          exact Classical.byContradiction fun e => hc ⟨v, this, e⟩
        rw [this, List.length_range]
      omega
    obtain ⟨v, hv1, hv2⟩ := hex
    have hlow : ∀ u, b u ≠ D u → D u + 1 ≤ 0 := fun u hu => by
      have := hb u
      have := hb0 u
      omega
    have hy : sat C fun u => if b u = D u then D u else D u + 1 := fun c hc => by
      have h4 := h1 c hc
      show (if b c.to = D c.to then D c.to else D c.to + 1) ≤ (if b c.fr = D c.fr then D c.fr else D c.fr + 1) + c.more
      by_cases e1 : b c.to = D c.to <;> by_cases e2 : b c.fr = D c.fr
      · rw [if_pos e1, if_pos e2]; exact h4
      · rw [if_pos e1, if_neg e2]; omega
      · rw [if_neg e1, if_pos e2]
        have : D c.to ≠ D c.fr + c.more := fun e => hx ⟨c, hc, e2, e1, e⟩
        omega
      · rw [if_neg e1, if_neg e2]; omega
    have hle : ∀ u, (fun u => if b u = D u then D u else D u + 1) u ≤ 0 := fun u => by
      show (if b u = D u then D u else D u + 1) ≤ 0
      split
      · exact h2 u
      · rename_i e; exact hlow u e
    have hc := h3 _ hy hle
    have : cost V (fun u => if b u = D u then D u else D u + 1) < cost V D := by
      unfold cost
      refine cost_lt (v := v) (fun u _ => ?_) (List.mem_range.2 hv1) ?_ (hle v)
      · show D u ≤ if b u = D u then D u else D u + 1
        split <;> omega
      · show D v < if b v = D v then D v else D v + 1
        rw [if_neg hv2]; omega
    omega
theorem bk_bd (C : List Cn) : ∀ k v, bk C k v ≤ 0
  | 0, v => Int.le_refl _
  | k + 1, v => Int.le_trans (round_le C _ v) (bk_bd C k v)
theorem bk_ge {C : List Cn} {D : Nat → Int} (h : sat C D) (h2 : ∀ v, D v ≤ 0) : ∀ k v, D v ≤ bk C k v
  | 0, v => h2 v
  | k + 1, v => round_ge h (bk_ge h h2 k) v
theorem bk_fin {C : List Cn} {V : Nat} (hC : ∀ c ∈ C, c.to < V ∧ c.fr < V) {D : Nat → Int} (h1 : sat C D) (h2 : ∀ v, D v ≤ 0) (h3 : ∀ y : Nat → Int, sat C y → (∀ v, y v ≤ 0) → cost V D ≤ cost V y) : ∀ k, min V k ≤ fin V D (bk C k)
  | 0 => by omega
  | k + 1 => by
    have ih := bk_fin hC h1 h2 h3 k
    by_cases hf : fin V D (bk C k) < V
    · have := fin_step hC h1 h2 h3 (bk_ge h1 h2 k) (bk_bd C k) hf
      show min V (k + 1) ≤ fin V D (round C (bk C k))
      omega
    · have hkeep : fin V D (bk C k) ≤ fin V D (bk C (k + 1)) := List.countP_mono_left fun v _ hv => by
        have hv' : bk C k v = D v := by simpa using hv
        have := round_final (C := C) h1 (bk_ge h1 h2 k) hv'
        show (round C (bk C k) v == D v) = true
        simp [this]
      omega
theorem round_out {C : List Cn} {V : Nat} (hC : ∀ c ∈ C, c.to < V ∧ c.fr < V) {v : Nat} (hv : V ≤ v) : ∀ b : Nat → Int, round C b v = b v := by
  induction C with
  | nil => intro b; rfl
  | cons c C ih =>
    intro b
    rw [round_cons, ih fun x hx => hC x (List.mem_cons_of_mem _ hx)]
    have := (hC c (List.mem_cons_self ..)).1
    unfold rel
    rw [if_neg (by omega)]
/-- All can be kept if and only if a round changes nothing. -/
theorem rest_iff {C : List Cn} {V : Nat} (hC : ∀ c ∈ C, c.to < V ∧ c.fr < V) : (∃ y, sat C y) ↔ ∃ r, r ≤ V ∧ ∀ v, bk C (r + 1) v = bk C r v := by
  constructor
  · rintro ⟨x, hx⟩
    obtain ⟨D, h1, h2, h3⟩ := top_ex hC hx
    have hf := bk_fin hC h1 h2 h3 V
    have hall : ∀ v, v < V → bk C V v = D v := by
      have hle : fin V D (bk C V) ≤ (List.range V).length := List.countP_le_length
      rw [List.length_range] at hle
      have heq : (List.range V).countP (fun v => bk C V v == D v) = (List.range V).length := by
        unfold fin at hf hle
        rw [List.length_range]
        omega
      intro v hv
      have := List.countP_eq_length.1 heq v (List.mem_range.2 hv)
      simpa using this
    refine ⟨V, Nat.le_refl _, fun v => ?_⟩
    show round C (bk C V) v = bk C V v
    by_cases hv : v < V
    · rw [round_final h1 (bk_ge h1 h2 V) (hall v hv), hall v hv]
    · exact round_out hC (by omega) _
  · rintro ⟨r, _, hr⟩
    exact ⟨bk C r, round_fix hr⟩
end Go.Oct.Clock
