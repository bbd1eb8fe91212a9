/- The greatest errors, without the program: bounds that are shortened in rounds. -/
import Derived.Test.YtddkghgfbhhcdaaDoorOPlaLap
set_option maxRecDepth 100000
set_option maxHeartbeats 1000000
set_option linter.unusedVariables false
set_option linter.unusedSimpArgs false
namespace Go.Oct.Pla
open Go.Oct
/-- One error is at most another one, and some more. -/
structure Con where
  p : Nat
  q : Nat
  c : Int
def tn (T : List Int) (i : Nat) : Nat := (nth T i).toNat
/-- Is a cell that of an error? -/
def V (T : List Int) (c : Nat) : Prop := c / 9 < T.length ∧ c % 9 ≤ tn T (c / 9)
instance (T : List Int) (c : Nat) : Decidable (V T c) := by unfold V; infer_instance
/-- Errors that can be. -/
structure Feas (T : List Int) (M : Int) (K : List Con) (x : Nat → Int) : Prop where
  base : ∀ i, i < T.length → x (9 * i) = 0
  bnd : ∀ c, V T c → -M ≤ x c ∧ x c ≤ M
  con : ∀ k ∈ K, x k.p ≤ x k.q + k.c
def relax (e : List Int) (k : Con) : List Int := e.set k.p (min (nth e k.p) (nth e k.q + k.c))
def pass (K : List Con) (e : List Int) : List Int := K.foldl relax e
theorem relax_length (e : List Int) (k : Con) : (relax e k).length = e.length := by simp [relax]
theorem pass_length : ∀ (K : List Con) (e : List Int), (pass K e).length = e.length
  | [], e => rfl
  | k :: K, e => by
    have := pass_length K (relax e k)
    rw [relax_length] at this
    exact this
theorem nth_set {e : List Int} {p c : Nat} {v : Int} (hc : c < e.length) : nth (e.set p v) c = if p = c then v else nth e c := by
  rw [nth_eq (by simpa using hc), List.getElem_set, nth_eq hc]
theorem relax_nth {e : List Int} {k : Con} {c : Nat} (hc : c < e.length) : nth (relax e k) c = if k.p = c then min (nth e k.p) (nth e k.q + k.c) else nth e c := nth_set hc
theorem relax_le {e : List Int} {k : Con} {c : Nat} (hc : c < e.length) : nth (relax e k) c ≤ nth e c := by
  rw [relax_nth hc]
  split
  · rename_i h; subst h; omega
  · omega
theorem pass_le : ∀ (K : List Con) {e : List Int} {c : Nat}, c < e.length → nth (pass K e) c ≤ nth e c
  | [], e, c, hc => Int.le_refl _
  | k :: K, e, c, hc => Int.le_trans (pass_le K (e := relax e k) (by rw [relax_length]; exact hc)) (relax_le hc)
/-- Where nothing changes, all rules are kept. -/
theorem pass_fix {e : List Int} : ∀ (K : List Con), (∀ k ∈ K, k.p < e.length ∧ k.q < e.length) → pass K e = e → ∀ k ∈ K, nth e k.p ≤ nth e k.q + k.c
  | [], _, _, k, hk => by cases hk
  | k0 :: K, hin, h, k, hk => by
    have h1 : relax e k0 = e := by
      apply ext_nth (relax_length e k0)
      intro j hj
      rw [relax_length] at hj
      have a1 := relax_le (k := k0) hj
      have a2 := pass_le K (e := relax e k0) (c := j) (by rw [relax_length]; exact hj)
      have a3 : nth (pass K (relax e k0)) j = nth e j := by
        have : pass K (relax e k0) = e := h
        rw [this]
      omega
    have h2 : pass K e = e := by
      have : pass K (relax e k0) = e := h
      rw [h1] at this
      exact this
    rcases List.mem_cons.1 hk with rfl | hk
    · have := relax_nth (k := k) (c := k.p) (e := e) (hin k (List.mem_cons_self ..)).1
      rw [h1, if_pos rfl] at this
      omega
    · exact pass_fix K (fun k hk => hin k (List.mem_cons_of_mem _ hk)) h2 k hk
/-- No errors that can be are greater. -/
def Up (T : List Int) (M : Int) (K : List Con) (e : List Int) : Prop := ∀ x, Feas T M K x → ∀ c, V T c → x c ≤ nth e c
theorem relax_up {T : List Int} {M : Int} {K : List Con} {e : List Int} {k : Con} (hk : k ∈ K) (hv : V T k.q) (hl : ∀ c, V T c → c < e.length) (h : Up T M K e) : Up T M K (relax e k) := by
  intro x hx c hc
  rw [relax_nth (hl c hc)]
  split
  · rename_i e1
    subst e1
    have h1 := h x hx _ hc
    have h2 := h x hx _ hv
    have h3 := hx.con k hk
    omega
  · exact h x hx c hc
theorem pass_up {T : List Int} {M : Int} {K : List Con} : ∀ (K' : List Con) {e : List Int}, (∀ k ∈ K', k ∈ K ∧ V T k.q) → (∀ c, V T c → c < e.length) → Up T M K e → Up T M K (pass K' e)
  | [], e, _, _, h => h
  | k :: K', e, hk, hl, h => by
    have h1 := hk k (List.mem_cons_self ..)
    exact pass_up K' (e := relax e k) (fun k hk2 => hk k (List.mem_cons_of_mem _ hk2)) (by rw [relax_length]; exact hl) (relax_up h1.1 h1.2 hl h)
/-- All cells of errors but the first ones. -/
def cellsT (T : List Int) (j : Nat) : List Nat := (List.range j).flatMap fun i => (List.range (tn T i)).map fun k => 9 * i + (k + 1)
theorem cellsT_succ (T : List Int) (j : Nat) : cellsT T (j + 1) = cellsT T j ++ (List.range (tn T j)).map fun k => 9 * j + (k + 1) := by
  unfold cellsT; rw [List.range_succ, List.flatMap_append]; simp
theorem mem_cellsT {T : List Int} {j c : Nat} (h8 : ∀ i, i < j → tn T i ≤ 8) : c ∈ cellsT T j ↔ c / 9 < j ∧ 1 ≤ c % 9 ∧ c % 9 ≤ tn T (c / 9) := by
  unfold cellsT
  rw [List.mem_flatMap]
  constructor
  · rintro ⟨i, hi, h⟩
    obtain ⟨k, hk, rfl⟩ := List.mem_map.1 h
    have hi := List.mem_range.1 hi
    have hk := List.mem_range.1 hk
    have := h8 i hi
    have e1 : (9 * i + (k + 1)) / 9 = i := by omega
    have e2 : (9 * i + (k + 1)) % 9 = k + 1 := by omega
    rw [e1, e2]
    omega
  · rintro ⟨h1, h2, h3⟩
    refine ⟨c / 9, List.mem_range.2 h1, List.mem_map.2 ⟨c % 9 - 1, List.mem_range.2 (by omega), by omega⟩⟩
theorem filter_less {α : Type} (P Q : α → Bool) : ∀ (l : List α), (∀ x ∈ l, Q x = true → P x = true) → (l.filter Q).length ≤ (l.filter P).length
  | [], _ => Nat.le_refl _
  | x :: l, h => by
    have ih := filter_less P Q l fun y hy => h y (List.mem_cons_of_mem _ hy)
    have hx := h x (List.mem_cons_self ..)
    cases hq : Q x with
    | true => rw [List.filter_cons_of_pos hq, List.filter_cons_of_pos (hx hq)]; simp; exact ih
    | false =>
      rw [List.filter_cons_of_neg (by simp [hq])]
      cases hp : P x with
      | true => rw [List.filter_cons_of_pos hp]; simp; omega
      | false => rw [List.filter_cons_of_neg (by simp [hp])]; exact ih
theorem filter_fewer {α : Type} (P Q : α → Bool) : ∀ (l : List α), (∀ x ∈ l, Q x = true → P x = true) → (∃ x ∈ l, P x = true ∧ Q x = false) → (l.filter Q).length < (l.filter P).length
  | [], _, ⟨x, hx, _⟩ => by cases hx
  | x :: l, h, ⟨y, hy, hp, hq⟩ => by
    have h' : ∀ z ∈ l, Q z = true → P z = true := fun z hz => h z (List.mem_cons_of_mem _ hz)
    rcases List.mem_cons.1 hy with rfl | hy
    · rw [List.filter_cons_of_pos hp, List.filter_cons_of_neg (by simp [hq])]
      have := filter_less P Q l h'
      simp; omega
    · have ih := filter_fewer P Q l h' ⟨y, hy, hp, hq⟩
      have hx := h x (List.mem_cons_self ..)
      cases hqx : Q x with
      | true => rw [List.filter_cons_of_pos hqx, List.filter_cons_of_pos (hx hqx)]; simp; exact ih
      | false =>
        rw [List.filter_cons_of_neg (by simp [hqx])]
        cases hpx : P x with
        | true => rw [List.filter_cons_of_pos hpx]; simp; omega
        | false => rw [List.filter_cons_of_neg (by simp [hpx])]; exact ih
/-- How many errors are not as great yet as they can be. -/
def nf (T : List Int) (d : Nat → Int) (e : List Int) : Nat := ((cellsT T T.length).filter fun c => decide (nth e c ≠ d c)).length
/-- The greatest errors that can be. -/
def Great (T : List Int) (M : Int) (K : List Con) (d : Nat → Int) : Prop := Feas T M K d ∧ ∀ x, Feas T M K x → ∀ c, V T c → x c ≤ d c
structure Okay (T : List Int) (M : Int) (K : List Con) : Prop where
  len : T.length ≤ 4
  turn : ∀ i, i < T.length → 1 ≤ tn T i ∧ tn T i ≤ 8
  most : 0 ≤ M
  con : ∀ k ∈ K, V T k.p ∧ V T k.q
theorem V_lt {T : List Int} {c : Nat} (h : T.length ≤ 4) (hv : V T c) : c < 36 := by
  have := hv.1; omega
theorem V_base {T : List Int} {i : Nat} (h : i < T.length) : V T (9 * i) := by
  unfold V
  rw [show 9 * i / 9 = i by omega, show 9 * i % 9 = 0 by omega]
  exact ⟨h, Nat.zero_le _⟩
theorem V_cells {T : List Int} {M : Int} {K : List Con} (ho : Okay T M K) {c : Nat} : V T c ↔ c ∈ cellsT T T.length ∨ ∃ i, i < T.length ∧ c = 9 * i := by
  rw [mem_cellsT (fun i hi => (ho.turn i hi).2)]
  unfold V
  constructor
  · rintro ⟨h1, h2⟩
    by_cases h : c % 9 = 0
    · exact .inr ⟨c / 9, h1, by omega⟩
    · exact .inl ⟨h1, by omega, h2⟩
  · rintro (⟨h1, _, h2⟩ | ⟨i, h1, rfl⟩)
    · exact ⟨h1, h2⟩
    · rw [show 9 * i / 9 = i by omega, show 9 * i % 9 = 0 by omega]
      exact ⟨h1, Nat.zero_le _⟩
theorem sum_le {f g : Nat → Nat} : ∀ (l : List Nat), (∀ c ∈ l, f c ≤ g c) → (l.map f).sum ≤ (l.map g).sum
  | [], _ => Nat.le_refl _
  | c :: l, h => by
    have := sum_le l fun x hx => h x (List.mem_cons_of_mem _ hx)
    have := h c (List.mem_cons_self ..)
    simp only [List.map_cons, List.sum_cons]; omega
theorem sum_lt {f g : Nat → Nat} : ∀ (l : List Nat), (∀ c ∈ l, f c ≤ g c) → (∃ c ∈ l, f c < g c) → (l.map f).sum < (l.map g).sum
  | [], _, ⟨c, hc, _⟩ => by cases hc
  | c :: l, h, ⟨d, hd, hlt⟩ => by
    have h' : ∀ x ∈ l, f x ≤ g x := fun x hx => h x (List.mem_cons_of_mem _ hx)
    have hc := h c (List.mem_cons_self ..)
    simp only [List.map_cons, List.sum_cons]
    rcases List.mem_cons.1 hd with rfl | hd
    · have := sum_le l h'; omega
    · have := sum_lt l h' ⟨d, hd, hlt⟩; omega
/-- There are greatest ones, if there are any. -/
theorem great_ex {T : List Int} {M : Int} {K : List Con} (ho : Okay T M K) : ∀ (n : Nat) (x : Nat → Int), Feas T M K x → ((List.range 36).map fun c => (M - x c).toNat).sum ≤ n → ∃ d, Great T M K d := by
  intro n
  induction n with
  | zero =>
    intro x hx hs
    refine ⟨x, hx, fun y hy c hc => ?_⟩
    have h1 := (hx.bnd c hc)
    have h2 := (hy.bnd c hc)
    by_cases h : M - x c = 0
    · omega
    · have : ((List.range 36).map fun _ => 0).sum < ((List.range 36).map fun c => (M - x c).toNat).sum :=
        sum_lt (f := fun _ => 0) _ (fun c _ => Nat.zero_le _) ⟨c, List.mem_range.2 (V_lt ho.len hc), by omega⟩
      omega
  | succ n ih =>
    intro x hx hs
    by_cases hg : ∀ y, Feas T M K y → ∀ c, V T c → y c ≤ x c
    · exact ⟨x, hx, hg⟩
    · have ⟨y, hy⟩ := Classical.not_forall.1 hg
      have ⟨hy1, hy2⟩ := Classical.not_imp.1 hy
      have ⟨c0, hc0⟩ := Classical.not_forall.1 hy2
      have ⟨hv0, hlt⟩ := Classical.not_imp.1 hc0
      refine ih (fun c => max (x c) (if V T c then y c else x c)) ⟨fun i hi => ?_, fun c hc => ?_, fun k hk => ?_⟩ ?_
      · have h1 := hx.base i hi
        have h2 := hy1.base i hi
        simp only [h1, h2, if_pos (V_base hi)]
        omega
      · have h1 := hx.bnd c hc
        have h2 := hy1.bnd c hc
        simp only [if_pos hc]
        omega
      · obtain ⟨v1, v2⟩ := ho.con k hk
        have h1 := hx.con k hk
        have h2 := hy1.con k hk
        simp only [if_pos v1, if_pos v2]
        omega
      · have : ((List.range 36).map fun c => (M - max (x c) (if V T c then y c else x c)).toNat).sum < ((List.range 36).map fun c => (M - x c).toNat).sum := by
          refine sum_lt _ (fun c _ => by omega) ⟨c0, List.mem_range.2 (V_lt ho.len hv0), ?_⟩
          have h2 := (hy1.bnd c0 hv0)
          simp only [if_pos hv0]
          omega
        omega
theorem pass_hit : ∀ (K' : List Con) {e : List Int} {k : Con}, (∀ k ∈ K', k.p < e.length ∧ k.q < e.length) → k ∈ K' → nth (pass K' e) k.p ≤ nth e k.q + k.c
  | [], e, k, _, hk => by cases hk
  | k0 :: K', e, k, hin, hk => by
    have hin' : ∀ k ∈ K', k.p < (relax e k0).length ∧ k.q < (relax e k0).length := fun k hk => by rw [relax_length]; exact hin k (List.mem_cons_of_mem _ hk)
    rcases List.mem_cons.1 hk with rfl | hk
    · have h1 := pass_le K' (e := relax e k) (c := k.p) (by rw [relax_length]; exact (hin k (List.mem_cons_self ..)).1)
      have h2 := relax_nth (k := k) (c := k.p) (e := e) (hin k (List.mem_cons_self ..)).1
      rw [if_pos rfl] at h2
      have h3 : nth (pass (k :: K') e) k.p = nth (pass K' (relax e k)) k.p := rfl
      omega
    · have h1 := pass_hit K' hin' hk
      have h2 := relax_le (k := k0) (e := e) (hin k (List.mem_cons_of_mem _ hk)).2
      have h3 : nth (pass (k0 :: K') e) k.p = nth (pass K' (relax e k0)) k.p := rfl
      omega
/-- A round leaves fewer that are not yet as great as they can be. -/
theorem pass_nf {T : List Int} {M : Int} {K : List Con} (ho : Okay T M K) {d : Nat → Int} (hd : Great T M K d) {e : List Int} (hl : e.length = 36) (hu : Up T M K e) (hb : ∀ c, V T c → nth e c ≤ M) (h0 : ∀ i, i < T.length → nth e (9 * i) ≤ 0) (hn : 0 < nf T d e) : nf T d (pass K e) < nf T d e := by
  have hlt : ∀ c, V T c → c < e.length := fun c hc => by rw [hl]; exact V_lt ho.len hc
  have hin : ∀ k ∈ K, k.p < e.length ∧ k.q < e.length := fun k hk => ⟨hlt _ (ho.con k hk).1, hlt _ (ho.con k hk).2⟩
  have hup := pass_up (K := K) K (e := e) (fun k hk => ⟨hk, (ho.con k hk).2⟩) hlt hu
  have hbase : ∀ i, i < T.length → nth e (9 * i) = d (9 * i) := fun i hi => by
    have h1 := h0 i hi
    have h2 := hu d hd.1 _ (V_base hi)
    have h3 := hd.1.base i hi
    omega
  obtain ⟨u, hu1, hu2⟩ : ∃ u, u ∈ cellsT T T.length ∧ nth e u ≠ d u := by
    unfold nf at hn
    obtain ⟨u, hu⟩ := List.exists_mem_of_length_pos hn
    have := List.mem_filter.1 hu
    exact ⟨u, this.1, by simpa using this.2⟩
  have huV : V T u := (V_cells ho).2 (.inl hu1)
  obtain ⟨k, hk, k1, k2, k3⟩ : ∃ k ∈ K, nth e k.p ≠ d k.p ∧ nth e k.q = d k.q ∧ d k.p = d k.q + k.c := by
    refine Classical.byContradiction fun hno => ?_
    have hf : Feas T M K (fun c => if V T c ∧ nth e c ≠ d c then d c + 1 else d c) := by
      refine ⟨fun i hi => ?_, fun c hc => ?_, fun k hk => ?_⟩
      · show (if _ then _ else _) = (0 : Int)
        rw [if_neg (fun h => h.2 (hbase i hi))]
        exact hd.1.base i hi
      · have h1 := hd.1.bnd c hc
        split
        · rename_i h
          have h2 := hu d hd.1 c hc
          have h3 := hb c hc
          have h4 := h.2
          omega
        · exact h1
      · obtain ⟨v1, v2⟩ := ho.con k hk
        have h1 := hd.1.con k hk
        by_cases hp : nth e k.p = d k.p
        · rw [if_neg (fun h => h.2 hp)]
          split <;> omega
        · rw [if_pos ⟨v1, hp⟩]
          by_cases hq : nth e k.q = d k.q
          · rw [if_neg (fun h => h.2 hq)]
            have : d k.p ≠ d k.q + k.c := fun h => hno ⟨k, hk, hp, hq, h⟩
            omega
          · rw [if_pos ⟨v2, hq⟩]; omega
    have := hd.2 _ hf u huV
    rw [if_pos ⟨huV, hu2⟩] at this
    omega
  obtain ⟨v1, v2⟩ := ho.con k hk
  unfold nf
  refine filter_fewer _ _ _ (fun c hc h => ?_) ⟨k.p, ?_, by simpa using k1, ?_⟩
  · have hcV : V T c := (V_cells ho).2 (.inl hc)
    simp only [decide_eq_true_eq] at h ⊢
    intro h1
    have a1 := pass_le K (hlt c hcV)
    have a2 := hup d hd.1 c hcV
    omega
  · rcases (V_cells ho).1 v1 with h | ⟨i, hi, h⟩
    · exact h
    · rw [h] at k1; exact absurd (hbase i hi) k1
  · have a1 := pass_hit K hin hk
    have a2 := hup d hd.1 _ v1
    simp only [decide_eq_false_iff_not, Classical.not_not]
    omega
theorem relax_same {e : List Int} {k : Con} (hp : k.p < e.length) (h : nth e k.p ≤ nth e k.q + k.c) : relax e k = e := by
  apply ext_nth (relax_length e k)
  intro c hc
  rw [relax_length] at hc
  rw [relax_nth hc]
  split
  · rename_i h2; subst h2; omega
  · rfl
theorem pass_same : ∀ (K : List Con) {e : List Int}, (∀ k ∈ K, k.p < e.length ∧ nth e k.p ≤ nth e k.q + k.c) → pass K e = e
  | [], e, _ => rfl
  | k :: K, e, h => by
    have h1 := h k (List.mem_cons_self ..)
    have : pass (k :: K) e = pass K (relax e k) := rfl
    rw [this, relax_same h1.1 h1.2]
    exact pass_same K fun k hk => h k (List.mem_cons_of_mem _ hk)
theorem pass_other : ∀ (K : List Con) {e : List Int} {c : Nat}, c < e.length → (∀ k ∈ K, k.p ≠ c) → nth (pass K e) c = nth e c
  | [], e, c, _, _ => rfl
  | k :: K, e, c, hc, h => by
    have : pass (k :: K) e = pass K (relax e k) := rfl
    rw [this, pass_other K (by rw [relax_length]; exact hc) (fun k hk => h k (List.mem_cons_of_mem _ hk)), relax_nth hc, if_neg (h k (List.mem_cons_self ..))]
/-- Where all are as great as can be, nothing changes. -/
theorem pass_done {T : List Int} {M : Int} {K : List Con} (ho : Okay T M K) {d : Nat → Int} (hd : Great T M K d) {e : List Int} (hl : e.length = 36) (hu : Up T M K e) (h0 : ∀ i, i < T.length → nth e (9 * i) ≤ 0) (hn : nf T d e = 0) : pass K e = e := by
  have hc : ∀ c, V T c → nth e c = d c := fun c hc => by
    rcases (V_cells ho).1 hc with h | ⟨i, hi, rfl⟩
    · refine Classical.byContradiction fun hne => ?_
      have : c ∈ (cellsT T T.length).filter fun c => decide (nth e c ≠ d c) := List.mem_filter.2 ⟨h, by simpa using hne⟩
      have := List.length_pos_of_mem this
      unfold nf at hn
      omega
    · have h1 := h0 i hi
      have h2 := hu d hd.1 _ (V_base hi)
      have h3 := hd.1.base i hi
      omega
  refine pass_same K fun k hk => ?_
  obtain ⟨v1, v2⟩ := ho.con k hk
  rw [hc _ v1, hc _ v2]
  exact ⟨by rw [hl]; exact V_lt ho.len v1, hd.1.con k hk⟩
end Go.Oct.Pla
