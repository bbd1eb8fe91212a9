/- Watches: the program's map of places; a watch that is valid or not. -/
import Derived.Test.YtpccnjgeddjfjaaOClockWtS
import Derived.Test.YtpccnjgeddjfjaaOClockClk
set_option maxRecDepth 100000
set_option maxHeartbeats 400000
set_option linter.unusedVariables false
set_option linter.unusedSimpArgs false
namespace Go.Oct.Clock
open Go.Oct
def kM (k d : Nat) : AV := .agg [.int .i64 k, .int .i64 d]
abbrev MEs := List (AV × AV × Nat)
def okM (es : MEs) : Prop := ∀ e ∈ es, ∃ k d : Nat, e.1 = kM k d ∧ e.2.1 = .int .i64 ((k * 20 + d : Nat) : Int)
def hasM (es : MEs) (k d : Nat) : Prop := ∃ e ∈ es, e.1 = kM k d
theorem keyEq_M (a b p q : Nat) : keyEq true [.int, .int] (kM a p) (kM b q) = some (decide (a = b ∧ p = q)) := by
  simp only [keyEq, kM, eqCells, if_true, Option.map_some]
  congr 1
  rw [Bool.eq_iff_iff]
  simp
  omega
theorem find_M {k d : Nat} : ∀ (es : MEs) (i : Nat), okM es → ∃ r, findE true [.int, .int] (kM k d) es i = some r ∧ ((r = none ∧ ¬ hasM es k d) ∨ ∃ j b, r = some (i + j, .int .i64 ((k * 20 + d : Nat) : Int), b) ∧ j < es.length)
  | [], i, _ => ⟨none, rfl, .inl ⟨rfl, fun ⟨e, he, _⟩ => by cases he⟩⟩
  | (x, v, b) :: es, i, h => by
    obtain ⟨k', d', h1, h2⟩ := h _ (List.mem_cons_self ..)
    simp only at h1 h2
    subst h1 h2
    simp only [findE, keyEq_M]
    by_cases e : k = k' ∧ d = d'
    · obtain ⟨rfl, rfl⟩ := e
      rw [decide_eq_true ⟨rfl, rfl⟩]
      exact ⟨_, rfl, .inr ⟨0, b, rfl, by simp⟩⟩
    · rw [decide_eq_false e]
      obtain ⟨r, h3, h4⟩ := find_M (k := k) (d := d) es (i + 1) fun y hy => h y (List.mem_cons_of_mem _ hy)
      refine ⟨r, h3, ?_⟩
      rcases h4 with ⟨h4, h5⟩ | ⟨j, b', h4, h5⟩
      · refine .inl ⟨h4, fun ⟨y, hy, hy2⟩ => ?_⟩
        rcases List.mem_cons.1 hy with rfl | hy
        · simp only [kM, AV.agg.injEq, List.cons.injEq, AV.int.injEq, true_and, and_true] at hy2
          exact e (by omega)
        · exact h5 ⟨y, hy, hy2⟩
      · exact .inr ⟨j + 1, b', by rw [h4]; congr 2; omega, by simpa using h5⟩
theorem set_M {k d : Nat} {v : AV} : ∀ {es : MEs} {j : Nat}, okM es → v = .int .i64 ((k * 20 + d : Nat) : Int) → j < es.length → okM (setE (kM k d) v es j) ∧ hasM (setE (kM k d) v es j) k d
  | [], j, _, _, h => by simp at h
  | (x, u, b) :: es, 0, h, hv, _ => ⟨fun e he => by
      rcases List.mem_cons.1 he with rfl | he
      · exact ⟨k, d, rfl, hv⟩
      · exact h e (List.mem_cons_of_mem _ he), ⟨_, List.mem_cons_self .., rfl⟩⟩
  | e0 :: es, j + 1, h, hv, hj => by
    obtain ⟨h1, e, h2, h3⟩ := set_M (es := es) (j := j) (fun y hy => h y (List.mem_cons_of_mem _ hy)) hv (by simpa using hj)
    refine ⟨fun y hy => ?_, e, List.mem_cons_of_mem _ h2, h3⟩
    rcases List.mem_cons.1 hy with e1 | hy
    · exact h y (e1 ▸ List.mem_cons_self ..)
    · exact h1 y hy
theorem look_M {σ : AH} {m c : Nat} {es : MEs} {k d : Nat} (hg : σ.get m = some (.map es c)) (h : okM es) (hh : hasM es k d) :
    alookup true [.int, .int] (.int .i64 0) false (.map (some m)) (kM k d) σ = some (.int .i64 ((k * 20 + d : Nat) : Int), σ) := by
  obtain ⟨r, h1, h2⟩ := find_M (k := k) (d := d) es 0 h
  have hk : keyEq true [.int, .int] (kM k d) (kM k d) = some true := by rw [keyEq_M]; simp
  rcases h2 with ⟨_, h2⟩ | ⟨j, b, rfl, _⟩
  · exact absurd hh h2
  · simp only [alookup, hg, hk, h1]
    rfl
theorem upd_M {σ : AH} {m c : Nat} {es : MEs} {k d : Nat} (hl : σ.lim ≤ m) (hg : σ.get m = some (.map es c)) (h : okM es) (hno : ¬ hasM es k d) :
    amapUpd true [.int, .int] (.map (some m)) (kM k d) (.int .i64 ((k * 20 + d : Nat) : Int)) σ = some (.undef, σ.set m (.map (es ++ [(kM k d, .int .i64 ((k * 20 + d : Nat) : Int), c)]) (c + 1))) := by
  obtain ⟨r, h1, h2⟩ := find_M (k := k) (d := d) es 0 h
  have hk : keyEq true [.int, .int] (kM k d) (kM k d) = some true := by rw [keyEq_M]; simp
  rcases h2 with ⟨rfl, _⟩ | ⟨j, b, rfl, hj⟩
  · simp only [amapUpd, hg, hk, h1, hl, if_true]
  · exfalso
    -- a key that is found is there
    have : ∀ (es : MEs) (i j : Nat) (v : AV) (b : Nat), okM es → findE true [.int, .int] (kM k d) es i = some (some (j, v, b)) → hasM es k d := by
      intro es
      induction es with
      | nil => intro i j v b _ hf; simp [findE] at hf
      | cons x es ih =>
        intro i j v b hok hf
        obtain ⟨k', d', e1, e2⟩ := hok x (List.mem_cons_self ..)
        obtain ⟨x1, x2, x3⟩ := x
        simp only at e1 e2
        subst e1
        simp only [findE, keyEq_M] at hf
        by_cases e : k = k' ∧ d = d'
        · obtain ⟨rfl, rfl⟩ := e
          exact ⟨_, List.mem_cons_self .., rfl⟩
        · rw [decide_eq_false e] at hf
          obtain ⟨y, y1, y2⟩ := ih (i + 1) j v b (fun z hz => hok z (List.mem_cons_of_mem _ hz)) hf
          exact ⟨y, List.mem_cons_of_mem _ y1, y2⟩
    exact hno (this es 0 _ _ _ h h1)
/-- The places of the first clocks and days. -/
def mapM (n : Nat) : Nat → Nat → MEs
  | 0, d => (List.range d).map fun e => (kM 0 e, .int .i64 ((0 * 20 + e : Nat) : Int), e)
  | k + 1, d => mapM n k n ++ (List.range d).map fun e => (kM (k + 1) e, .int .i64 (((k + 1) * 20 + e : Nat) : Int), (k + 1) * n + e)
theorem mapM_ok (n : Nat) : ∀ k d, okM (mapM n k d) ∧ (∀ a b, hasM (mapM n k d) a b ↔ (a < k ∧ b < n) ∨ (a = k ∧ b < d)) ∧ (mapM n k d).length = k * n + d
  | 0, d => by
    refine ⟨fun e he => ?_, fun a b => ?_, by simp [mapM]⟩
    · obtain ⟨x, _, rfl⟩ := List.mem_map.1 he
      exact ⟨0, x, rfl, rfl⟩
    · constructor
      · rintro ⟨e, he, h⟩
        obtain ⟨x, hx, rfl⟩ := List.mem_map.1 he
        simp only [kM, AV.agg.injEq, List.cons.injEq, AV.int.injEq, true_and, and_true] at h
        have := List.mem_range.1 hx
        omega
      · rintro (⟨h, _⟩ | ⟨rfl, h⟩)
        · omega
        · exact ⟨_, List.mem_map.2 ⟨b, List.mem_range.2 h, rfl⟩, rfl⟩
  | k + 1, d => by
    obtain ⟨h1, h2, h3⟩ := mapM_ok n k n
    refine ⟨fun e he => ?_, fun a b => ?_, ?_⟩
    · rcases List.mem_append.1 he with he | he
      · exact h1 e he
      · obtain ⟨x, _, rfl⟩ := List.mem_map.1 he
        exact ⟨k + 1, x, rfl, rfl⟩
    · constructor
      · rintro ⟨e, he, h⟩
        rcases List.mem_append.1 he with he | he
        · rcases (h2 a b).1 ⟨e, he, h⟩ with h4 | h4
          · exact .inl ⟨by omega, h4.2⟩
          · exact .inl ⟨by omega, h4.2⟩
        · obtain ⟨x, hx, rfl⟩ := List.mem_map.1 he
          simp only [kM, AV.agg.injEq, List.cons.injEq, AV.int.injEq, true_and, and_true] at h
          have := List.mem_range.1 hx
          omega
      · rintro (⟨ha, hb⟩ | ⟨rfl, h⟩)
        · have : (a < k ∧ b < n) ∨ (a = k ∧ b < n) := by omega
          obtain ⟨e, he, h⟩ := (h2 a b).2 this
          exact ⟨e, List.mem_append_left _ he, h⟩
        · exact ⟨_, List.mem_append_right _ (List.mem_map.2 ⟨b, List.mem_range.2 h, rfl⟩), rfl⟩
    · simp only [mapM, List.length_append, List.length_map, List.length_range, h3]
      rw [Nat.succ_mul]
theorem mapM_step (n k d : Nat) : mapM n k (d + 1) = mapM n k d ++ [(kM k d, .int .i64 ((k * 20 + d : Nat) : Int), k * n + d)] := by
  cases k with
  | zero => simp [mapM, List.range_succ]
  | succ k => simp [mapM, List.range_succ]
theorem mapM_next (n k : Nat) : mapM n (k + 1) 0 = mapM n k n := by simp [mapM]
end Go.Oct.Clock
