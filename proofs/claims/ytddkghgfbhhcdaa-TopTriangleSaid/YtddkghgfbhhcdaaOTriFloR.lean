/- Nets: what is reached, plain. -/
import Derived.Test.YtddkghgfbhhcdaaOTriFloS
set_option maxRecDepth 100000
set_option maxHeartbeats 1000000
set_option linter.unusedVariables false
set_option linter.unusedSimpArgs false
namespace Go.Oct.Tri
open Go.Oct
/-- How many are there? -/
def cnt (R : List Bool) : Nat := R.count true
theorem cnt_lt : ∀ {W R : List Bool}, W.length = R.length → (∀ q, q < W.length → nth W q = true → nth R q = true) → W ≠ R → cnt W < cnt R
  | [], [], _, _, h => absurd rfl h
  | [], _ :: _, h, _, _ => by simp at h
  | _ :: _, [], h, _, _ => by simp at h
  | a :: W, b :: R, h1, h2, h3 => by
    have h0 := h2 0 (by simp)
    simp only [nth_zero] at h0
    have hs : ∀ q, q < W.length → nth W q = true → nth R q = true := fun q hq => by simpa using h2 (q + 1) (by simpa using hq)
    have hl : W.length = R.length := by simpa using h1
    have le : ∀ {W R : List Bool}, W.length = R.length → (∀ q, q < W.length → nth W q = true → nth R q = true) → cnt W ≤ cnt R := fun {W R} => by
      intro h1 h2
      by_cases e : W = R
      · rw [e]; exact Nat.le_refl _
      · induction W generalizing R with
        | nil => cases R <;> simp at h1 e
        | cons a W ih =>
          cases R with
          | nil => simp at h1
          | cons b R =>
            have h0 := h2 0 (by simp)
            simp only [nth_zero] at h0
            have hs : ∀ q, q < W.length → nth W q = true → nth R q = true := fun q hq => by simpa using h2 (q + 1) (by simpa using hq)
            have hl : W.length = R.length := by simpa using h1
            have : cnt W ≤ cnt R := by
              by_cases e2 : W = R
              · rw [e2]; exact Nat.le_refl _
              · exact ih hl hs e2
            unfold cnt at *
            cases a <;> cases b <;> simp at h0 ⊢ <;> omega
    have h4 := le hl hs
    unfold cnt at *
    cases a <;> cases b <;> simp at h0 h3 ⊢
    · have := cnt_lt hl hs h3; unfold cnt at this; omega
    · omega
    · have := cnt_lt hl hs h3; unfold cnt at this; omega
section
variable (E : List Ed) (h : List Int) (b : Int) (S : List Bool)
/-- Between two rounds: what is reached, and how far it is. -/
structure RInv (d : Int) (R : List Bool) (F : List Int) : Prop where
  rl : R.length = 17
  fl : F.length = 17
  src : ∀ q, q < 17 → nth S q = true → nth R q = true ∧ nth F q = 0
  path : ∀ q, q < 17 → nth R q = true → nth S q = true ∨ ∃ p i w, p < 17 ∧ nth R p = true ∧ Stp E h b p q i w ∧ nth F q = nth F p + 1
  far : ∀ q, q < 17 → nth R q = true → 0 ≤ nth F q ∧ nth F q < d
  done : ∀ p, p < 17 → nth R p = true → nth F p < d - 1 → ∀ q i w, Stp E h b p q i w → nth R q = true
  lo : 1 ≤ d
  hi : d ≤ cnt R + 1
  zr : ∀ q, q < 17 → nth R q = false → nth F q = 0
/-- Within a round: all steps from places before j are taken, and of j those along angles before m. -/
structure RMid (d : Int) (W : List Bool) (F0 : List Int) (j m : Nat) (R : List Bool) (F : List Int) : Prop where
  rl : R.length = 17
  fl : F.length = 17
  old : ∀ q, q < 17 → nth W q = true → nth R q = true ∧ nth F q = nth F0 q
  new : ∀ q, q < 17 → nth R q = true → nth W q = true ∨ nth F q = d ∧ ∃ p i w, p < 17 ∧ nth W p = true ∧ Stp E h b p q i w ∧ nth F0 p = d - 1
  done : ∀ p, p < 17 → nth W p = true → ∀ q i w, (p < j ∨ p = j ∧ i < m) → Stp E h b p q i w → nth R q = true
  zr : ∀ q, q < 17 → nth R q = false → nth F q = 0
end
section
variable {E : List Ed} {h : List Int} {b : Int} {S : List Bool}
theorem stp_lt {E : List Ed} (hE : okE E) {h : List Int} {b : Int} {p q i : Nat} {w : Int} (hs : Stp E h b p q i w) : p < 17 ∧ q < 17 := by
  obtain ⟨h1, h2, h3, h4⟩ := hs
  have := hE.2 i h1
  rcases h4 with ⟨rfl, rfl, _⟩ | ⟨rfl, rfl, _⟩ <;> omega
def zF : List Int := List.replicate 17 0
theorem zF_len : zF.length = 17 := by simp [zF]
theorem rinv_start (h1 : S.length = 17) : RInv E h b S 1 S zF := by
  unfold zF
  have hz : ∀ q, nth (List.replicate 17 (0 : Int)) q = 0 := fun q => by
    unfold nth
    rw [List.getD_eq_getElem?_getD, List.getElem?_replicate]
    split <;> rfl
  exact ⟨h1, by simp, fun q hq hs => ⟨hs, hz q⟩, fun q hq hs => .inl hs, fun q hq hs => by rw [hz]; omega, fun p hp hs hf => by rw [hz] at hf; omega, by omega, by omega, fun q _ _ => hz q⟩
theorem rmid_start {d : Int} {R : List Bool} {F : List Int} (hr : RInv E h b S d R F) : RMid E h b d R F 0 0 R F :=
  ⟨hr.rl, hr.fl, fun q _ h => ⟨h, rfl⟩, fun q _ h => .inl h, fun p _ _ q i w h => by omega, hr.zr⟩
theorem rmid_skip {d : Int} {W R : List Bool} {F0 F : List Int} {j : Nat} (hm : RMid E h b d W F0 j 0 R F) (hj : nth W j = false) : RMid E h b d W F0 (j + 1) 0 R F :=
  ⟨hm.rl, hm.fl, hm.old, hm.new, fun p hp hw q i w hh hs => by
    rcases hh with h1 | h1
    · by_cases e : p = j
      · subst e; rw [hj] at hw; cases hw
      · exact hm.done p hp hw q i w (.inl (by omega)) hs
    · omega, hm.zr⟩
theorem rmid_next {d : Int} {W R : List Bool} {F0 F : List Int} {j : Nat} (hm : RMid E h b d W F0 j E.length R F) : RMid E h b d W F0 (j + 1) 0 R F :=
  ⟨hm.rl, hm.fl, hm.old, hm.new, fun p hp hw q i w hh hs => by
    rcases hh with h1 | h1
    · by_cases e : p = j
      · exact hm.done p hp hw q i w (.inr ⟨e, hs.1⟩) hs
      · exact hm.done p hp hw q i w (.inl (by omega)) hs
    · omega, hm.zr⟩
theorem rmid_none {d : Int} {W R : List Bool} {F0 F : List Int} {j m : Nat} (hm : RMid E h b d W F0 j m R F) (hn : ∀ q w, ¬ Stp E h b j q m w) : RMid E h b d W F0 j (m + 1) R F :=
  ⟨hm.rl, hm.fl, hm.old, hm.new, fun p hp hw q i w hh hs => by
    by_cases e : p = j ∧ i = m
    · obtain ⟨rfl, rfl⟩ := e; exact absurd hs (hn q w)
    · exact hm.done p hp hw q i w (by omega) hs, hm.zr⟩
theorem stp_same {E : List Ed} {h : List Int} {b : Int} {p q q' i : Nat} {w w' : Int} (hE : okE E) (h1 : Stp E h b p q i w) (h2 : Stp E h b p q' i w') : q = q' ∧ w = w' := by
  obtain ⟨a1, a2, a3, a4⟩ := h1
  obtain ⟨b1, b2, b3, b4⟩ := h2
  have := hE.2 i a1
  rcases a4 with ⟨c1, c2, c3⟩ | ⟨c1, c2, c3⟩ <;> rcases b4 with ⟨d1, d2, d3⟩ | ⟨d1, d2, d3⟩ <;> omega
theorem rmid_old {d : Int} {W R : List Bool} {F0 F : List Int} {j m q : Nat} {w : Int} (hE : okE E) (hm : RMid E h b d W F0 j m R F) (hs : Stp E h b j q m w) (hq : nth R q = true) : RMid E h b d W F0 j (m + 1) R F :=
  ⟨hm.rl, hm.fl, hm.old, hm.new, fun p hp hw q' i w' hh hs' => by
    by_cases e : p = j ∧ i = m
    · obtain ⟨rfl, rfl⟩ := e
      rw [(stp_same hE hs' hs).1]; exact hq
    · exact hm.done p hp hw q' i w' (by omega) hs', hm.zr⟩
theorem nth_set {α : Type} [Inhabited α] {xs : List α} {i j : Nat} {y : α} (hi : i < xs.length) : nth (xs.set i y) j = if j = i then y else nth xs j := by
  unfold nth
  simp only [List.getD_eq_getElem?_getD, List.getElem?_set]
  by_cases e : i = j
  · subst e; simp [hi]
  · have : ¬ j = i := fun h => e h.symm
    simp [e, this]
theorem rmid_new {d : Int} {W R : List Bool} {F0 F : List Int} {j m q : Nat} {w : Int} (hE : okE E) (hr : RInv E h b S d W F0) (hm : RMid E h b d W F0 j m R F) (hj : nth W j = true) (hs : Stp E h b j q m w) (hq : nth R q = false) :
    RMid E h b d W F0 j (m + 1) (R.set q true) (F.set q d) := by
  obtain ⟨j17, q17⟩ := stp_lt hE hs
  have hRq : q < R.length := by rw [hm.rl]; exact q17
  have hFq : q < F.length := by rw [hm.fl]; exact q17
  have hF : nth F0 j = d - 1 := by
    have h1 := hr.far j j17 hj
    by_cases h2 : nth F0 j < d - 1
    · have h3 := hr.done j j17 hj h2 q m w hs
      have := (hm.old q q17 h3).1
      rw [this] at hq; cases hq
    · omega
  refine ⟨by simp [hm.rl], by simp [hm.fl], fun p hp hw => ?_, fun p hp hw => ?_, fun p hp hw q' i w' hh hs' => ?_, fun p hp hw => ?_⟩
  · have h1 := hm.old p hp hw
    have e : ¬ p = q := fun e => by rw [e] at h1; rw [h1.1] at hq; cases hq
    rw [nth_set hRq, nth_set hFq, if_neg e, if_neg e]; exact h1
  · rw [nth_set hRq] at hw
    rw [nth_set hFq]
    by_cases e : p = q
    · subst e
      rw [if_pos rfl]
      exact .inr ⟨rfl, j, m, w, j17, hj, hs, hF⟩
    · rw [if_neg e] at hw ⊢
      exact hm.new p hp hw
  · rw [nth_set hRq]
    by_cases e : q' = q
    · rw [if_pos e]
    · rw [if_neg e]
      by_cases e2 : p = j ∧ i = m
      · obtain ⟨rfl, rfl⟩ := e2
        exact absurd (stp_same hE hs' hs).1 e
      · exact hm.done p hp hw q' i w' (by omega) hs'
  · rw [nth_set hRq] at hw
    rw [nth_set hFq]
    by_cases e : p = q
    · rw [if_pos e] at hw; cases hw
    · rw [if_neg e] at hw ⊢; exact hm.zr p hp hw
theorem rmid_round {d : Int} {W R : List Bool} {F0 F : List Int} (hE : okE E) (hr : RInv E h b S d W F0) (hm : RMid E h b d W F0 17 0 R F) (hne : W ≠ R) : RInv E h b S (d + 1) R F := by
  have hsub : ∀ q, q < W.length → nth W q = true → nth R q = true := fun q hq hw => (hm.old q (by rw [hr.rl] at hq; exact hq) hw).1
  have hc := cnt_lt (hr.rl.trans hm.rl.symm) hsub hne
  refine ⟨hm.rl, hm.fl, fun q hq hs => ?_, fun q hq hR => ?_, fun q hq hR => ?_, fun p hp hR hf q i w hs => ?_, by have := hr.lo; omega, by have := hr.hi; omega, hm.zr⟩
  · have h1 := hr.src q hq hs
    have h2 := hm.old q hq h1.1
    exact ⟨h2.1, h2.2.trans h1.2⟩
  · rcases hm.new q hq hR with h1 | ⟨h1, p, i, w, hp, hw, hs, hf⟩
    · rcases hr.path q hq h1 with h2 | ⟨p, i, w, hp, hw, hs, hf⟩
      · exact .inl h2
      · refine .inr ⟨p, i, w, hp, (hm.old p hp hw).1, hs, ?_⟩
        rw [(hm.old q hq h1).2, (hm.old p hp hw).2]; exact hf
    · refine .inr ⟨p, i, w, hp, (hm.old p hp hw).1, hs, ?_⟩
      rw [(hm.old p hp hw).2]; omega
  · rcases hm.new q hq hR with h1 | ⟨h1, _⟩
    · have := hr.far q hq h1
      rw [(hm.old q hq h1).2]; omega
    · have := hr.lo; omega
  · rcases hm.new p hp hR with h1 | ⟨h1, _⟩
    · exact hm.done p hp h1 q i w (.inl hp) hs
    · omega
/-- What is reached at last. -/
structure Reached (E : List Ed) (h : List Int) (b : Int) (S R : List Bool) (F : List Int) : Prop where
  rl : R.length = 17
  fl : F.length = 17
  src : ∀ q, q < 17 → nth S q = true → nth R q = true ∧ nth F q = 0
  path : ∀ q, q < 17 → nth R q = true → nth S q = true ∨ ∃ p i w, p < 17 ∧ nth R p = true ∧ Stp E h b p q i w ∧ nth F q = nth F p + 1
  far : ∀ q, q < 17 → nth R q = true → 0 ≤ nth F q ∧ nth F q ≤ 17
  clo : Clo E h b (fun p => nth R p)
  all : ∀ q, q < 17 → 0 ≤ nth F q ∧ nth F q ≤ 17
theorem cnt_le (R : List Bool) : cnt R ≤ R.length := List.count_le_length
theorem rmid_end {d : Int} {W : List Bool} {F0 F : List Int} (hE : okE E) (hr : RInv E h b S d W F0) (hm : RMid E h b d W F0 17 0 W F) : Reached E h b S W F := by
  have hd := hr.hi
  have hc := cnt_le W
  rw [hr.rl] at hc
  have hfar : ∀ q, q < 17 → nth W q = true → 0 ≤ nth F q ∧ nth F q ≤ 17 := fun q hq hR => by
    have := hr.far q hq hR
    rw [(hm.old q hq hR).2]; omega
  refine ⟨hm.rl, hm.fl, fun q hq hs => ?_, fun q hq hR => ?_, hfar, fun p q i w hR hs => ?_, fun q hq => ?_⟩
  · have h1 := hr.src q hq hs
    have h2 := hm.old q hq h1.1
    exact ⟨h2.1, h2.2.trans h1.2⟩
  · rcases hr.path q hq hR with h2 | ⟨p, i, w, hp, hw, hs, hf⟩
    · exact .inl h2
    · refine .inr ⟨p, i, w, hp, hw, hs, ?_⟩
      rw [(hm.old q hq hR).2, (hm.old p hp hw).2]; exact hf
  · exact hm.done p (stp_lt hE hs).1 hR q i w (.inl (stp_lt hE hs).1) hs
  · cases hW : nth W q with
    | true => exact hfar q hq hW
    | false => rw [hm.zr q hq hW]; omega
/-- No goal is reached, if none is by steps that each lead one further. -/
theorem no_goal {R : List Bool} {F : List Int} {g : Nat → Int} (hr : Reached E h b S R F) (hd : ∀ s, s < 17 → nth S s = true → ∃ D : Nat → Bool, D s = true ∧ ∀ p, D p = true → g p ≤ 0 ∧ ∀ q i w, Stp E h b p q i w → nth F q = nth F p + 1 → D q = true) :
    ∀ q, q < 17 → nth R q = true → g q ≤ 0 := by
  have key : ∀ (k : Nat) q, q < 17 → nth R q = true → nth F q ≤ k → ∃ D : Nat → Bool, D q = true ∧ ∀ p, D p = true → g p ≤ 0 ∧ ∀ q i w, Stp E h b p q i w → nth F q = nth F p + 1 → D q = true := by
    intro k
    induction k with
    | zero =>
      intro q hq hR hf
      rcases hr.path q hq hR with h1 | ⟨p, i, w, hp, hw, hs, hf2⟩
      · exact hd q hq h1
      · have := hr.far p hp hw; omega
    | succ k ih =>
      intro q hq hR hf
      rcases hr.path q hq hR with h1 | ⟨p, i, w, hp, hw, hs, hf2⟩
      · exact hd q hq h1
      · obtain ⟨D, d1, d2⟩ := ih p hp hw (by omega)
        exact ⟨D, (d2 p d1).2 q i w hs hf2, d2⟩
  intro q hq hR
  have := hr.far q hq hR
  obtain ⟨D, d1, d2⟩ := key 17 q hq hR (by omega)
  exact (d2 q d1).1
end
end Go.Oct.Tri
