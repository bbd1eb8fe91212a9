/- Errors: what it answers, and the specification's. -/
import Derived.Test.YtddkghgfbhhcdaaOCryDays
set_option maxRecDepth 100000
set_option maxHeartbeats 2000000
set_option linter.unusedVariables false
set_option linter.unusedSimpArgs false
namespace Go.Oct.Cry
open Go.Oct
/-- A truth. -/
abbrev eTru (nA nB : Bool) (A : List Int) (g f : Int) (B : List Int) : AV := .agg [vs nA A, .int .i64 g, .int .i64 f, vs nB B]
def inS (s : Span) (n : Int) : Prop := s.lo ≤ n ∧ n ≤ s.hi
instance (s : Span) (n : Int) : Decidable (inS s n) := by unfold inS; infer_instance
def tr0 (R : List Span) (a e : Span) (D : List Span) (A : List Int) (g f : Int) (B : List Int) : Prop := (A.length : Int) = R.length ∧ (B.length : Int) = D.length ∧ inS a g ∧ inS e f
instance (R : List Span) (a e : Span) (D : List Span) (A : List Int) (g f : Int) (B : List Int) : Decidable (tr0 R a e D A g f B) := by unfold tr0; infer_instance
def tr1 (R : List Span) (a e : Span) (D : List Span) (A : List Int) (g f : Int) (B : List Int) (n : Nat) : Prop := tr0 R a e D A g f B ∧ ∀ i, i < n → inS (nth R i) (nth A i)
instance (R : List Span) (a e : Span) (D : List Span) (A : List Int) (g f : Int) (B : List Int) (n : Nat) : Decidable (tr1 R a e D A g f B n) := by unfold tr1; infer_instance
def tr2 (R : List Span) (a e : Span) (D : List Span) (A : List Int) (g f : Int) (B : List Int) (n : Nat) : Prop := tr1 R a e D A g f B R.length ∧ ∀ i, i < n → inS (nth D i) (nth B i)
instance (R : List Span) (a e : Span) (D : List Span) (A : List Int) (g f : Int) (B : List Int) (n : Nat) : Decidable (tr2 R a e D A g f B n) := by unfold tr2; infer_instance
abbrev okTru (R : List Span) (a e : Span) (D : List Span) (A : List Int) (g f : Int) (B : List Int) : Prop := tr2 R a e D A g f B D.length
section
variable {R : List Span} {a e : Span} {D : List Span} {A : List Int} {g f : Int} {B : List Int}
theorem tr1_succ {n : Nat} : tr1 R a e D A g f B (n + 1) ↔ tr1 R a e D A g f B n ∧ inS (nth R n) (nth A n) := by
  unfold tr1
  constructor
  · rintro ⟨h1, h2⟩; exact ⟨⟨h1, fun i hi => h2 i (by omega)⟩, h2 n (by omega)⟩
  · rintro ⟨⟨h1, h2⟩, h3⟩
    refine ⟨h1, fun i hi => ?_⟩
    by_cases e : i = n
    · rw [e]; exact h3
    · exact h2 i (by omega)
theorem tr2_succ {n : Nat} : tr2 R a e D A g f B (n + 1) ↔ tr2 R a e D A g f B n ∧ inS (nth D n) (nth B n) := by
  unfold tr2
  constructor
  · rintro ⟨h1, h2⟩; exact ⟨⟨h1, fun i hi => h2 i (by omega)⟩, h2 n (by omega)⟩
  · rintro ⟨⟨h1, h2⟩, h3⟩
    refine ⟨h1, fun i hi => ?_⟩
    by_cases e : i = n
    · rw [e]; exact h3
    · exact h2 i (by omega)
end
/-- The errors behind the days. -/
noncomputable def accE (T A : List Int) (g f : Int) (B : List Int) : Nat → Int
  | 0 => f
  | i + 1 => accE T A g f B i + (rt T (nth A) (nth B i) + g * i)
noncomputable def errs (T A : List Int) (g f : Int) (B : List Int) (n : Nat) : List Int := (List.range n).map fun i => accE T A g f B (i + 1)
theorem errs_succ (T A : List Int) (g f : Int) (B : List Int) (n : Nat) : errs T A g f B (n + 1) = errs T A g f B n ++ [accE T A g f B (n + 1)] := by unfold errs; rw [List.range_succ, List.map_append]; rfl
theorem errs_len (T A : List Int) (g f : Int) (B : List Int) (n : Nat) : (errs T A g f B n).length = n := by unfold errs; simp
section
variable {T : List Int} {R : List Span} {a e : Span} {D : List Span} {A : List Int} {g f : Int} {B : List Int}
theorem tru_in (hd : okDays T D) (ht : okTru R a e D A g f B) {i : Nat} (hi : i < D.length) : nth T 0 ≤ nth B i ∧ nth B i ≤ nth T (T.length - 1) := by
  have h1 := hd.2 i hi
  have h2 := ht.2 i hi
  unfold isIn at h1
  unfold inS at h2
  omega
theorem tru_rate (h : okClk T R a e) (ht : okTru R a e D A g f B) {i : Nat} (hi : i < T.length) : -100000 ≤ nth A i ∧ nth A i ≤ 100000 := by
  have h1 := rows_bd h i hi
  have hl : R.length = T.length := by have := h.1.2.1; omega
  have h2 := ht.1.2 i (by omega)
  unfold inS at h2
  omega
theorem tru_rt (h : okClk T R a e) (hd : okDays T D) (ht : okTru R a e D A g f B) {i : Nat} (hi : i < D.length) : -100000 ≤ rt T (nth A) (nth B i) ∧ rt T (nth A) (nth B i) ≤ 100000 :=
  rt_bd (okT_of h) (tru_in hd ht hi).1 (tru_in hd ht hi).2 (fun i hi => tru_rate h ht hi)
theorem tru_age (h : okClk T R a e) (hd : okDays T D) (ht : okTru R a e D A g f B) {i : Nat} (hi : i < D.length) : -60000 ≤ g * i ∧ g * i ≤ 60000 := by
  have h1 := h.1.2.2.1
  have h2 := ht.1.1.2.2.1
  have h3 := hd.1
  unfold isIn at h1
  unfold inS at h2
  have := mul_bd (a := g) (b := (i : Int)) (A := 1000) (B := 60) (by omega) (by omega) (by omega) (by omega) (by omega)
  omega
theorem acc_bd (h : okClk T R a e) (hd : okDays T D) (ht : okTru R a e D A g f B) : ∀ i, i ≤ D.length → -10000000 - 160000 * (i : Int) ≤ accE T A g f B i ∧ accE T A g f B i ≤ 10000000 + 160000 * (i : Int)
  | 0, _ => by
    have h1 := h.1.2.2.2
    have h2 := ht.1.1.2.2.2
    unfold isIn at h1
    unfold inS at h2
    simp only [accE]
    omega
  | i + 1, hi => by
    have h1 := acc_bd h hd ht i (by omega)
    have h2 := tru_rt h hd ht (show i < D.length by omega)
    have h3 := tru_age h hd ht (show i < D.length by omega)
    simp only [accE]
    omega
end
theorem under_self {σ : AH} (h : σ.lim = 0) : σ.under 0 = σ := by
  cases σ
  simp only at h
  subst h
  rfl
noncomputable def errV (T : List Int) (R : List Span) (a e : Span) (D : List Span) (A : List Int) (g f : Int) (B : List Int) : List Int × Int :=
  if askE T R a e D = 0 then (if okTru R a e D A g f B then (errs T A g f B D.length, 0) else ([], 74)) else ([], askE T R a e D)
end Go.Oct.Cry
