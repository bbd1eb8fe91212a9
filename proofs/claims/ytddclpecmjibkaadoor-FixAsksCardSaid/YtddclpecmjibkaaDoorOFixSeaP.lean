/- Logs, plain: runs, what must hold between them, where the ship can be, and can have been. -/
import Derived.Test.YtddclpecmjibkaaDoorOFixTab
import Derived.Test.YtddclpecmjibkaaDoorOT4
set_option maxRecDepth 100000
set_option maxHeartbeats 2000000
set_option linter.unusedVariables false
set_option linter.unusedSimpArgs false
namespace Go.Oct.Fix
open Go.Oct
/-- A step of a log. -/
structure Stp where
  k : Int
  a : Int
  b : Int
  vlo : Int
  vhi : Int
  elo : Int
  ehi : Int
  nlo : Int
  nhi : Int
  cn : Bool
  cl : List Span
instance : Inhabited Stp := ⟨⟨0, 0, 0, 0, 0, 0, 0, 0, 0, true, []⟩⟩
def inI (lo hi x : Int) : Bool := decide (lo ≤ x ∧ x ≤ hi)
theorem inI_iff {lo hi x : Int} : inI lo hi x = true ↔ lo ≤ x ∧ x ≤ hi := by simp [inI]
/-- How many clocks agree. -/
def clk (cl : List Span) (e : Int) : Nat := (cl.filter fun c => inI c.lo c.hi e).length
/-- A step that is not a run, at a point. -/
def hld (s : Stp) (e n : Int) : Bool := if s.k = 1 then inI s.vlo s.vhi (s.a * e + s.b * n) else decide (2 ≤ clk s.cl e)
def hldN (s : Stp) (p : Nat) : Bool := hld s ((p / 60 : Nat) : Int) ((p % 60 : Nat) : Int)
/-- All steps of a part of the log. -/
def allH (g : List Stp) (e n : Int) : Bool := g.all fun s => hld s e n
def allN (g : List Stp) (p : Nat) : Bool := g.all fun s => hldN s p
theorem allN_eq (g : List Stp) (p : Nat) : allN g p = allH g ((p / 60 : Nat) : Int) ((p % 60 : Nat) : Int) := rfl
/-- Does a run lead from a point to another one? -/
def goI (s : Stp) (e n e' n' : Int) : Bool := inI s.elo s.ehi (e' - e) && inI s.nlo s.nhi (n' - n)
def go (s : Stp) (m n : Nat) : Bool := goI s ((m / 60 : Nat) : Int) ((m % 60 : Nat) : Int) ((n / 60 : Nat) : Int) ((n % 60 : Nat) : Int)
/-- Where a run leads from some points. -/
def mv (s : Stp) (f : Nat → Bool) (n : Nat) : Bool := (List.range 3600).any fun m => f m && go s m n
theorem mv_iff {s : Stp} {f : Nat → Bool} {n : Nat} : mv s f n = true ↔ ∃ m, m < 3600 ∧ f m = true ∧ go s m n = true := by
  unfold mv
  rw [List.any_eq_true]
  constructor
  · rintro ⟨m, h1, h2⟩
    rw [Bool.and_eq_true] at h2
    exact ⟨m, List.mem_range.1 h1, h2.1, h2.2⟩
  · rintro ⟨m, h1, h2, h3⟩
    exact ⟨m, List.mem_range.2 h1, by rw [h2, h3]; rfl⟩
/-- From where it leads to some points. -/
def mb (s : Stp) (f : Nat → Bool) (n : Nat) : Bool := (List.range 3600).any fun m => f m && go s n m
theorem mb_iff {s : Stp} {f : Nat → Bool} {n : Nat} : mb s f n = true ↔ ∃ m, m < 3600 ∧ f m = true ∧ go s n m = true := by
  unfold mb
  rw [List.any_eq_true]
  constructor
  · rintro ⟨m, h1, h2⟩
    rw [Bool.and_eq_true] at h2
    exact ⟨m, List.mem_range.1 h1, h2.1, h2.2⟩
  · rintro ⟨m, h1, h2, h3⟩
    exact ⟨m, List.mem_range.2 h1, by rw [h2, h3]; rfl⟩
def in0 (E N : Span) (p : Nat) : Bool := inI E.lo E.hi ((p / 60 : Nat) : Int) && inI N.lo N.hi ((p % 60 : Nat) : Int)
/-- The runs of the first steps, and the parts between them. -/
def isRun (s : Stp) : Bool := decide (s.k = 2)
def rns (S : List Stp) : List Stp := S.filter isRun
def addL (g : List (List Stp)) (s : Stp) : List (List Stp) := g.set (g.length - 1) (nth g (g.length - 1) ++ [s])
def sgs (S : List Stp) : Nat → List (List Stp)
  | 0 => [[]]
  | i + 1 => if isRun (nth S i) then sgs S i ++ [[]] else addL (sgs S i) (nth S i)
def rnT (S : List Stp) (i : Nat) : List Stp := rns (S.take i)
theorem rnT_succ {S : List Stp} {i : Nat} (h : i < S.length) : rnT S (i + 1) = rnT S i ++ if isRun (nth S i) = true then [nth S i] else [] := by
  unfold rnT rns
  rw [take_succ_nth h, List.filter_append]
  congr 1
  by_cases e : isRun (nth S i) = true <;> simp [List.filter, e]
theorem sgs_len {S : List Stp} : ∀ i, i ≤ S.length → (sgs S i).length = (rnT S i).length + 1
  | 0, _ => rfl
  | i + 1, h => by
    have ih := sgs_len (S := S) i (by omega)
    rw [rnT_succ (by omega)]
    simp only [sgs]
    by_cases e : isRun (nth S i) = true
    · rw [if_pos e, if_pos e]; simp; omega
    · rw [if_neg e, if_neg e]; simp [addL]; omega
theorem rnT_le (S : List Stp) (i : Nat) : (rnT S i).length ≤ i := by
  unfold rnT rns
  have := List.length_filter_le isRun (S.take i)
  rw [List.length_take] at this
  omega
theorem rnT_all (S : List Stp) : rnT S S.length = rns S := by unfold rnT; rw [List.take_length]
theorem nth_app_lo {α : Type} [Inhabited α] {l m : List α} {j : Nat} (h : j < l.length) : nth (l ++ m) j = nth l j := by
  unfold nth
  rw [List.getD_eq_getElem?_getD, List.getD_eq_getElem?_getD, List.getElem?_append_left h]
theorem nth_app_hi {α : Type} [Inhabited α] {l : List α} {x : α} : nth (l ++ [x]) l.length = x := by
  unfold nth
  rw [List.getD_eq_getElem?_getD]; simp
/-- Where the ship can be in each part. -/
def can (E N : Span) (R : List Stp) (G : List (List Stp)) : Nat → Nat → Bool
  | 0, p => in0 E N p && allN (nth G 0) p
  | j + 1, p => mv (nth R j) (can E N R G j) p && allN (nth G (j + 1)) p
/-- Where it can have been, if it is to come to the end. -/
def was (E N : Span) (R : List Stp) (G : List (List Stp)) : Nat → Nat → Bool
  | 0, p => can E N R G R.length p
  | d + 1, p => can E N R G (R.length - (d + 1)) p && mb (nth R (R.length - (d + 1))) (was E N R G d) p
theorem mv_congr {s : Stp} {f g : Nat → Bool} (h : ∀ m, m < 3600 → f m = g m) (n : Nat) : mv s f n = mv s g n := by
  rw [Bool.eq_iff_iff, mv_iff, mv_iff]
  constructor
  · rintro ⟨m, a, b, c⟩; exact ⟨m, a, by rw [← h m a]; exact b, c⟩
  · rintro ⟨m, a, b, c⟩; exact ⟨m, a, by rw [h m a]; exact b, c⟩
theorem can_congr {E N : Span} {R R' : List Stp} {G G' : List (List Stp)} : ∀ j, (∀ i, i < j → nth R i = nth R' i) → (∀ i, i ≤ j → nth G i = nth G' i) → ∀ p, can E N R G j p = can E N R' G' j p
  | 0, _, hG, p => by simp only [can, hG 0 (by omega)]
  | j + 1, hR, hG, p => by
    simp only [can]
    rw [hR j (by omega), hG (j + 1) (by omega), mv_congr (fun m _ => can_congr j (fun i hi => hR i (by omega)) (fun i hi => hG i (by omega)) m)]
/-- Step by step. -/
def fw (E N : Span) (S : List Stp) : Nat → Nat → Bool
  | 0, p => in0 E N p
  | i + 1, p => if isRun (nth S i) = true then mv (nth S i) (fw E N S i) p else fw E N S i p && hldN (nth S i) p
theorem fw_can (E N : Span) (S : List Stp) : ∀ i, i ≤ S.length → ∀ p, fw E N S i p = can E N (rnT S i) (sgs S i) (rnT S i).length p
  | 0, _, p => by simp [fw, rnT, rns, can, sgs, allN]
  | i + 1, h, p => by
    have ih := fw_can E N S i (by omega)
    have hl := sgs_len (S := S) i (by omega)
    have hs := rnT_succ (S := S) (i := i) (by omega)
    simp only [fw]
    by_cases e : isRun (nth S i) = true
    · rw [if_pos e] at hs ⊢
      have hg : sgs S (i + 1) = sgs S i ++ [[]] := by simp only [sgs]; rw [if_pos e]
      rw [hs, hg, List.length_append, List.length_singleton]
      simp only [can]
      have h1 : nth (rnT S i ++ [nth S i]) (rnT S i).length = nth S i := nth_app_hi
      have h2 : nth (sgs S i ++ [[]]) ((rnT S i).length + 1) = [] := by rw [← hl]; exact nth_app_hi
      rw [h1, h2]
      have h3 : allN [] p = true := rfl
      rw [h3, Bool.and_true]
      refine mv_congr (fun m _ => ?_) p
      rw [ih m]
      exact can_congr _ (fun j hj => (nth_app_lo hj).symm) (fun j hj => (nth_app_lo (by omega)).symm) m
    · rw [if_neg e] at hs ⊢
      have hg : sgs S (i + 1) = addL (sgs S i) (nth S i) := by simp only [sgs]; rw [if_neg e]
      rw [List.append_nil] at hs
      rw [hs, hg, ih p]
      have hlast : nth (addL (sgs S i) (nth S i)) (rnT S i).length = nth (sgs S i) (rnT S i).length ++ [nth S i] := by
        unfold addL
        rw [nth_set (by omega), if_pos (by omega)]
        congr 2; omega
      have hoth : ∀ j, j < (rnT S i).length → nth (addL (sgs S i) (nth S i)) j = nth (sgs S i) j := fun j hj => by
        unfold addL
        rw [nth_set (by omega), if_neg (by omega)]
      cases hm : (rnT S i).length with
      | zero =>
        rw [hm] at hlast
        simp only [can]
        rw [hlast]
        unfold allN
        rw [List.all_append]; simp [Bool.and_assoc]
      | succ m =>
        rw [hm] at hlast
        simp only [can]
        rw [hlast, mv_congr (fun q _ => can_congr m (fun j _ => rfl) (fun j hj => hoth j (by omega)) q)]
        unfold allN
        rw [List.all_append]; simp [Bool.and_assoc]
theorem sgs_keep {S : List Stp} : ∀ {i d : Nat}, i + d ≤ S.length → ∀ j, j < (rnT S i).length → nth (sgs S (i + d)) j = nth (sgs S i) j
  | i, 0, _, j, _ => rfl
  | i, d + 1, h, j, hj => by
    have ih := sgs_keep (S := S) (i := i) (d := d) (by omega) j hj
    have hl := sgs_len (S := S) (i + d) (by omega)
    have hm : (rnT S i).length ≤ (rnT S (i + d)).length := by
      unfold rnT rns
      have : S.take i = (S.take (i + d)).take i := by rw [List.take_take, Nat.min_eq_left (by omega)]
      rw [this]
      exact ((List.take_sublist i (S.take (i + d))).filter isRun).length_le
    rw [← Nat.add_assoc, ← ih]
    simp only [sgs]
    by_cases e : isRun (nth S (i + d)) = true
    · rw [if_pos e]; exact nth_app_lo (by omega)
    · rw [if_neg e]; unfold addL; rw [nth_set (by omega), if_neg (by omega)]
theorem rnT_mono {S : List Stp} {i : Nat} : ∀ {d : Nat}, i + d ≤ S.length → (rnT S i).length ≤ (rnT S (i + d)).length
  | 0, _ => Nat.le_refl _
  | d + 1, h => by
    have ih := rnT_mono (S := S) (i := i) (d := d) (by omega)
    rw [← Nat.add_assoc, rnT_succ (by omega), List.length_append]
    omega
theorem rnT_keep {S : List Stp} {i : Nat} : ∀ {d : Nat}, i + d ≤ S.length → ∀ {j : Nat}, j < (rnT S i).length → nth (rnT S (i + d)) j = nth (rnT S i) j
  | 0, _, j, _ => rfl
  | d + 1, h, j, hj => by
    have ih := rnT_keep (S := S) (i := i) (d := d) (by omega) hj
    have hm := rnT_mono (S := S) (i := i) (d := d) (by omega)
    rw [← Nat.add_assoc, rnT_succ (by omega), ← ih]
    exact nth_app_lo (by omega)
end Go.Oct.Fix
