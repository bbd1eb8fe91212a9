/- Logs, plain: runs, what must hold between them, where the ship can be, and can have been. -/
import Derived.Test.YtddkghgfbhhcdaaDoorOWreTab
import Derived.Test.YtddkghgfbhhcdaaDoorOT4
set_option maxRecDepth 100000
set_option maxHeartbeats 2000000
set_option linter.unusedVariables false
set_option linter.unusedSimpArgs false
namespace Go.Oct.Wre.Fx
open Go.Oct
structure Stp where
  k : Int
  a : Int
  b : Int
  vlo : Int
  vhi : Int
  elo : Int
  ehi : Int
  nlo : Int
  nhi : Int
  cn : Bool
  cl : List Span
instance : Inhabited Stp := ⟨⟨0, 0, 0, 0, 0, 0, 0, 0, 0, true, []⟩⟩
def inI (lo hi x : Int) : Bool := decide (lo ≤ x ∧ x ≤ hi)
theorem inI_iff {lo hi x : Int} : inI lo hi x = true ↔ lo ≤ x ∧ x ≤ hi := by simp [inI]
def clk (cl : List Span) (e : Int) : Nat := (cl.filter fun c => inI c.lo c.hi e).length
def hld (s : Stp) (e n : Int) : Bool := if s.k = 1 then inI s.vlo s.vhi (s.a * e + s.b * n) else decide (2 ≤ clk s.cl e)
def hldN (s : Stp) (p : Nat) : Bool := hld s ((p / 60 : Nat) : Int) ((p % 60 : Nat) : Int)
def allH (g : List Stp) (e n : Int) : Bool := g.all fun s => hld s e n
def allN (g : List Stp) (p : Nat) : Bool := g.all fun s => hldN s p
theorem allN_eq (g : List Stp) (p : Nat) : allN g p = allH g ((p / 60 : Nat) : Int) ((p % 60 : Nat) : Int) := rfl
def goI (s : Stp) (e n e' n' : Int) : Bool := inI s.elo s.ehi (e' - e) && inI s.nlo s.nhi (n' - n)
def go (s : Stp) (m n : Nat) : Bool := goI s ((m / 60 : Nat) : Int) ((m % 60 : Nat) : Int) ((n / 60 : Nat) : Int) ((n % 60 : Nat) : Int)
def mv (s : Stp) (f : Nat → Bool) (n : Nat) : Bool := (List.range 3600).any fun m => f m && go s m n
def mb (s : Stp) (f : Nat → Bool) (n : Nat) : Bool := (List.range 3600).any fun m => f m && go s n m
def in0 (E N : Span) (p : Nat) : Bool := inI E.lo E.hi ((p / 60 : Nat) : Int) && inI N.lo N.hi ((p % 60 : Nat) : Int)
def isRun (s : Stp) : Bool := decide (s.k = 2)
def rns (S : List Stp) : List Stp := S.filter isRun
def addL (g : List (List Stp)) (s : Stp) : List (List Stp) := g.set (g.length - 1) (nth g (g.length - 1) ++ [s])
def sgs (S : List Stp) : Nat → List (List Stp)
  | 0 => [[]]
  | i + 1 => if isRun (nth S i) then sgs S i ++ [[]] else addL (sgs S i) (nth S i)
def rnT (S : List Stp) (i : Nat) : List Stp := rns (S.take i)
theorem rnT_succ {S : List Stp} {i : Nat} (h : i < S.length) : rnT S (i + 1) = rnT S i ++ if isRun (nth S i) = true then [nth S i] else [] := by
  unfold rnT rns
  rw [take_succ_nth h, List.filter_append]
  congr 1
  by_cases e : isRun (nth S i) = true <;> simp [List.filter, e]
theorem sgs_len {S : List Stp} : ∀ i, i ≤ S.length → (sgs S i).length = (rnT S i).length + 1
  | 0, _ => rfl
  | i + 1, h => by
    have ih := sgs_len (S := S) i (by omega)
    rw [rnT_succ (by omega)]
    simp only [sgs]
    by_cases e : isRun (nth S i) = true
    · rw [if_pos e, if_pos e]; simp; omega
    · rw [if_neg e, if_neg e]; simp [addL]; omega
theorem rnT_le (S : List Stp) (i : Nat) : (rnT S i).length ≤ i := by
  unfold rnT rns
  have := List.length_filter_le isRun (S.take i)
  rw [List.length_take] at this
  omega
theorem rnT_all (S : List Stp) : rnT S S.length = rns S := by unfold rnT; rw [List.take_length]
theorem nth_app_lo {α : Type} [Inhabited α] {l m : List α} {j : Nat} (h : j < l.length) : nth (l ++ m) j = nth l j := by
  unfold nth
  rw [List.getD_eq_getElem?_getD, List.getD_eq_getElem?_getD, List.getElem?_append_left h]
theorem nth_app_hi {α : Type} [Inhabited α] {l : List α} {x : α} : nth (l ++ [x]) l.length = x := by
  unfold nth
  rw [List.getD_eq_getElem?_getD]; simp
def can (E N : Span) (R : List Stp) (G : List (List Stp)) : Nat → Nat → Bool
  | 0, p => in0 E N p && allN (nth G 0) p
  | j + 1, p => mv (nth R j) (can E N R G j) p && allN (nth G (j + 1)) p
def was (E N : Span) (R : List Stp) (G : List (List Stp)) : Nat → Nat → Bool
  | 0, p => can E N R G R.length p
  | d + 1, p => can E N R G (R.length - (d + 1)) p && mb (nth R (R.length - (d + 1))) (was E N R G d) p
end Go.Oct.Wre.Fx
