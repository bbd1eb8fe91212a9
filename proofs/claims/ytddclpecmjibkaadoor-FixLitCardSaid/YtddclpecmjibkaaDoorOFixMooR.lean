/- The specification's Moon. -/
import Derived.Test.YtddclpecmjibkaaDoorOFixMooW
set_option maxRecDepth 100000
set_option maxHeartbeats 4000000
set_option linter.unusedVariables false
set_option linter.unusedSimpArgs false
namespace Go.Oct.Fix
open Go.Oct
theorem inn_upto {a b s : Span} {st : Option Span} (h : Upto st a.lo) : ∀ q, Upto (inn a b s st q) (a.lo + q)
  | 0 => by simpa [inn] using h
  | q + 1 => (inn_upto h q).stp.mono (by omega)
theorem inn_upto' {a b s : Span} {st : Option Span} (h : Upto st a.lo) (q : Nat) : Upto (inn a b s st (q + 1)) (a.lo + q) := (inn_upto (b := b) (s := s) h q).stp
theorem tab_le {l : List Span} {i : Nat} (hi : i ≤ l.length) (h : ¬ tabTo l i) : ¬ okTab l := fun ho => h ⟨ho.1, fun j hj => ho.2 j (by omega)⟩
theorem out_upto {l : List Span} {s : Span} (ht : okTab l) : ∀ i, i < l.length → Upto (out l s i) (nth l i).lo
  | 0, _ => fun x hx => by cases hx
  | i + 1, hi => by
    have h1 := out_upto (s := s) ht i (by omega)
    have h2 := ((ht.2 (i + 1) hi).2 (by omega)).1
    rw [Nat.add_sub_cancel] at h2
    have h3 := inn_upto' (b := nth l (i + 1)) (s := s) h1 (wid (nth l i) (nth l (i + 1)))
    exact h3.mono (by unfold wid; omega)
end Go.Oct.Fix
