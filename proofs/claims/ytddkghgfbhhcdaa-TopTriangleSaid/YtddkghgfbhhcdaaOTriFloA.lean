/- Nets: seconds are sent along, plain. -/
import Derived.Test.YtddkghgfbhhcdaaOTriFloRW
set_option maxRecDepth 100000
set_option maxHeartbeats 1000000
set_option linter.unusedVariables false
set_option linter.unusedSimpArgs false
namespace Go.Oct.Tri
open Go.Oct
def sg (x : Nat) : Int := if x < 8 then 1 else -1
/-- What a path from p to ps changes at a place. -/
def dl (x p ps : Nat) (w : Int) : Int := sg x * ((if x = p then w else 0) - if x = ps then w else 0)
/-- w seconds went from p to ps. -/
structure Sent (E : List Ed) (b : Int) (F : List Int) (g : Nat → Int) (h h' : List Int) (p ps : Nat) (w : Int) : Prop where
  pos : 0 < w
  goal : w ≤ g ps
  pl : ps < 17
  bd : inE E h'
  ban : ∀ j, j < E.length → (j : Int) = b → nth h' j = nth h j
  beyond : ∀ j, j < E.length → nth h' j ≠ nth h j → nth F p ≤ nth F (nth E j).u ∧ nth F p ≤ nth F (nth E j).v
  sum : ∀ x, sAt E h' x = sAt E h x + dl x p ps w
theorem sent_here {E : List Ed} {b : Int} {F : List Int} {g : Nat → Int} {h : List Int} {p : Nat} {w : Int} (hb : inE E h) (h1 : 0 < w) (h2 : w ≤ g p) (hp : p < 17) : Sent E b F g h h p p w :=
  ⟨h1, h2, hp, hb, fun _ _ _ => rfl, fun _ _ h => absurd rfl h, fun x => by simp [dl]⟩
theorem sent_step {E : List Ed} {b : Int} {F : List Int} {g : Nat → Int} {h h' : List Int} {p q ps m : Nat} {w w0 : Int} (hE : okE E) (hs : Stp E h b p q m w0) (hf : nth F q = nth F p + 1) (hw : w ≤ w0) (hh : Sent E b F g h h' q ps w) (hb : inE E h) :
    nth h' m = nth h m ∧ Sent E b F g h (h'.set m (if (nth E m).u = p then nth h' m + w else nth h' m - w)) p ps w := by
  obtain ⟨s1, s2, s3, s4⟩ := hs
  obtain ⟨e1, e2, e3, e4, e5, e6⟩ := hE.2 m s1
  have hm : nth h' m = nth h m := by
    by_cases e : nth h' m = nth h m
    · exact e
    · have := hh.beyond m s1 e
      rcases s4 with ⟨a, b, _⟩ | ⟨a, b, _⟩
      · rw [a] at this; omega
      · rw [a] at this; omega
  refine ⟨hm, ?_⟩
  have hl := hh.bd.1
  have hml : m < h'.length := by omega
  have hwp := hh.pos
  refine ⟨hh.pos, hh.goal, hh.pl, ⟨by simpa using hl, fun j hj => ?_⟩, fun j hj hjb => ?_, fun j hj hne => ?_, fun x => ?_⟩
  · rw [nth_set hml]
    by_cases e : j = m
    · subst e
      rw [if_pos rfl, hm]
      have := hb.2 j hj
      rcases s4 with ⟨a, b, c⟩ | ⟨a, b, c⟩
      · rw [if_pos a]; omega
      · rw [if_neg (by omega)]; omega
    · rw [if_neg e]; exact hh.bd.2 j hj
  · rw [nth_set hml]
    by_cases e : j = m
    · subst e; omega
    · rw [if_neg e]; exact hh.ban j hj hjb
  · rw [nth_set hml] at hne
    by_cases e : j = m
    · subst e
      rcases s4 with ⟨a, b, _⟩ | ⟨a, b, _⟩
      · rw [a, b]; omega
      · rw [a, b]; omega
    · rw [if_neg e] at hne
      have := hh.beyond j hj hne
      omega
  · rw [sAt_set E h' x m _ s1 hl, hh.sum x]
    unfold dl sg
    have at1 : (nth E m).at x ↔ x = p ∨ x = q := by
      unfold Ed.at
      rcases s4 with ⟨a, b, _⟩ | ⟨a, b, _⟩ <;> rw [a, b] <;> constructor <;> intro h <;> omega
    have hpq : ¬ p = q := by rcases s4 with ⟨a, b, _⟩ | ⟨a, b, _⟩ <;> omega
    by_cases x1 : x = p
    · rw [if_pos (at1.2 (.inl x1)), if_neg (show ¬ x = q by omega), if_pos x1]
      rcases s4 with ⟨a, b, c⟩ | ⟨a, b, c⟩
      · rw [if_pos a, if_pos (show x < 8 by omega)]; omega
      · rw [if_neg (show ¬ (nth E m).u = p by omega), if_neg (show ¬ x < 8 by omega)]; omega
    · by_cases x2 : x = q
      · rw [if_pos (at1.2 (.inr x2)), if_pos x2, if_neg x1]
        rcases s4 with ⟨a, b, c⟩ | ⟨a, b, c⟩
        · rw [if_pos a, if_neg (show ¬ x < 8 by omega)]; omega
        · rw [if_neg (show ¬ (nth E m).u = p by omega), if_pos (show x < 8 by omega)]; omega
      · have n1 : ¬ (nth E m).at x := fun h => by rcases at1.1 h with h | h <;> contradiction
        rw [if_neg n1, if_neg x1, if_neg x2]
        omega
/-- Places from which no goal is reached. -/
def Dead (E : List Ed) (h : List Int) (b : Int) (F : List Int) (g : Nat → Int) (D : List Bool) : Prop :=
  ∀ p, p < 17 → nth D p = true → g p ≤ 0 ∧ ∀ q i w, Stp E h b p q i w → nth F q = nth F p + 1 → nth D q = true
end Go.Oct.Tri
