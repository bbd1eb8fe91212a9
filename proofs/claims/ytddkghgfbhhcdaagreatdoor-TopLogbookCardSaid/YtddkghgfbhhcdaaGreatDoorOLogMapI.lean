/- Maps with whole numbers as keys: looking up and setting. -/
import Derived.Test.YtddkghgfbhhcdaaGreatDoorOLogO
set_option maxRecDepth 100000
set_option maxHeartbeats 2000000
set_option linter.unusedVariables false
set_option linter.unusedSimpArgs false
namespace Go.Oct.Log
open Go.Oct
/-- An entry: a key, a list, a stamp. -/
abbrev ME := Int × AV × Nat
def ent (e : ME) : AV × AV × Nat := (.int .i64 e.1, e.2.1, e.2.2)
def mget : List ME → Int → Option AV
  | [], _ => none
  | e :: es, t => if e.1 = t then some e.2.1 else mget es t
theorem keyEq_I (a b : Int) : keyEq false [.int] (.int .i64 a) (.int .i64 b) = some (decide (a = b)) := by
  simp only [keyEq, eqCells]
  rw [show (decide (a = b)) = (a == b) from by rw [Bool.eq_iff_iff]; simp]
  simp
theorem find_I (t : Int) : ∀ (es : List ME) (i : Nat), (findE false [.int] (.int .i64 t) (es.map ent) i = some none ∧ mget es t = none) ∨
    ∃ j b l, findE false [.int] (.int .i64 t) (es.map ent) i = some (some (i + j, l, b)) ∧ mget es t = some l ∧
      ∀ l', ∃ es', setE (.int .i64 t) l' (es.map ent) j = es'.map ent ∧ ∀ t', mget es' t' = if t = t' then some l' else mget es t'
  | [], i => .inl ⟨rfl, rfl⟩
  | (k, l, b) :: es, i => by
    simp only [List.map_cons, ent, findE, keyEq_I, mget]
    by_cases e : k = t
    · subst e
      refine .inr ⟨0, b, l, by simp, by simp, fun l' => ⟨(k, l', b) :: es, rfl, fun t' => ?_⟩⟩
      simp only [mget]
      by_cases e3 : k = t' <;> simp [e3]
    · have e' : ¬ t = k := fun h => e h.symm
      rcases find_I t es (i + 1) with ⟨h1, h2⟩ | ⟨j, b', l1, h1, h2, h3⟩
      · refine .inl ⟨by simpa [e, e', ent] using h1, by simp [e, h2]⟩
      · refine .inr ⟨j + 1, b', l1, by simp [e, e', h1]; omega, by simp [e, h2], fun l' => ?_⟩
        obtain ⟨es', h4, h5⟩ := h3 l'
        refine ⟨(k, l, b) :: es', by simp [setE, ent, h4], fun t' => ?_⟩
        simp only [mget, h5]
        by_cases e2 : k = t'
        · subst e2; simp [e']
        · simp [e2]
theorem mget_app (t : Int) (l : AV) (c : Nat) : ∀ (es : List ME), mget es t = none → ∀ t', mget (es ++ [(t, l, c)]) t' = if t = t' then some l else mget es t'
  | [], _, t' => by simp [mget]
  | (k, l1, b) :: es, h, t' => by
    have e : ¬ k = t := fun e => by simp [mget, e] at h
    have h2 : mget es t = none := by simpa [mget, e] using h
    simp only [List.cons_append, mget, mget_app t l c es h2]
    by_cases e2 : k = t'
    · subst e2
      have e' : ¬ t = k := fun h => e h.symm
      simp [e']
    · simp [e2]
end Go.Oct.Log
