/- What the package-level variable of the program holds, in every world that a row hands in. -/
import Derived.Test.YtddkghgfbhhcdaaGreatDoorOLogP
import Derived.Test.YtddkghgfbhhcdaaGreatDoorOT3
import Derived.RowKitVeiled
import Derived.Test.YtddkghgfbhhcdaaGreatDoorTie
set_option maxRecDepth 100000
set_option linter.unusedVariables false
set_option linter.unusedSimpArgs false
namespace Go.Oct.Log
open Go.Oct Go.Proofs Go.Proofs.YtddkghgfbhhcdaaGreatDoor Go.RowKit
abbrev laidL : List (String × DataW Unit) := [("octant/fix.holds", Rows.laid_octant_fix_holds)]
theorem gHolds : Tryz.prog.globalNamed "octant/fix.holds" = some 1 := by kernel_rfl
theorem tHolds : (Tryz.prog.globals[1]?).map (·.type) = some 223 := by kernel_rfl
theorem cells223 : Tryz.prog.cellsOf 223 = 4 := by kernel_rfl
theorem cells222 : Tryz.prog.cellsOf 222 = 1 := by kernel_rfl
theorem nil_fn {P : Program} {t : TypeId} {v : Value} {e : TypeId × Value → List UInt8} (hv : IsFunc v) (h : veil e t v = .nil) : v = .nilFunc := by
  cases v <;> simp only [IsFunc] at hv <;> first | rfl | simp [veil] at h
/-- The four cells. -/
theorem cells_of {W : World} (h : laidMetH Tryz.prog laidL W) : W.cell? ⟨1, 0, none⟩ = some .nilFunc ∧ W.cell? ⟨1, 1, none⟩ = some (.func (.func 193) #[] #[]) ∧ W.cell? ⟨1, 2, none⟩ = some .nilFunc ∧ W.cell? ⟨1, 3, none⟩ = some (.func (.func 186) #[] #[]) := by
  obtain ⟨g, t, cs, fuel, p, hg, ht, hv, hd⟩ := h.funcs (List.mem_singleton.2 rfl)
  obtain rfl := Option.some.inj (gHolds.symm.trans hg)
  obtain rfl := Option.some.inj (tHolds.symm.trans ht)
  obtain ⟨xs, m, rfl, hx, hlen, hxl, hel⟩ := DataW.trod_array Tryz.underlying223 hd
  rw [cells223] at hlen
  simp only [cells222, Nat.mul_one] at hel
  have hx1 := congrArg Prod.fst hx
  have cl : cs.toList.length = 4 := hlen
  obtain ⟨c0, c1, c2, c3, hcs⟩ : ∃ c0 c1 c2 c3, cs.toList = [c0, c1, c2, c3] := by
    match h : cs.toList, cl with
    | [c0, c1, c2, c3], _ => exact ⟨c0, c1, c2, c3, rfl⟩
  obtain ⟨x0, x1, x2, x3, rfl⟩ : ∃ x0 x1 x2 x3, xs = [x0, x1, x2, x3] := by
    match xs, hxl with
    | [x0, x1, x2, x3], _ => exact ⟨x0, x1, x2, x3, rfl⟩
  simp only [List.map_cons, List.map_nil] at hx1
  injection hx1 with hx1
  injection hx1 with a0 hx1
  injection hx1 with a1 hx1
  injection hx1 with a2 hx1
  injection hx1 with a3 hx1
  have e0 := hel 0 (by omega)
  have e1 := hel 1 (by omega)
  have e2 := hel 2 (by omega)
  have e3 := hel 3 (by omega)
  rw [hcs] at e0 e1 e2 e3
  simp only [List.drop_zero, List.drop_succ_cons, List.take_succ_cons, List.take_zero, List.getElem?_cons_zero, List.getElem?_cons_succ] at e0 e1 e2 e3
  obtain ⟨v0, h0, i0, j0⟩ := Go.RowKit.func_of_trod Tryz.underlying222 e0
  obtain ⟨v2, h2, i2, j2⟩ := Go.RowKit.func_of_trod Tryz.underlying222 e2
  obtain rfl := List.singleton_inj.1 h0
  obtain rfl := List.singleton_inj.1 h2
  have n0 := nil_fn (P := Tryz.prog) i0 (by rw [j0] at a0; exact a0.symm)
  have n2 := nil_fn (P := Tryz.prog) i2 (by rw [j2] at a2; exact a2.symm)
  have n1 : c1 = .func (.func 193) #[] #[] := by
    rw [show x1 = (.held (40 :: [111, 99, 116, 97, 110, 116, 47, 102, 105, 120, 46, 115, 116, 101, 112, 41, 46, 115, 105, 103, 104, 116]), x1.2) from Prod.ext a1.symm rfl] at e1
    exact Go.func_of_trod (f0 := 193) Tryz.underlying222 (by kernel_rfl) e1
  have n3 : c3 = .func (.func 186) #[] #[] := by
    rw [show x3 = (.held (40 :: [111, 99, 116, 97, 110, 116, 47, 102, 105, 120, 46, 115, 116, 101, 112, 41, 46, 108, 111, 110, 103]), x3.2) from Prod.ext a3.symm rfl] at e3
    exact Go.func_of_trod (f0 := 186) Tryz.underlying222 (by kernel_rfl) e3
  subst n0 n1 n2 n3
  have hat : ∀ i, W.cell? ⟨1, i, none⟩ = [Value.nilFunc, .func (.func 193) #[] #[], .nilFunc, .func (.func 186) #[] #[]][i]? := fun i => by
    rw [World.var?_cell hg hv i, ← hcs, Array.getElem?_toList]
  exact ⟨hat 0, hat 1, hat 2, hat 3⟩
theorem gl_at (W : World) (h : laidMetH Tryz.prog laidL W) : GlAt W := by
  obtain ⟨h0, h1, h2, h3⟩ := cells_of h
  intro g cs hg
  have hg : (if g = 1 then some [AV.nilFunc, .func (.func 193) [] [], .nilFunc, .func (.func 186) [] []] else none) = some cs := hg
  split at hg
  · rename_i h; subst h
    cases hg
    obtain ⟨_, c, e, fr, q1, q2⟩ := cellq h0
    have same : ∀ i v, W.cell? ⟨1, i, none⟩ = some v → c[i]? = some v := fun i v hi => by
      obtain ⟨_, c', e', fr', p1, p2⟩ := cellq hi
      rw [q1] at p1
      cases p1
      exact p2
    have fn : ∀ f, VR (phAll W) (.func (.func f) [] []) (.func (.func f) #[] #[]) := fun f => .func f [] [] #[] #[] rfl rfl (fun i => by simp; exact .undef _) (fun i => by simp; exact .undef _)
    refine ⟨(Array.getElem?_eq_some_iff.1 q1).1, c, e, fr, q1, fun j x hx => ?_⟩
    match j, hx with
    | 0, hx => cases hx; exact ⟨_, same 0 _ h0, .nilFunc⟩
    | 1, hx => cases hx; exact ⟨_, same 1 _ h1, fn _⟩
    | 2, hx => cases hx; exact ⟨_, same 2 _ h2, .nilFunc⟩
    | 3, hx => cases hx; exact ⟨_, same 3 _ h3, fn _⟩
    | n + 4, hx => simp at hx
  · cases hg
/-- The door's own heap meets the condition. -/
theorem door_met (os : Os) (args : Array Value) : laidMetH Tryz.prog laidL ((World.doorLaid Tryz.prog 14 os).forCall (fun _ _ => 0) ⟨#[], args, []⟩).memory :=
  laidMetH_of_parts3 (fuel := 8) (laidMet_of_run' 8 (by kernel_rfl) (by kernel_rfl)) (by kernel_rfl) (by kernel_rfl)
end Go.Oct.Log
