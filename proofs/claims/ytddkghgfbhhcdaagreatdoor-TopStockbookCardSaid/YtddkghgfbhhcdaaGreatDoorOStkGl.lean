/- What the package-level variable of the program holds, in every world that a row hands in. -/
import Derived.Test.YtddkghgfbhhcdaaGreatDoorOStkP
import Derived.Test.YtddkghgfbhhcdaaGreatDoorOT3
import Derived.RowKitVeiled
import Derived.Test.YtddkghgfbhhcdaaGreatDoorTie
set_option maxRecDepth 100000
set_option linter.unusedVariables false
set_option linter.unusedSimpArgs false
namespace Go.Oct.Stk
open Go.Oct Go.Proofs Go.Proofs.YtddkghgfbhhcdaaGreatDoor Go.RowKit
abbrev laidL : List (String × DataW Unit) := [("octant/shop.metals", Rows.laid_octant_shop_metals)]
theorem gMetals : Tryz.prog.globalNamed "octant/shop.metals" = some 0 := by kernel_rfl
theorem tMetals : (Tryz.prog.globals[0]?).map (·.type) = some 135 := by kernel_rfl
theorem c135 : Tryz.prog.cellsOf 135 = 6 := by kernel_rfl
theorem c134 : Tryz.prog.cellsOf 134 = 3 := by kernel_rfl
theorem c127 : Tryz.prog.cellsOf 127 = 1 := by kernel_rfl
theorem c132 : Tryz.prog.cellsOf 132 = 1 := by kernel_rfl
theorem c133 : Tryz.prog.cellsOf 133 = 1 := by kernel_rfl
/-- The six cells. -/
theorem cells_of {W : World} (h : laidMetH Tryz.prog laidL W) : ∀ i, W.cell? ⟨0, i, none⟩ = [(.func (.func 185) #[] #[] : Value), .func (.func 188) #[] #[], .func (.func 189) #[] #[], .func (.func 190) #[] #[], .func (.func 191) #[] #[], .func (.func 192) #[] #[]][i]? := by
  obtain ⟨g, t, cs, fuel, p, hg, ht, hv, hd⟩ := h.funcs (List.mem_singleton.2 rfl)
  obtain rfl := Option.some.inj (gMetals.symm.trans hg)
  obtain rfl := Option.some.inj (tMetals.symm.trans ht)
  obtain ⟨xs, m, rfl, hx, hlen, hxl, hel⟩ := DataW.trod_array Tryz.underlying135 hd
  rw [c135] at hlen
  simp only [c134] at hel
  have hx1 := congrArg Prod.fst hx
  have cl : cs.toList.length = 6 := hlen
  obtain ⟨c0, c1, c2, c3, c4, c5, hcs⟩ : ∃ c0 c1 c2 c3 c4 c5, cs.toList = [c0, c1, c2, c3, c4, c5] := by
    match h : cs.toList, cl with
    | [c0, c1, c2, c3, c4, c5], _ => exact ⟨c0, c1, c2, c3, c4, c5, rfl⟩
  obtain ⟨x0, x1, rfl⟩ : ∃ x0 x1, xs = [x0, x1] := by
    match xs, hxl with
    | [x0, x1], _ => exact ⟨x0, x1, rfl⟩
  simp only [List.map_cons, List.map_nil] at hx1
  injection hx1 with hx1
  injection hx1 with a0 hx1
  injection hx1 with a1 hx1
  have e0 := hel 0 (by omega)
  have e1 := hel 1 (by omega)
  rw [hcs] at e0 e1
  simp only [Nat.zero_mul, Nat.one_mul, List.drop_zero, List.drop_succ_cons, List.take_succ_cons, List.take_zero, List.getElem?_cons_zero, List.getElem?_cons_succ] at e0 e1
  obtain ⟨ys, m0, rfl, hy, _, hyl, hfy⟩ := DataW.trod_struct Tryz.underlying134 e0
  obtain ⟨zs, m1, hm, hz, _, hzl, hfz⟩ := DataW.trod_struct Tryz.underlying134 e1
  obtain rfl : m0 = m1 := by omega
  obtain ⟨y0, y1, y2, rfl⟩ : ∃ y0 y1 y2, ys = [y0, y1, y2] := by
    match ys, hyl with
    | [y0, y1, y2], _ => exact ⟨y0, y1, y2, rfl⟩
  obtain ⟨z0, z1, z2, rfl⟩ : ∃ z0 z1 z2, zs = [z0, z1, z2] := by
    match zs, hzl with
    | [z0, z1, z2], _ => exact ⟨z0, z1, z2, rfl⟩
  have hy1 := congrArg Prod.fst hy
  have hz1 := congrArg Prod.fst hz
  rw [← a0] at hy1
  rw [← a1] at hz1
  simp only [List.map_cons, List.map_nil] at hy1 hz1
  injection hy1 with hy1
  injection hy1 with b0 hy1
  injection hy1 with b1 hy1
  injection hy1 with b2 hy1
  injection hz1 with hz1
  injection hz1 with d0 hz1
  injection hz1 with d1 hz1
  injection hz1 with d2 hz1
  have f0 := hfy 0 _ rfl
  have f1 := hfy 1 _ rfl
  have f2 := hfy 2 _ rfl
  have f3 := hfz 0 _ rfl
  have f4 := hfz 1 _ rfl
  have f5 := hfz 2 _ rfl
  simp only [c127, c132, c133, List.drop_zero, List.drop_succ_cons, List.take_succ_cons, List.take_zero, List.getElem?_cons_zero, List.getElem?_cons_succ] at f0 f1 f2 f3 f4 f5
  have n0 : c0 = .func (.func 185) #[] #[] := by
    rw [show y0 = (.held (40 :: [111, 99, 116, 97, 110, 116, 47, 115, 104, 111, 112, 46, 112, 105, 101, 99, 101, 41, 46, 98, 114, 97, 115, 115]), y0.2) from Prod.ext b0.symm rfl] at f0
    exact Go.func_of_trod (f0 := 185) Tryz.underlying127 (by kernel_rfl) f0
  have n1 : c1 = .func (.func 188) #[] #[] := by
    rw [show y1 = (.held (111 :: [99, 116, 97, 110, 116, 47, 115, 104, 111, 112, 46, 109, 101, 116, 97, 108, 115, 36, 49]), y1.2) from Prod.ext b1.symm rfl] at f1
    exact Go.func_of_trod (f0 := 188) Tryz.underlying132 (by kernel_rfl) f1
  have n2 : c2 = .func (.func 189) #[] #[] := by
    rw [show y2 = (.held (111 :: [99, 116, 97, 110, 116, 47, 115, 104, 111, 112, 46, 109, 101, 116, 97, 108, 115, 36, 50]), y2.2) from Prod.ext b2.symm rfl] at f2
    exact Go.func_of_trod (f0 := 189) Tryz.underlying133 (by kernel_rfl) f2
  have n3 : c3 = .func (.func 190) #[] #[] := by
    rw [show z0 = (.held (40 :: [111, 99, 116, 97, 110, 116, 47, 115, 104, 111, 112, 46, 112, 105, 101, 99, 101, 41, 46, 105, 118, 111, 114, 121]), z0.2) from Prod.ext d0.symm rfl] at f3
    exact Go.func_of_trod (f0 := 190) Tryz.underlying127 (by kernel_rfl) f3
  have n4 : c4 = .func (.func 191) #[] #[] := by
    rw [show z1 = (.held (111 :: [99, 116, 97, 110, 116, 47, 115, 104, 111, 112, 46, 109, 101, 116, 97, 108, 115, 36, 51]), z1.2) from Prod.ext d1.symm rfl] at f4
    exact Go.func_of_trod (f0 := 191) Tryz.underlying132 (by kernel_rfl) f4
  have n5 : c5 = .func (.func 192) #[] #[] := by
    rw [show z2 = (.held (111 :: [99, 116, 97, 110, 116, 47, 115, 104, 111, 112, 46, 109, 101, 116, 97, 108, 115, 36, 52]), z2.2) from Prod.ext d2.symm rfl] at f5
    exact Go.func_of_trod (f0 := 192) Tryz.underlying133 (by kernel_rfl) f5
  subst n0 n1 n2 n3 n4 n5
  intro i
  rw [World.var?_cell hg hv i, ← hcs, Array.getElem?_toList]
theorem gl_at (W : World) (h : laidMetH Tryz.prog laidL W) : GlAt W := by
  have hc := cells_of h
  intro g cs hg
  have hg : (if g = 0 then some [(.func (.func 185) [] [] : AV), .func (.func 188) [] [], .func (.func 189) [] [], .func (.func 190) [] [], .func (.func 191) [] [], .func (.func 192) [] []] else none) = some cs := hg
  split at hg
  · rename_i h; subst h
    cases hg
    obtain ⟨_, c, e, fr, q1, q2⟩ := cellq (hc 0)
    have same : ∀ i v, W.cell? ⟨0, i, none⟩ = some v → c[i]? = some v := fun i v hi => by
      obtain ⟨_, c', e', fr', p1, p2⟩ := cellq hi
      rw [q1] at p1
      cases p1
      exact p2
    have fn : ∀ f, VR (phAll W) (.func (.func f) [] []) (.func (.func f) #[] #[]) := fun f => .func f [] [] #[] #[] rfl rfl (fun i => by simp; exact .undef _) (fun i => by simp; exact .undef _)
    refine ⟨(Array.getElem?_eq_some_iff.1 q1).1, c, e, fr, q1, fun j x hx => ?_⟩
    match j, hx with
    | 0, hx => cases hx; exact ⟨_, same 0 _ (hc 0), fn _⟩
    | 1, hx => cases hx; exact ⟨_, same 1 _ (hc 1), fn _⟩
    | 2, hx => cases hx; exact ⟨_, same 2 _ (hc 2), fn _⟩
    | 3, hx => cases hx; exact ⟨_, same 3 _ (hc 3), fn _⟩
    | 4, hx => cases hx; exact ⟨_, same 4 _ (hc 4), fn _⟩
    | 5, hx => cases hx; exact ⟨_, same 5 _ (hc 5), fn _⟩
    | n + 6, hx => simp at hx
  · cases hg
/-- The door's own heap meets the condition. -/
theorem door_met (os : Os) (args : Array Value) : laidMetH Tryz.prog laidL ((World.doorLaid Tryz.prog 14 os).forCall (fun _ _ => 0) ⟨#[], args, []⟩).memory :=
  laidMetH_of_parts3 (fuel := 8) (laidMet_of_run' 8 (by kernel_rfl) (by kernel_rfl)) (by kernel_rfl) (by kernel_rfl)
end Go.Oct.Stk
