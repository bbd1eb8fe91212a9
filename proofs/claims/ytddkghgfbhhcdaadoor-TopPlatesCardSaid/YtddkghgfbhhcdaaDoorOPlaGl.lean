/- What the package-level variable of the program holds, in every world that a row hands in. -/
import Derived.Test.YtddkghgfbhhcdaaDoorOPlaP
import Derived.Test.YtddkghgfbhhcdaaDoorOT3
import Derived.RowKitVeiled
import Derived.OpenShut
import Derived.Test.YtddkghgfbhhcdaaDoorTie
set_option maxRecDepth 100000
set_option linter.unusedVariables false
set_option linter.unusedSimpArgs false
namespace Go.Oct.Pla
open Go.Oct Go.Proofs Go.Proofs.YtddkghgfbhhcdaaDoor Go.RowKit
abbrev laidL : List (String × DataW Unit) := [("octant/index.noTrain", Rows.laid_octant_index_noTrain)]
theorem gTrain : Tryd.prog.globalNamed "octant/index.noTrain" = some 0 := by kernel_rfl
theorem tTrain : (Tryd.prog.globals[0]?).map (·.type) = some 76 := by kernel_rfl
theorem cells76 : Tryd.prog.cellsOf 76 = 4 := by kernel_rfl
theorem cells3 : Tryd.prog.cellsOf 3 = 1 := by kernel_rfl
/-- The four cells. -/
theorem cells_of {W : World} (h : laidMetH Tryd.prog laidL W) : W.var? Tryd.prog "octant/index.noTrain" = some #[.int .i64 (-1), .int .i64 (-1), .int .i64 (-1), .int .i64 (-1)] := by
  rw [MakeChecks.laidMetH_plain _ _ _ (by kernel_rfl)] at h
  obtain ⟨ps, ⟨g, t, cs, fuel, p, q, hg, ht, hv, hd, _, _⟩, _, _⟩ := h
  obtain rfl := Option.some.inj (gTrain.symm.trans hg)
  obtain rfl := Option.some.inj (tTrain.symm.trans ht)
  obtain ⟨xs, m, _, ex, hlen, hl, hel⟩ := DataW.trod_struct Tryd.underlying76 hd
  rw [cells76] at hlen
  obtain ⟨l⟩ := cs
  match l, hlen with
  | [a, b, c, d], _ =>
    match xs, hl with
    | [x0, x1, x2, x3], _ =>
      have e3 := (DataW.agg.inj (Prod.mk.inj ex).1)
      simp only [List.map_cons, List.map_nil, List.cons.injEq, and_true] at e3
      have k0 := hel 0 _ rfl; have k1 := hel 1 _ rfl; have k2 := hel 2 _ rfl; have k3 := hel 3 _ rfl
      simp only [cells3] at k0 k1 k2 k3
      obtain ⟨z0, a0, b0, _⟩ := DataW.trod_int Tryd.underlying3 k0
      obtain ⟨z1, a1, b1, _⟩ := DataW.trod_int Tryd.underlying3 k1
      obtain ⟨z2, a2, b2, _⟩ := DataW.trod_int Tryd.underlying3 k2
      obtain ⟨z3, a3, b3, _⟩ := DataW.trod_int Tryd.underlying3 k3
      have a0' : a = .int .i64 z0 := by simpa [cells3] using a0
      have a1' : b = .int .i64 z1 := by simpa [cells3] using a1
      have a2' : c = .int .i64 z2 := by simpa [cells3] using a2
      have a3' : d = .int .i64 z3 := by simpa [cells3] using a3
      rw [b0, b1, b2, b3] at e3
      simp at e3
      obtain ⟨rfl, rfl, rfl, rfl⟩ := e3
      rw [hv, a0', a1', a2', a3']
theorem gl_at (W : World) (h : laidMetH Tryd.prog laidL W) : GlAt W := by
  have hc := cells_of h
  intro g cs hg
  have hg : (if g = 0 then some [AV.int .i64 (-1), .int .i64 (-1), .int .i64 (-1), .int .i64 (-1)] else none) = some cs := hg
  split at hg
  · rename_i h; subst h
    cases hg
    have hat : ∀ i, W.cell? ⟨0, i, none⟩ = [Value.int .i64 (-1), .int .i64 (-1), .int .i64 (-1), .int .i64 (-1)][i]? := fun i => by
      rw [World.var?_cell gTrain hc i]; simp
    have h0 := hat 0
    have h1 := hat 1
    have h2 := hat 2
    have h3 := hat 3
    simp only [List.getElem?_cons_zero, List.getElem?_cons_succ] at h0 h1 h2 h3
    obtain ⟨_, c, e, fr, q1, q2⟩ := cellq h0
    have same : ∀ i v, W.cell? ⟨0, i, none⟩ = some v → c[i]? = some v := fun i v hi => by
      obtain ⟨_, c', e', fr', p1, p2⟩ := cellq hi
      rw [q1] at p1
      cases p1
      exact p2
    refine ⟨(Array.getElem?_eq_some_iff.1 q1).1, c, e, fr, q1, fun j x hx => ?_⟩
    match j, hx with
    | 0, hx => cases hx; exact ⟨_, same 0 _ h0, .int _ _⟩
    | 1, hx => cases hx; exact ⟨_, same 1 _ h1, .int _ _⟩
    | 2, hx => cases hx; exact ⟨_, same 2 _ h2, .int _ _⟩
    | 3, hx => cases hx; exact ⟨_, same 3 _ h3, .int _ _⟩
    | n + 4, hx => simp at hx
  · cases hg
/-- The door's own heap meets the condition. -/
theorem door_met (os : Os) (args : Array Value) : laidMetH Tryd.prog laidL ((World.doorLaid Tryd.prog 14 os).forCall (fun _ _ => 0) ⟨#[], args, []⟩).memory :=
  laidMetH_of_parts3 (fuel := 8) (laidMet_of_run' 8 (by kernel_rfl) (by kernel_rfl)) (by kernel_rfl) (by kernel_rfl)
theorem glOK_at {W : World} (h : laidMetH Tryd.prog laidL W) : GlOK W := ⟨phAll W, fun b o cs e => by
  obtain ⟨h1, c, t, fr, h2, h3⟩ := gl_ok (gl_at W h) b o cs e
  exact ⟨h1, c, t, fr, h2, h3⟩⟩
end Go.Oct.Pla
