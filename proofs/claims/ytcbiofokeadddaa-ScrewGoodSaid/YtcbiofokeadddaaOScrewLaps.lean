/- Laps, and the statement of laps. -/
import Derived.Test.YtcbiofokeadddaaOScrewLap
set_option maxRecDepth 100000
set_option linter.unusedVariables false
set_option linter.unusedSimpArgs false
namespace Go.Oct.Screw
open Go.Oct
/-- The greatest one of the first j, and the least one. -/
def mxT (xs : List Int) (j : Nat) : Int := (xs.take j).foldl max (nth xs 0)
def mnT (xs : List Int) (j : Nat) : Int := (xs.take j).foldl min (nth xs 0)
theorem mxT_succ {xs : List Int} {j : Nat} (h : j < xs.length) : mxT xs (j + 1) = max (mxT xs j) (nth xs j) := by
  unfold mxT; rw [take_succ_nth h, List.foldl_append]; rfl
theorem mnT_succ {xs : List Int} {j : Nat} (h : j < xs.length) : mnT xs (j + 1) = min (mnT xs j) (nth xs j) := by
  unfold mnT; rw [take_succ_nth h, List.foldl_append]; rfl
theorem mxT_one {xs : List Int} (h : 0 < xs.length) : mxT xs 1 = nth xs 0 := by rw [mxT_succ h]; simp [mxT]
theorem mnT_one {xs : List Int} (h : 0 < xs.length) : mnT xs 1 = nth xs 0 := by rw [mnT_succ h]; simp [mnT]
abbrev mx (xs : List Int) : Int := mxT xs xs.length
abbrev mn (xs : List Int) : Int := mnT xs xs.length
theorem Max_ok (nl : Bool) (xs : List Int) (hx : xs.length < 2 ^ 62) (h : 0 < xs.length) : ans prog O 88 [vs nl xs] = some (.int .i64 (mx xs)) := by
  refine fn_of' pl get88 (oo (by decide)) rfl rfl ?_
  simp +contextual (disch := omega) []
  refine ⟨fun e => by omega, fun _ => ⟨h, ?_⟩⟩
  refine lp_loop pl (fun k fr σ => ∃ j, j + k = xs.length ∧ 1 ≤ j ∧ fr = ⟨[(0, vs nl xs), (3, .int .i64 (mxT xs j)), (4, .int .i64 j)], []⟩ ∧ σ = ⟨0, 0, .leaf⟩) ⟨xs.length - 1, 1, by omega, by omega, by rw [mxT_one h]; rfl, rfl⟩ ?_
  rintro k _ _ ⟨j, hj, h1, rfl, rfl⟩
  simp +contextual (disch := omega) [Und]
  refine ⟨fun hjl => ⟨k - 1, by omega, j + 1, by omega, by omega, by rw [mxT_succ hjl], by omega⟩, fun hjl => by rw [show j = xs.length by omega]⟩
theorem Min_ok (nl : Bool) (xs : List Int) (hx : xs.length < 2 ^ 62) (h : 0 < xs.length) : ans prog O 89 [vs nl xs] = some (.int .i64 (mn xs)) := by
  refine fn_of' pl get89 (oo (by decide)) rfl rfl ?_
  simp +contextual (disch := omega) []
  refine ⟨fun e => by omega, fun _ => ⟨h, ?_⟩⟩
  refine lp_loop pl (fun k fr σ => ∃ j, j + k = xs.length ∧ 1 ≤ j ∧ fr = ⟨[(0, vs nl xs), (3, .int .i64 (mnT xs j)), (4, .int .i64 j)], []⟩ ∧ σ = ⟨0, 0, .leaf⟩) ⟨xs.length - 1, 1, by omega, by omega, by rw [mnT_one h]; rfl, rfl⟩ ?_
  rintro k _ _ ⟨j, hj, h1, rfl, rfl⟩
  simp +contextual (disch := omega) [Und]
  refine ⟨fun hjl => ⟨k - 1, by omega, j + 1, by omega, by omega, by rw [mnT_succ hjl], by omega⟩, fun hjl => by rw [show j = xs.length by omega]⟩
theorem Spread_ok (nl : Bool) (xs : List Int) (hx : xs.length < 2 ^ 62) (h : 0 < xs.length) : ans prog O 90 [vs nl xs] = some (.int .i64 (w64 (mx xs - mn xs))) := by
  refine fn_of' pl get90 (oo (by decide)) rfl rfl ?_
  simp +contextual (disch := omega) []
  refine ⟨by omega, ?_⟩
  refine lp_loop pl (fun k fr σ => ∃ j, j + k = xs.length ∧ fr = ⟨[(0, vs nl xs), (3, .int .i64 (mnT xs j)), (4, .int .i64 (mxT xs j)), (5, .int .i64 j)], []⟩ ∧ σ = ⟨0, 0, .leaf⟩) ⟨xs.length, 0, by omega, rfl, rfl⟩ ?_
  rintro k _ _ ⟨j, hj, rfl, rfl⟩
  simp +contextual (disch := omega) [Und]
  refine ⟨fun hjl => ⟨k - 1, by omega, j + 1, by omega, by rw [mnT_succ hjl], by rw [mxT_succ hjl], by omega⟩, fun hjl => by rw [show j = xs.length by omega]⟩
/-- How often a screw must be lapped. -/
def lapsGo (n : Nat) : Nat → Nat → List Int → Int → AV
  | 0, _, _, _ => .tuple [.int .i64 0, .int .i64 4]
  | r + 1, k, xs, lim => if w64 (mx xs - mn xs) ≤ lim then .tuple [.int .i64 k, .int .i64 0] else if xs.length < n then .tuple [.int .i64 0, .int .i64 4] else lapsGo n r (k + 1) (lap xs n) (w64 (lim * n))
def lapsRes (xs : List Int) (n lim : Int) : AV := if okLap xs n then (if 0 ≤ lim ∧ lim ≤ 2000000 then lapsGo n.toNat 5 0 xs lim else .tuple [.int .i64 0, .int .i64 7]) else .tuple [.int .i64 0, .int .i64 25]
theorem lapsGo_step {n : Nat} {r j : Nat} {ys : List Int} {lm : Int} : lapsGo n (r + 1) j ys lm = if w64 (mx ys - mn ys) ≤ lm then .tuple [.int .i64 j, .int .i64 0] else if ys.length < n then .tuple [.int .i64 0, .int .i64 4] else lapsGo n r (j + 1) (lap ys n) (w64 (lm * n)) := (rfl)
theorem Laps_ok (nl : Bool) (xs : List Int) (hx : xs.length < 2 ^ 62) (n lim : Int) : ans prog O 34 [vs nl xs, .int .i64 n, .int .i64 lim] = some (lapsRes xs n lim) := by
  by_cases h : okLap xs n
  · by_cases hl : 0 ≤ lim ∧ lim ≤ 2000000
    · have hres : lapsRes xs n lim = lapsGo n.toNat 5 0 xs lim := by unfold lapsRes; rw [if_pos h, if_pos hl]
      rw [hres]
      refine fn_of' pl get34 (oo (by decide)) rfl rfl ?_
      simp +contextual (disch := omega) [h, hl]
      refine lp_loop pl (fun k fr σ => ∃ (j : Nat) (nl : Bool) (ys : List Int) (lm : Int), j + k = 5 ∧ fr = ⟨[(0, vs nl ys), (1, .int .i64 n), (2, .int .i64 lm), (8, .func (.func 85) [.int .i64 n] []), (19, .int .i64 j)], []⟩ ∧ σ = ⟨0, 0, .leaf⟩ ∧ 0 < ys.length ∧ ys.length < 2 ^ 40 ∧ lapsGo n.toNat k j ys lm = lapsGo n.toNat 5 0 xs lim)
        ⟨5, 0, nl, xs, lim, rfl, rfl, rfl, by have := h.1; omega, by have := h.1; omega, rfl⟩ ?_
      rintro k _ _ ⟨j, nl, ys, lm, hj, rfl, rfl, hy, hy2, hgo⟩
      obtain ⟨⟨h1, h2⟩, ⟨h3, h4⟩, h5⟩ := h
      have e : n = (n.toNat : Nat) := by omega
      have hlap := nutlap_ok nl ys hy2 n.toNat (by omega) (by omega)
      rw [← e] at hlap
      simp +contextual (disch := omega) [Und, Max_ok, Min_ok, hlap, -Bool.exists_bool]
      refine ⟨fun hj5 => ?_, fun hj5 => ?_⟩
      · obtain ⟨k, rfl⟩ : ∃ m, k = m + 1 := ⟨k - 1, by omega⟩
        rw [lapsGo_step] at hgo
        refine ⟨fun hs => ?_, fun hs => ⟨fun hl => ?_, fun hl => ?_⟩⟩
        · rw [if_pos hs] at hgo; exact hgo
        · rw [if_neg (by omega), if_pos (by omega)] at hgo; exact hgo
        · rw [if_neg (by omega), if_neg (by omega)] at hgo
          rw [← e] at hgo
          exact ⟨k, by omega, j + 1, by omega, false, lap ys n.toNat, _, ⟨rfl, rfl, by omega⟩, by rw [lap_length]; omega, by rw [lap_length]; omega, hgo⟩
      · obtain rfl : k = 0 := by omega
        exact hgo
    · have hres : lapsRes xs n lim = .tuple [.int .i64 0, .int .i64 7] := by unfold lapsRes; rw [if_pos h, if_neg hl]
      rw [hres]
      refine fn_of' pl get34 (oo (by decide)) rfl rfl ?_
      simp +contextual (disch := omega) [h, hl]
  · have hres : lapsRes xs n lim = .tuple [.int .i64 0, .int .i64 25] := by unfold lapsRes; rw [if_neg h]
    rw [hres]
    refine fn_of' pl get34 (oo (by decide)) rfl rfl ?_
    simp +contextual (disch := omega) [h]
theorem RefLaps_ok (nl : Bool) (xs : List Int) (hx : xs.length < 2 ^ 62) (n lim : Int) : ans prog O 35 [vs nl xs, .int .i64 n, .int .i64 lim] = some (lapsRes xs n lim) := by
  by_cases h : okLap xs n
  · by_cases hl : 0 ≤ lim ∧ lim ≤ 2000000
    · have hres : lapsRes xs n lim = lapsGo n.toNat 5 0 xs lim := by unfold lapsRes; rw [if_pos h, if_pos hl]
      rw [hres]
      refine fn_of' pl get35 (oo (by decide)) rfl rfl ?_
      simp +contextual (disch := omega) [h, hl]
      refine lp_loop pl (fun k fr σ => ∃ (j : Nat) (nl : Bool) (ys : List Int) (lm : Int), j + k = 5 ∧ fr = ⟨[(0, vs nl ys), (1, .int .i64 n), (2, .int .i64 lm), (8, .int .i64 j)], []⟩ ∧ σ = ⟨0, 0, .leaf⟩ ∧ 0 < ys.length ∧ ys.length < 2 ^ 40 ∧ lapsGo n.toNat k j ys lm = lapsGo n.toNat 5 0 xs lim)
        ⟨5, 0, nl, xs, lim, rfl, rfl, rfl, by have := h.1; omega, by have := h.1; omega, rfl⟩ ?_
      rintro k _ _ ⟨j, nl, ys, lm, hj, rfl, rfl, hy, hy2, hgo⟩
      obtain ⟨⟨h1, h2⟩, ⟨h3, h4⟩, h5⟩ := h
      have e : n = (n.toNat : Nat) := by omega
      have hlap := lapped_ok nl ys hy2 n.toNat (by omega) (by omega)
      rw [← e] at hlap
      simp +contextual (disch := omega) [Und, Spread_ok, hlap, -Bool.exists_bool]
      refine ⟨fun hj5 => ?_, fun hj5 => ?_⟩
      · obtain ⟨k, rfl⟩ : ∃ m, k = m + 1 := ⟨k - 1, by omega⟩
        rw [lapsGo_step] at hgo
        refine ⟨fun hs => ?_, fun hs => ⟨fun hl => ?_, fun hl => ?_⟩⟩
        · rw [if_pos hs] at hgo; exact hgo
        · rw [if_neg (by omega), if_pos (by omega)] at hgo; exact hgo
        · rw [if_neg (by omega), if_neg (by omega)] at hgo
          rw [← e] at hgo
          exact ⟨k, by omega, j + 1, by omega, _, lap ys n.toNat, _, ⟨rfl, rfl, by omega⟩, by rw [lap_length]; omega, by rw [lap_length]; omega, hgo⟩
      · obtain rfl : k = 0 := by omega
        exact hgo
    · have hres : lapsRes xs n lim = .tuple [.int .i64 0, .int .i64 7] := by unfold lapsRes; rw [if_pos h, if_neg hl]
      rw [hres]
      refine fn_of' pl get35 (oo (by decide)) rfl rfl ?_
      simp +contextual (disch := omega) [h, hl]
  · have hres : lapsRes xs n lim = .tuple [.int .i64 0, .int .i64 25] := by unfold lapsRes; rw [if_neg h]
    rw [hres]
    refine fn_of' pl get35 (oo (by decide)) rfl rfl ?_
    simp +contextual (disch := omega) [h]
theorem lapsGo_eq (n : Nat) : ∀ (r j : Nat) (ys : List Int) (lm : Int), ∃ a b, lapsGo n r j ys lm = .tuple [.int .i64 a, .int .i64 b]
  | 0, _, _, _ => ⟨_, _, rfl⟩
  | r + 1, j, ys, lm => by
    rw [lapsGo_step]
    split
    · exact ⟨_, _, rfl⟩
    · split
      · exact ⟨_, _, rfl⟩
      · exact lapsGo_eq n r _ _ _
theorem lapsRes_eq (xs : List Int) (n lim : Int) : ∃ a b, lapsRes xs n lim = .tuple [.int .i64 a, .int .i64 b] := by
  unfold lapsRes
  split
  · split
    · exact lapsGo_eq _ _ _ _ _
    · exact ⟨_, _, rfl⟩
  · exact ⟨_, _, rfl⟩
theorem lapRes_eq (nl nl' : Bool) (xs : List Int) (n : Int) : ∃ a b ys e, ys.length ≤ xs.length + 1 ∧ lapRes nl xs n = .tuple [vs a ys, .int .i64 e] ∧ lapRes nl' xs n = .tuple [vs b ys, .int .i64 e] := by
  unfold lapRes
  split
  · exact ⟨_, _, _, _, by rw [lap_length]; omega, rfl, rfl⟩
  · exact ⟨_, _, [], _, by simp, rfl, rfl⟩
theorem ScrewLaps_ok (nl : Bool) (xs : List Int) (n lim : Int) (hs : Slice (AV.int .i64) i64 (vs nl xs) nl xs) (_ : i64 n) (_ : i64 lim) : ans prog O 5 [vs nl xs, .int .i64 n, .int .i64 lim] = some (.bool true) := by
  refine fn_of' pl get5 (oo (by decide)) rfl rfl ?_
  have hx := hs.len
  obtain ⟨a, b, h⟩ := lapsRes_eq xs n lim
  obtain ⟨c, d, ys, e, hy, h1, h2⟩ := lapRes_eq false (lap xs n.toNat).isEmpty xs n
  simp +contextual (disch := omega) [Lap_ok, RefLap_ok, Laps_ok, RefLaps_ok, h, h1, h2]
end Go.Oct.Screw
