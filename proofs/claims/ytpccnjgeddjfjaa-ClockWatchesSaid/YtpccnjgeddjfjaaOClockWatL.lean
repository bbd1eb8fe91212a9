/- ClockWatches: Jumped and Since return what the chapter says. -/
import Derived.Test.YtpccnjgeddjfjaaOClockWtJ
import Derived.Test.YtpccnjgeddjfjaaOT3
set_option maxRecDepth 100000
set_option maxHeartbeats 1000000
set_option linter.unusedVariables false
set_option linter.unusedSimpArgs false
namespace Go.Oct.Clock
open Go.Oct
theorem JumpedX_ok {nF nS : Bool} {w : Wt} (hw : ¬ okWt w) (hF : w.F.length < 2 ^ 62) (hS : w.S.length < 2 ^ 62) : ans prog O 28 [.agg (cWt nF nS w)] = some (.tuple [vs true [], .int .i64 73]) := by
  refine fn_of' pl get28 (oo (by decide)) rfl rfl ?_
  simp (disch := omega) [cWt, -Bool.exists_bool]
  refine watched_call hF hS rfl (fun h => absurd h hw) (fun _ σ mp s0 sn sg hle => ?_)
  simp (disch := omega) [cWt, s0, -Bool.exists_bool]
  rfl
theorem SinceX_ok {nF nS : Bool} {w : Wt} (hw : ¬ okWt w) (hF : w.F.length < 2 ^ 62) (hS : w.S.length < 2 ^ 62) : ans prog O 30 [.agg (cWt nF nS w)] = some (.tuple [.int .i64 0, .int .i64 73]) := by
  refine fn_of' pl get30 (oo (by decide)) rfl rfl ?_
  simp (disch := omega) [cWt, -Bool.exists_bool]
  refine watched_call hF hS rfl (fun h => absurd h hw) (fun _ σ mp s0 sn sg hle => ?_)
  simp (disch := omega) [cWt, s0, -Bool.exists_bool]
theorem JumpedRX_ok {nF nS : Bool} {w : Wt} (hw : ¬ okWt w) (hF : w.F.length < 2 ^ 62) (hS : w.S.length < 2 ^ 62) : ans prog O 29 [.agg (cWt nF nS w)] = some (.tuple [vs true [], .int .i64 73]) := by
  have h1 := isWatch_ok nF nS w hF hS
  rw [decide_eq_false hw] at h1
  simp only [cWt] at h1
  refine fn_of' pl get29 (oo (by decide)) rfl rfl ?_
  simp (disch := omega) [cWt, h1, -Bool.exists_bool]
  rfl
theorem SinceRX_ok {nF nS : Bool} {w : Wt} (hw : ¬ okWt w) (hF : w.F.length < 2 ^ 62) (hS : w.S.length < 2 ^ 62) : ans prog O 31 [.agg (cWt nF nS w)] = some (.tuple [.int .i64 0, .int .i64 73]) := by
  have h1 := isWatch_ok nF nS w hF hS
  rw [decide_eq_false hw] at h1
  simp only [cWt] at h1
  refine fn_of' pl get31 (oo (by decide)) rfl rfl ?_
  simp (disch := omega) [cWt, h1, -Bool.exists_bool]
theorem jo_len {w : Wt} {L : List Int} (h : JumpOf w L) : L.length ≤ 8 := by
  obtain ⟨m, _, rfl, _⟩ := h
  exact jl_len w m 8
theorem ClockWatches_main (nF nS : Bool) (w : Wt) (hF : w.F.length < 2 ^ 62) (hS : w.S.length < 2 ^ 62) : ans prog O 6 [.agg (cWt nF nS w)] = some (.bool true) := by
  refine fn_of' pl get6 (oo (by decide)) rfl rfl ?_
  by_cases hw : okWt w
  · obtain ⟨_, ⟨nl, L, rfl, hL⟩, a1⟩ := JumpedP_ok (nF := nF) (nS := nS) hw
    obtain ⟨_, ⟨L', rfl, hL'⟩, a2⟩ := JumpedR_ok (nF := nF) (nS := nS) hw
    obtain ⟨_, ⟨d, e, rfl, hd⟩, a3⟩ := SinceP_ok (nF := nF) (nS := nS) hw
    obtain ⟨_, ⟨d', e', rfl, hd'⟩, a4⟩ := SinceR_ok (nF := nF) (nS := nS) hw
    obtain rfl := hL.uniq hL'
    obtain ⟨rfl, rfl⟩ := hd.uniq hd'
    have hl := jo_len hL
    simp only [cWt] at a1 a2 a3 a4
    simp (disch := omega) [cWt, a1, a2, a3, a4, -Bool.exists_bool]
  · have a1 := JumpedX_ok (nF := nF) (nS := nS) hw hF hS
    have a2 := JumpedRX_ok (nF := nF) (nS := nS) hw hF hS
    have a3 := SinceX_ok (nF := nF) (nS := nS) hw hF hS
    have a4 := SinceRX_ok (nF := nF) (nS := nS) hw hF hS
    simp only [cWt] at a1 a2 a3 a4
    have hs := Same_ok true true [] [] (by simp)
    simp (disch := omega) [cWt, a1, a2, a3, a4, hs, -Bool.exists_bool]
theorem ClockWatches_ok (nF nS : Bool) (F S : List Int) (wr : Int) (r0 r1 r2 : Span) {x0 x1 : AV} (h1 : Slice (AV.int .i64) i64 x0 nF F) (h2 : Slice (AV.int .i64) i64 x1 nS S) :
    ans prog O 6 [.agg [vs nF F, vs nS S, .int .i64 wr, .int .i64 r0.lo, .int .i64 r0.hi, .int .i64 r1.lo, .int .i64 r1.hi, .int .i64 r2.lo, .int .i64 r2.hi]] = some (.bool true) := by
  have := h1.len; have := h2.len
  exact ClockWatches_main nF nS ⟨F, S, wr, r0, r1, r2⟩ (by show F.length < _; omega) (by show S.length < _; omega)
end Go.Oct.Clock
