/- The temperatures of a day, one after the other. -/
import Derived.Test.YtddkghgfbhhcdaaOCryConR
set_option maxRecDepth 100000
set_option maxHeartbeats 2000000
set_option linter.unusedVariables false
set_option linter.unusedSimpArgs false
namespace Go.Oct.Cry
open Go.Oct
theorem degrees_ok {σ : AH} {lo hi : Int} {K : AV → AH → Prop} (hk : K (.func (.func 115) [] [.ptr (some (σ.next, 0))]) (σ.push (.cells [.int .i64 lo, .int .i64 hi]))) :
    Call prog O (.fn 59) [.agg [.int .i64 lo, .int .i64 hi]] σ K := by
  refine @call_of' _ _ pl _ _ _ _ _ _ _ ⟨K⟩ get59 ((oo (by decide)).2 _) rfl ?_
  simp (disch := omega) []
  exact hk
theorem degrees1_ok {lo hi : Int} (h1 : -1000 ≤ lo) (h2 : lo ≤ hi) (h3 : hi ≤ 1000) {b l : Nat} {I : Nat → AH → Prop} (hI : ∀ m σ, I m σ → σ.get b = some (.cells [.int .i64 lo, .int .i64 hi]))
    (hstep : ∀ (m : Nat) σ, I m σ → (m : Int) ≤ hi - lo → Call prog O (.yield l) [.int .i64 (lo + m)] σ (fun r σ' => r = .bool true ∧ I (m + 1) σ'))
    {σ : AH} (h0 : I 0 σ) {K : AV → AH → Prop} (hk : ∀ σ', I (hi - lo + 1).toNat σ' → K (.tuple []) σ') : Call prog O (.fn 115) [.func (.yield l) [] [], .ptr (some (b, 0))] σ K := by
  refine @call_of' _ _ pl _ _ _ _ _ _ _ ⟨K⟩ get115 ((oo (by decide)).2 _) rfl ?_
  have hb := hI 0 σ h0
  simp (disch := omega) [hb]
  refine lp_loop pl (fun k fr σ => ∃ m : Nat, (m : Int) + k = hi - lo + 1 ∧ fr = ⟨[(0, .func (.yield l) [] []), (1, .ptr (some (b, 0))), (3, .int .i64 (lo + m))], []⟩ ∧ I m σ) ⟨(hi - lo + 1).toNat, 0, by omega, by simp, h0⟩ ?_
  rintro k _ σ ⟨m, hm, rfl, hi0⟩
  have hb := hI m σ hi0
  by_cases hmk : (m : Int) ≤ hi - lo
  · have hm1 : lo + (m : Int) ≤ hi := by omega
    simp (disch := omega) [Und, hb, hm1]
    refine (hstep m σ hi0 hmk).mono ?_
    rintro r σ' ⟨rfl, hi1⟩
    simp (disch := omega) [Und, -Bool.exists_bool]
    exact ⟨k - 1, by omega, m + 1, by omega, by omega, hi1⟩
  · have hm1 : ¬ lo + (m : Int) ≤ hi := by omega
    simp (disch := omega) [Und, hb, hm1]
    obtain rfl : m = (hi - lo + 1).toNat := by omega
    exact hk σ hi0
end Go.Oct.Cry
