/- Watches: can one be? The specification's. -/
import Derived.Test.YtpccnjgeddjfjaaOClockWtP
import Derived.Test.YtpccnjgeddjfjaaOClockDays
import Derived.Test.YtpccnjgeddjfjaaOT4
set_option maxRecDepth 100000
set_option maxHeartbeats 1000000
set_option linter.unusedVariables false
set_option linter.unusedSimpArgs false
namespace Go.Oct.Clock
open Go.Oct
def cWt (nF nS : Bool) (w : Wt) : List AV := [vs nF w.F, vs nS w.S, .int .i64 w.wr, .int .i64 w.r0.lo, .int .i64 w.r0.hi, .int .i64 w.r1.lo, .int .i64 w.r1.hi, .int .i64 w.r2.lo, .int .i64 w.r2.hi]
def eBd (c : Cn) : AV := .agg [.int .i64 c.to, .int .i64 c.fr, .int .i64 c.more]
theorem encBd : Enc eBd 3 := ⟨fun _ => rfl, fun _ => rfl, fun _ => rfl, by decide⟩
theorem flatBd : flatE eBd := fun x c hc k f => by
  simp only [eBd, cells_agg, List.mem_cons, List.not_mem_nil, or_false] at hc
  rcases hc with rfl | rfl | rfl <;> exact ⟨rfl, rfl⟩
theorem abin_shr (s k : Nat) (h : k ≤ 63) : abin .shr (.int .i64 (s : Int)) (.int .i64 (k : Int)) = some (.int .i64 ((s / 2 ^ k : Nat) : Int)) := by
  have e : min ((k : Int).toNat) (IntKind.bits .i64) = k := by rw [Int.toNat_natCast]; exact Nat.min_eq_left (by show k ≤ 64; omega)
  have e2 : (s : Int).fdiv (2 ^ k) = ((s / 2 ^ k : Nat) : Int) := by
    rw [Int.fdiv_eq_ediv_of_nonneg _ (Int.le_of_lt (Int.pow_pos (by decide)))]
    simp
  simp only [abin, e]
  rw [if_neg (by omega), e2]
theorem appBd {lo : Nat} {σ : AH} {v : AV} {xs ys : List Cn} {nl : Bool} (h : Buf lo 3 eBd σ v xs) (hlim : σ.lim ≤ lo) (hlo : lo ≤ σ.next) (hsz : xs.length + ys.length ≤ 1000) {k : AV → AH → Prop}
    (hk : ∀ v' σ', Buf lo 3 eBd σ' v' (xs ++ ys) → Grew lo v v' σ σ' → k v' σ') : OptK2 (aappend 3 24 v (vl eBd nl ys) σ) k :=
  h.app encBd hlim hlo (vl_src (σ := σ) encBd nl ys).1 (vl_src (σ := σ) encBd nl ys).2 (by simp only [topBytes]; omega) hk
/-- So many numbers, as cells. -/
def tabI (b : Nat → Int) (n : Nat) : List AV := (List.range n).map fun v : Nat => .int .i64 (b v)
@[simp] theorem tabI_len (b : Nat → Int) (n : Nat) : (tabI b n).length = n := by simp [tabI]
theorem tabI_get {b : Nat → Int} {n v : Nat} (h : v < n) : (tabI b n)[v]? = some (.int .i64 (b v)) := by simp [tabI, h]
theorem tabI_set {b : Nat → Int} {n v : Nat} {x : Int} (h : v < n) : (tabI b n).set v (.int .i64 x) = tabI (fun u => if u = v then x else b u) n := by
  apply List.ext_getElem
  · simp
  · intro i h1 h2
    simp at h1 h2
    rw [List.getElem_set]
    by_cases e : v = i
    · subst e; simp [tabI]
    · have : ¬ i = v := fun h => e h.symm
      simp [tabI, e, this]
theorem tabI_zero (n : Nat) : zcells [AV.int .i64 0] n = tabI (fun _ => 0) n := by
  simp only [zcells, tabI]
  apply List.ext_getElem
  · simp
  · intro i h1 h2; simp
theorem rates_zero (ν : Nat → Nat → Nat) (w : Wt) (J : Nat) : ∀ n, ratesL ν w J 0 n = []
  | 0 => rfl
  | n + 1 => by
    simp [ratesL, rates_zero ν w J n]
end Go.Oct.Clock
