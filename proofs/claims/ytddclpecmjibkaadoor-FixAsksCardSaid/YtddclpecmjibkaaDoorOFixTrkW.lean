/- Logs: a true track that ends at a point, as the program finds it. -/
import Derived.Test.YtddclpecmjibkaaDoorOFixBckW
set_option maxRecDepth 100000
set_option maxHeartbeats 8000000
set_option linter.unusedVariables false
set_option linter.unusedSimpArgs false
namespace Go.Oct.Fix
open Go.Oct
/-- A round over the points before. -/
structure RgT (lm : Nat) (U : AH) (env : Env) (f : Nat → Bool) (n : Nat) (σ : AH) : Prop where
  lim : σ.lim = lm
  nx : U.next + 2 ≤ σ.next
  low : ∀ k, k < U.next → σ.get k = U.get k
  mark : σ.get U.next = some .dfr
  loop : σ.get (U.next + 1) = some (.loop 76 0 env .ready none U.next)
  no : ∀ m, m < n → f m = false
structure RgF (lm : Nat) (U : AH) (env : Env) (b : Nat) (f : Nat → Bool) (σ : AH) : Prop where
  lim : σ.lim = lm
  nx : U.next + 2 ≤ σ.next
  low : ∀ k, k < U.next → k ≠ b → σ.get k = U.get k
  mark : σ.get U.next = some .dfr
  loop : ∃ env, σ.get (U.next + 1) = some (.loop 76 0 env .done (some (.exit 0)) U.next)
  hit : ∃ n, n < 3600 ∧ f n = true ∧ (∀ m, m < n → f m = false) ∧ σ.get b = some (.cells [.int .i64 (pt n).lo, .int .i64 (pt n).hi])
end Go.Oct.Fix
