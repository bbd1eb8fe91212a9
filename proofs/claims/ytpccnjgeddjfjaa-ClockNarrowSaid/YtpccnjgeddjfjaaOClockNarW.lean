/- ClockNarrow: the closure that narrows a span. -/
import Derived.Test.YtpccnjgeddjfjaaOClockNar
import Derived.Test.YtpccnjgeddjfjaaOClockConW
set_option maxRecDepth 100000
set_option maxHeartbeats 2000000
set_option linter.unusedVariables false
set_option linter.unusedSimpArgs false
namespace Go.Oct.Clock
open Go.Oct
def part (b : List Int) (s : Span) (n : Int) : Span := ⟨chz s.lo s.hi (pick b n), chz (chz s.lo s.hi (pick b n)) s.hi (pick b (n + 1))⟩
theorem part_sub {b : List Int} {s : Span} {n : Int} (h : s.lo ≤ s.hi) : sub (part b s n) s := by
  have h1 := chz_in (n := pick b n) h
  have h2 := chz_in (n := pick b (n + 1)) h1.2
  unfold sub part
  simp only
  omega
@[simp] theorem to_ok (a b : Int) : ans prog O 35 [.int .i64 a, .int .i64 b] = some (.agg [.int .i64 a, .int .i64 b]) := by
  refine fn_of' pl get35 (oo (by decide)) rfl rfl ?_
  simp (disch := omega) []
theorem part_ok (nb : Bool) (b : List Int) (s : Span) (n : Int) (hb : b.length < 2 ^ 62) (h1 : -1000000000 ≤ s.lo) (h2 : s.lo ≤ s.hi) (h3 : s.hi ≤ 1000000000) (h4 : 0 ≤ n) (h5 : n ≤ 1000000) :
    ans prog O 36 [.agg [.int .i64 s.lo, .int .i64 s.hi], .int .i64 n, .vptr [vs nb b] 0] = some (eSpan (part b s n)) := by
  have q := chz_in (n := pick b n) h2
  have e1 : w64 (n + 1) = n + 1 := w64_id _ (by omega) (by omega)
  refine fn_of' pl get36 (oo (by decide)) rfl rfl ?_
  simp only [pick] at q
  simp (disch := omega) [e1]
  rfl
/-- The closure, with the numbers' place in the heap. -/
theorem part_call {σ : AH} {nb : Bool} {b : List Int} {s : Span} {n : Int} {k : Kn (AV → AH → Prop)} {c : Bool} (hg : σ.get 1 = some (.cells [vs nb b])) (hb : b.length < 2 ^ 62) (h1 : -1000000000 ≤ s.lo) (h2 : s.lo ≤ s.hi) (h3 : s.hi ≤ 1000000000) (h4 : 0 ≤ n) (h5 : n ≤ 1000000) (hc : c = false)
    (hk : k.k (eSpan (part b s n)) σ) : @PcI prog O c 36 [.agg [.int .i64 s.lo, .int .i64 s.hi], .int .i64 n, .ptr (some (1, 0))] σ k := by
  subst hc
  exact pc_scal (.cons (v := .agg [.int .i64 s.lo, .int .i64 s.hi]) (S := []) ⟨rfl, fun _ _ => rfl⟩ (.cons (Snap.int _ _ _) (.cons (SnapK.snap (SnapK.ptr hg (.cons (SnapK.vl _ _ _ _ _) .nil))) .nil))) (fun h => by simp at h) (by simp) (oo (args := []) (by decide)).1
    (part_ok nb b s n hb h1 h2 h3 h4 h5) rfl hk
theorem eq_span (b : List Int) (s : Span) (n : Int) : eSpan (part b s n) = .agg [.int .i64 (part b s n).lo, .int .i64 (part b s n).hi] := rfl
end Go.Oct.Clock
