/- What the package-level variables hold. -/
import Derived.Test.YtddkghgfbhhcdaaDoorOT0
namespace Go.Oct.Pla
instance gl : Gl := ⟨fun g => if g = 0 then some [.int .i64 (-1), .int .i64 (-1), .int .i64 (-1), .int .i64 (-1)] else none⟩
end Go.Oct.Pla
