/- What the package-level variables hold. -/
import Derived.Test.YtddclpecmjibkaaDoorOT0
namespace Go.Oct.Fix
instance gl : Gl := ⟨fun g => if g = 0 then some [.nilFunc, .func (.func 141) [] [], .nilFunc, .func (.func 139) [] []] else none⟩
end Go.Oct.Fix
