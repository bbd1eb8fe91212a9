/- What the package-level variables hold. -/
import Derived.Test.YtddkghgfbhhcdaaDoorOT0
namespace Go.Oct.Wre
instance gl : Gl := ⟨fun g => if g = 1 then some [.nilFunc, .func (.func 174) [] [], .nilFunc, .func (.func 172) [] []] else none⟩
end Go.Oct.Wre
