/- What the package-level variables hold. -/
import Derived.Test.YtddkghgfbhhcdaaGreatDoorOT0
namespace Go.Oct.Log
instance gl : Gl := ⟨fun g => if g = 1 then some [.nilFunc, .func (.func 193) [] [], .nilFunc, .func (.func 186) [] []] else none⟩
end Go.Oct.Log
