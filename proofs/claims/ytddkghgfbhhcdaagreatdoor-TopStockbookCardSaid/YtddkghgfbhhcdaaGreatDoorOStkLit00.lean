/- What the package-level variables hold. -/
import Derived.Test.YtddkghgfbhhcdaaGreatDoorOT0
namespace Go.Oct.Stk
instance gl : Gl := ⟨fun g => if g = 0 then some [.func (.func 185) [] [], .func (.func 188) [] [], .func (.func 189) [] [], .func (.func 190) [] [], .func (.func 191) [] [], .func (.func 192) [] []] else none⟩
end Go.Oct.Stk
