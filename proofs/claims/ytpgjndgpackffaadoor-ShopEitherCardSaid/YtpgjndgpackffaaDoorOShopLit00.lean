/- What the package-level variables hold. -/
import Derived.Test.YtpgjndgpackffaaDoorOT0
namespace Go.Oct.Shop
instance gl : Gl := ⟨fun g => if g = 0 then some [.func (.func 151) [] [], .func (.func 153) [] [], .func (.func 154) [] [], .func (.func 155) [] [], .func (.func 156) [] [], .func (.func 157) [] []] else none⟩
end Go.Oct.Shop
