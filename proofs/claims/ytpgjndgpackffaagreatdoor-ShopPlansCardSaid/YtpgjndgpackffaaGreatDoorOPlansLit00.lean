/- What the package-level variables hold. -/
import Derived.Test.YtpgjndgpackffaaGreatDoorOT0
namespace Go.Oct.Plans
instance gl : Gl := ⟨fun g => if g = 0 then some [.func (.func 120) [] [], .func (.func 122) [] [], .func (.func 123) [] [], .func (.func 124) [] [], .func (.func 125) [] [], .func (.func 126) [] []] else none⟩
end Go.Oct.Plans
