/- The whole program, compiled. -/
import Derived.Test.YtcnemenlbbickaaORoundsOk0
set_option maxRecDepth 100000
namespace Go.Oct.Rounds
open Go.Proofs
def funcs : List (Nat × AFunc) := [(4,f4),(14,f14),(16,f16),(17,f17),(19,f19),(20,f20),(21,f21),(22,f22),(23,f23),(24,f24),(25,f25),(27,f27),(30,f30),(32,f32),(33,f33),(35,f35),(39,f39),(40,f40),(44,f44),(45,f45),(46,f46),(47,f47),(48,f48),(49,f49),(50,f50),(51,f51),(52,f52),(56,f56),(57,f57),(58,f58),(59,f59),(60,f60),(61,f61),(62,f62),(63,f63),(64,f64),(65,f65),(66,f66),(67,f67),(69,f69),(70,f70),(71,f71),(72,f72),(73,f73),(74,f74),(75,f75),(76,f76),(77,f77),(78,f78),(79,f79),(80,f80),(81,f81),(82,f82),(83,f83),(84,f84),(85,f85),(86,f86),(87,f87),(88,f88),(89,f89),(90,f90),(91,f91),(92,f92)]
theorem allOk : AllOK Try.prog funcs := ⟨ok4, ok14, ok16, ok17, ok19, ok20, ok21, ok22, ok23, ok24, ok25, ok27, ok30, ok32, ok33, ok35, ok39, ok40, ok44, ok45, ok46, ok47, ok48, ok49, ok50, ok51, ok52, ok56, ok57, ok58, ok59, ok60, ok61, ok62, ok63, ok64, ok65, ok66, ok67, ok69, ok70, ok71, ok72, ok73, ok74, ok75, ok76, ok77, ok78, ok79, ok80, ok81, ok82, ok83, ok84, ok85, ok86, ok87, ok88, ok89, ok90, ok91, ok92, trivial⟩
end Go.Oct.Rounds
