/- The whole program, compiled. -/
import Derived.Test.YtddkghgfbhhcdaaDoorOPlaOk0
set_option maxRecDepth 100000
namespace Go.Oct.Pla
open Go.Proofs
def funcs : List (Nat × AFunc) := [(3,f3),(5,f5),(6,f6),(7,f7),(8,f8),(9,f9),(10,f10),(11,f11),(12,f12),(19,f19),(20,f20),(21,f21),(22,f22),(23,f23),(24,f24),(25,f25),(26,f26),(27,f27),(28,f28),(29,f29),(41,f41),(42,f42),(43,f43),(44,f44),(45,f45),(46,f46),(47,f47),(48,f48),(49,f49),(50,f50),(51,f51),(52,f52),(53,f53),(54,f54),(55,f55),(56,f56),(57,f57),(58,f58),(59,f59),(60,f60),(61,f61),(62,f62),(63,f63),(83,f83),(84,f84),(85,f85),(86,f86),(87,f87),(88,f88),(89,f89),(90,f90),(91,f91),(92,f92),(93,f93),(94,f94),(95,f95),(114,f114),(115,f115),(116,f116),(117,f117),(131,f131)]
theorem allOk : AllOK Tryd.prog funcs := ⟨ok3, ok5, ok6, ok7, ok8, ok9, ok10, ok11, ok12, ok19, ok20, ok21, ok22, ok23, ok24, ok25, ok26, ok27, ok28, ok29, ok41, ok42, ok43, ok44, ok45, ok46, ok47, ok48, ok49, ok50, ok51, ok52, ok53, ok54, ok55, ok56, ok57, ok58, ok59, ok60, ok61, ok62, ok63, ok83, ok84, ok85, ok86, ok87, ok88, ok89, ok90, ok91, ok92, ok93, ok94, ok95, ok114, ok115, ok116, ok117, ok131, trivial⟩
end Go.Oct.Pla
