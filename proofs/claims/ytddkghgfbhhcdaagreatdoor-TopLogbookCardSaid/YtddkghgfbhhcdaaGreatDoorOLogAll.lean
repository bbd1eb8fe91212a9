/- The whole program, compiled. -/
import Derived.Test.YtddkghgfbhhcdaaGreatDoorOLogOk0
import Derived.Test.YtddkghgfbhhcdaaGreatDoorOLogOk1
set_option maxRecDepth 100000
namespace Go.Oct.Log
open Go.Proofs
def funcs : List (Nat × AFunc) := [(3,f3),(5,f5),(6,f6),(7,f7),(8,f8),(9,f9),(10,f10),(11,f11),(12,f12),(13,f13),(14,f14),(17,f17),(20,f20),(21,f21),(24,f24),(25,f25),(26,f26),(27,f27),(28,f28),(29,f29),(30,f30),(31,f31),(32,f32),(33,f33),(34,f34),(35,f35),(36,f36),(37,f37),(38,f38),(51,f51),(52,f52),(53,f53),(54,f54),(55,f55),(56,f56),(57,f57),(58,f58),(59,f59),(60,f60),(61,f61),(62,f62),(63,f63),(64,f64),(65,f65),(66,f66),(67,f67),(77,f77),(78,f78),(79,f79),(80,f80),(81,f81),(82,f82),(83,f83),(84,f84),(85,f85),(86,f86),(87,f87),(88,f88),(89,f89),(90,f90),(91,f91),(92,f92),(93,f93),(94,f94),(95,f95),(96,f96),(97,f97),(126,f126),(127,f127),(128,f128),(129,f129),(130,f130),(131,f131),(132,f132),(133,f133),(134,f134),(135,f135),(136,f136),(137,f137),(138,f138),(139,f139),(140,f140),(152,f152),(153,f153),(154,f154),(155,f155),(156,f156),(157,f157),(158,f158),(162,f162),(163,f163),(186,f186),(193,f193),(194,f194)]
theorem allOk : AllOK Tryz.prog funcs := ⟨ok3, ok5, ok6, ok7, ok8, ok9, ok10, ok11, ok12, ok13, ok14, ok17, ok20, ok21, ok24, ok25, ok26, ok27, ok28, ok29, ok30, ok31, ok32, ok33, ok34, ok35, ok36, ok37, ok38, ok51, ok52, ok53, ok54, ok55, ok56, ok57, ok58, ok59, ok60, ok61, ok62, ok63, ok64, ok65, ok66, ok67, ok77, ok78, ok79, ok80, ok81, ok82, ok83, ok84, ok85, ok86, ok87, ok88, ok89, ok90, ok91, ok92, ok93, ok94, ok95, ok96, ok97, ok126, ok127, ok128, ok129, ok130, ok131, ok132, ok133, ok134, ok135, ok136, ok137, ok138, ok139, ok140, ok152, ok153, ok154, ok155, ok156, ok157, ok158, ok162, ok163, ok186, ok193, ok194, trivial⟩
end Go.Oct.Log
