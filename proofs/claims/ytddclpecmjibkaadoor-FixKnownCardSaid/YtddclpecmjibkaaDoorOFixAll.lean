/- The whole program, compiled. -/
import Derived.Test.YtddclpecmjibkaaDoorOFixOk0
import Derived.Test.YtddclpecmjibkaaDoorOFixOk1
set_option maxRecDepth 100000
namespace Go.Oct.Fix
open Go.Proofs
def funcs : List (Nat × AFunc) := [(16,f16),(17,f17),(19,f19),(21,f21),(24,f24),(26,f26),(27,f27),(29,f29),(31,f31),(33,f33),(34,f34),(42,f42),(43,f43),(51,f51),(52,f52),(53,f53),(54,f54),(55,f55),(56,f56),(57,f57),(58,f58),(59,f59),(64,f64),(65,f65),(66,f66),(67,f67),(69,f69),(70,f70),(71,f71),(72,f72),(73,f73),(76,f76),(77,f77),(78,f78),(79,f79),(80,f80),(83,f83),(84,f84),(85,f85),(86,f86),(87,f87),(88,f88),(91,f91),(92,f92),(93,f93),(94,f94),(95,f95),(96,f96),(100,f100),(101,f101),(102,f102),(103,f103),(104,f104),(105,f105),(106,f106),(108,f108),(109,f109),(110,f110),(111,f111),(112,f112),(113,f113),(114,f114),(115,f115),(116,f116),(117,f117),(118,f118),(119,f119),(120,f120),(121,f121),(122,f122),(123,f123),(139,f139),(141,f141)]
theorem allOk : AllOK Tryd.prog funcs := ⟨ok16, ok17, ok19, ok21, ok24, ok26, ok27, ok29, ok31, ok33, ok34, ok42, ok43, ok51, ok52, ok53, ok54, ok55, ok56, ok57, ok58, ok59, ok64, ok65, ok66, ok67, ok69, ok70, ok71, ok72, ok73, ok76, ok77, ok78, ok79, ok80, ok83, ok84, ok85, ok86, ok87, ok88, ok91, ok92, ok93, ok94, ok95, ok96, ok100, ok101, ok102, ok103, ok104, ok105, ok106, ok108, ok109, ok110, ok111, ok112, ok113, ok114, ok115, ok116, ok117, ok118, ok119, ok120, ok121, ok122, ok123, ok139, ok141, trivial⟩
end Go.Oct.Fix
