/- The whole program, compiled. -/
import Derived.Test.YtpccnjgeddjfjaaOClockOk0
set_option maxRecDepth 100000
namespace Go.Oct.Clock
open Go.Proofs
def funcs : List (Nat × AFunc) := [(12,f12),(15,f15),(17,f17),(19,f19),(21,f21),(22,f22),(23,f23),(25,f25),(26,f26),(28,f28),(30,f30),(35,f35),(37,f37),(38,f38),(39,f39),(40,f40),(41,f41),(42,f42),(43,f43),(44,f44),(47,f47),(48,f48),(49,f49),(50,f50),(51,f51),(52,f52),(53,f53),(54,f54),(57,f57),(58,f58),(59,f59),(60,f60),(63,f63),(65,f65),(66,f66),(67,f67),(68,f68),(69,f69),(70,f70),(71,f71),(72,f72),(75,f75),(76,f76),(77,f77),(81,f81),(82,f82),(84,f84),(85,f85),(86,f86),(87,f87),(88,f88),(89,f89),(90,f90),(91,f91),(93,f93),(96,f96),(97,f97),(98,f98),(99,f99),(100,f100),(101,f101),(102,f102),(103,f103),(104,f104),(105,f105),(106,f106),(107,f107),(108,f108),(109,f109),(110,f110),(111,f111),(112,f112),(113,f113),(114,f114),(116,f116),(132,f132),(133,f133),(134,f134),(135,f135),(136,f136)]
theorem allOk : AllOK Try.prog funcs := ⟨ok12, ok15, ok17, ok19, ok21, ok22, ok23, ok25, ok26, ok28, ok30, ok35, ok37, ok38, ok39, ok40, ok41, ok42, ok43, ok44, ok47, ok48, ok49, ok50, ok51, ok52, ok53, ok54, ok57, ok58, ok59, ok60, ok63, ok65, ok66, ok67, ok68, ok69, ok70, ok71, ok72, ok75, ok76, ok77, ok81, ok82, ok84, ok85, ok86, ok87, ok88, ok89, ok90, ok91, ok93, ok96, ok97, ok98, ok99, ok100, ok101, ok102, ok103, ok104, ok105, ok106, ok107, ok108, ok109, ok110, ok111, ok112, ok113, ok114, ok116, ok132, ok133, ok134, ok135, ok136, trivial⟩
end Go.Oct.Clock
