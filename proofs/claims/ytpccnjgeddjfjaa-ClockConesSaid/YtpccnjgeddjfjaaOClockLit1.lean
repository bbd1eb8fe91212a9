/- The functions of the program, compiled to the abstract interpreter's code (printed by a program). -/
import Derived.Test.YtpccnjgeddjfjaaOT0
set_option maxRecDepth 100000
namespace Go.Oct.Clock
def f135 : AFunc := ⟨2,[.tmp 4],(.seq (.region false [⟨(some 4),(.v (.mov (.const (.bool false)))),none,.full⟩] [0,1])
 (.seq (.region false [⟨(some 5),(.v (.mov (.tmp 0))),none,.full⟩,⟨(some 6),(.call (.const (.func (.func 106) [] [])) [(.tmp 5)]),none,.full⟩,⟨(some 7),(.v (.mov (.tmp 6))),none,.full⟩,⟨(some 8),(.v (.mov (.tmp 1))),(some (7,true)),.full⟩,⟨(some 9),(.call (.const (.func (.func 106) [] [])) [(.tmp 8)]),(some (7,true)),.full⟩,⟨(some 10),(.v (.un .not (.tmp 9))),(some (7,true)),.full⟩,⟨(some 11),(.v (.pick (.tmp 7) (.tmp 10) (.const (.bool false)))),none,.full⟩,⟨(some 12),(.v (.mov (.tmp 11))),none,.full⟩,⟨(some 13),(.v (.mov (.tmp 0))),(some (12,false)),.full⟩,⟨(some 14),(.v (.mov (.tmp 1))),(some (12,false)),.full⟩,⟨(some 15),(.v (.bin .lss (.tmp 13) (.tmp 14))),(some (12,false)),.full⟩,⟨(some 16),(.v (.pick (.tmp 12) (.const (.bool true)) (.tmp 15))),none,.full⟩,⟨(some 4),(.v (.mov (.tmp 16))),none,.full⟩] [4])
 .ret)),[],true⟩
def f136 : AFunc := ⟨1,[.tmp 2],(.seq (.region false [⟨(some 2),(.v (.mov (.const (.bool false)))),none,.full⟩] [0])
 (.seq (.region false [⟨(some 3),(.v (.mov (.tmp 0))),none,.full⟩,⟨(some 4),(.v (.mov (.tmp 0))),none,.full⟩,⟨(some 5),(.v (.bin .neq (.tmp 3) (.tmp 4))),none,.full⟩,⟨(some 2),(.v (.mov (.tmp 5))),none,.full⟩] [2])
 .ret)),[],true⟩
end Go.Oct.Clock
