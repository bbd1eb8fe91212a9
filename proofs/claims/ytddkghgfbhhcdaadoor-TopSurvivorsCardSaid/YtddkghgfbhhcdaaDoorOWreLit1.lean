/- The functions of the program, compiled to the abstract interpreter's code (printed by a program). -/
import Derived.Test.YtddkghgfbhhcdaaDoorOT0
set_option maxRecDepth 100000
namespace Go.Oct.Wre
open Go.Oct.L
def f130 : AFunc := ⟨1,[.tmp 2],(s (r [n 2 0] [0,2])
 (s (s (r [m 3 0,v 4 (.bin .geq (t 3) (.const (.int .u64 4294967296)))] [0,2,4])
 (c (t 4)
 (s (r [m 5 0,v 6 (.bin .shr (t 5) (.const (.int .u64 32))),m 0 6] [0])
 (r [n 2 32] [0,2]))
 .skip))
 (s (s (r [m 7 0,v 8 (.bin .geq (t 7) (.const (.int .u64 65536)))] [0,2,8])
 (c (t 8)
 (s (r [m 9 0,v 10 (.bin .shr (t 9) (.const (.int .u64 16))),m 0 10] [0,2])
 (r [m 11 2,v 12 (.bin .add (t 11) (i 16)),m 2 12] [0,2]))
 .skip))
 (s (s (r [m 13 0,v 14 (.bin .geq (t 13) (.const (.int .u64 256)))] [0,2,14])
 (c (t 14)
 (s (r [m 15 0,v 16 (.bin .shr (t 15) (.const (.int .u64 8))),m 0 16] [0,2])
 (r [m 17 2,v 18 (.bin .add (t 17) (i 8)),m 2 18] [0,2]))
 .skip))
 (s (r [m 19 2,m 20 0,v 21 (.conv .u8 (t 20)),v 22 (.indexS (.const (.str ⟨#[0,1,2,2,3,3,3,3,4,4,4,4,4,4,4,4,5,5,5,5,5,5,5,5,5,5,5,5,5,5,5,5,6,6,6,6,6,6,6,6,6,6,6,6,6,6,6,6,6,6,6,6,6,6,6,6,6,6,6,6,6,6,6,6,7,7,7,7,7,7,7,7,7,7,7,7,7,7,7,7,7,7,7,7,7,7,7,7,7,7,7,7,7,7,7,7,7,7,7,7,7,7,7,7,7,7,7,7,7,7,7,7,7,7,7,7,7,7,7,7,7,7,7,7,7,7,7,7,8,8,8,8,8,8,8,8,8,8,8,8,8,8,8,8,8,8,8,8,8,8,8,8,8,8,8,8,8,8,8,8,8,8,8,8,8,8,8,8,8,8,8,8,8,8,8,8,8,8,8,8,8,8,8,8,8,8,8,8,8,8,8,8,8,8,8,8,8,8,8,8,8,8,8,8,8,8,8,8,8,8,8,8,8,8,8,8,8,8,8,8,8,8,8,8,8,8,8,8,8,8,8,8,8,8,8,8,8,8,8,8,8,8,8,8,8,8,8,8,8,8,8,8,8,8,8,8]⟩)) (t 21)),v 23 (.conv .i64 (t 22)),b 24 .add 19 23,m 2 24] [2])
 .ret))))),[],true⟩
def f131 : AFunc := ⟨1,[.tmp 2],(s (r [v 2 (.mov (.const (.bool false)))] [0])
 (s (r [m 3 0,m 4 0,b 5 .neq 3 4,m 2 5] [2])
 .ret)),[],true⟩
def f132 : AFunc := ⟨2,[.tmp 4],(s (r [n 4 0] [0,1])
 (s (r [m 5 0,m 6 1,v 7 (.cmpS (t 5) (t 6)),m 4 7] [4])
 .ret)),[],true⟩
def f133 : AFunc := ⟨2,[.tmp 4],(s (r [n 4 0] [0,1])
 (s (s (r [m 6 0,v 7 (.len (t 6)),n 8 0] [0,1,7,8])
 (.block 0 (.loop (s (r [b 9 .lss 8 7] [0,1,7,8,9])
 (s (c (t 9)
 .skip
 (.exit 0))
 (s (.block 1 (s (r [m 10 8,m 5 10] [0,1,5,7,8])
 (s (r [m 11 1,m 12 0,m 13 5,v 14 (.indexAddrS 10 (t 12) (t 13)),h 15 .full (.load true 10 (t 14)),⟨(some 16),(.call (t 11) [t 15]),none,.full⟩] [0,1,5,7,8,16])
 (c (t 16)
 (s (r [m 17 5,m 4 17] [4])
 .ret)
 .skip))))
 (r [v 18 (.bin .add (t 8) (i 1)),m 8 18] [0,1,7,8])))))))
 (s (r [n 4 (-1)] [4])
 .ret))),[],true⟩
def f134 : AFunc := ⟨2,[.tmp 4],(s (r [v 4 (.mov (.const (.bool false)))] [0,1])
 (s (r [m 5 0,k 6 147 [t 5,(i (-20)),i 20],m 7 6,⟨(some 8),(.v (.mov (t 1))),(some (7,true)),.full⟩,⟨(some 9),(.call (g 147) [t 8,(i (-20)),i 20]),(some (7,true)),.full⟩,v 10 (.pick (t 7) (t 9) (.const (.bool false))),m 11 10,⟨(some 12),(.v (.mov (t 0))),(some (11,true)),.full⟩,⟨(some 13),(.v (.bin .neq (t 12) (i 0))),(some (11,true)),.full⟩,⟨(some 14),(.v (.mov (t 13))),(some (11,true)),.full⟩,⟨(some 15),(.v (.mov (t 1))),(some (14,false)),.full⟩,⟨(some 16),(.v (.bin .neq (t 15) (i 0))),(some (14,false)),.full⟩,⟨(some 17),(.v (.pick (t 14) (.const (.bool true)) (t 16))),(some (11,true)),.full⟩,v 18 (.pick (t 11) (t 17) (.const (.bool false))),m 4 18] [4])
 .ret)),[],true⟩
def f135 : AFunc := ⟨2,[.tmp 4],(s (r [v 4 (.mov (.const (.bool false)))] [0,1])
 (s (r [m 5 0,m 6 1,k 7 148 [t 5,t 6],v 8 (.bin .geq (t 7) (i 0)),m 4 8] [4])
 .ret)),[],true⟩
def f136 : AFunc := ⟨1,[.tmp 2],(s (r [h 1 .full (.box (t 0)),v 2 (.mov (.const (.bool false)))] [1])
 (s (r [h 3 .full (.load true 2 (t 1)),k 4 107 [t 3,(i (-10000)),i 10000],v 5 (.un .not (t 4)),m 2 5] [2])
 .ret)),[],true⟩
def f137 : AFunc := ⟨2,[.tmp 4],(s (r [n 4 0] [0,1])
 (s (s (r [m 6 0,v 7 (.len (t 6)),n 8 0] [0,1,7,8])
 (.block 0 (.loop (s (r [b 9 .lss 8 7] [0,1,7,8,9])
 (s (c (t 9)
 .skip
 (.exit 0))
 (s (.block 1 (s (r [m 10 8,m 5 10] [0,1,5,7,8])
 (s (r [m 11 1,m 12 0,m 13 5,v 14 (.indexAddrS 10 (t 12) (t 13)),h 15 .full (.load true 10 (t 14)),⟨(some 16),(.call (t 11) [t 15]),none,.full⟩] [0,1,5,7,8,16])
 (c (t 16)
 (s (r [m 17 5,m 4 17] [4])
 .ret)
 .skip))))
 (r [v 18 (.bin .add (t 8) (i 1)),m 8 18] [0,1,7,8])))))))
 (s (r [n 4 (-1)] [4])
 .ret))),[],true⟩
def f140 : AFunc := ⟨2,[.tmp 4],(s (r [n 4 0] [0,1])
 (s (r [m 5 0,m 6 1,k 7 149 [t 5,t 6],m 4 7] [4])
 .ret)),[],true⟩
def f141 : AFunc := ⟨5,[],(s (r [m 12 1,m 10 12] [0,2,3,4,10])
 (.block 0 (.loop (.block 1 (s (r [m 13 10,v 14 (.bin .mul (i 2) (t 13)),v 15 (.bin .add (t 14) (i 1)),m 11 15] [0,2,3,4,10,11])
 (s (s (r [m 16 11,m 17 2,b 18 .geq 16 17] [0,2,3,4,10,11,18])
 (c (t 18)
 (.exit 0)
 .skip))
 (s (s (.region true [m 19 11,v 20 (.bin .add (t 19) (i 1)),m 21 2,b 22 .lss 20 21,m 23 22,⟨(some 24),(.v (.mov (t 4))),(some (23,true)),.full⟩,⟨(some 25),(.v (.mov (t 0))),(some (23,true)),.full⟩,⟨(some 26),(.v (.mov (t 3))),(some (23,true)),.full⟩,⟨(some 27),(.v (.mov (t 11))),(some (23,true)),.full⟩,⟨(some 28),(.v (.bin .add (t 26) (t 27))),(some (23,true)),.full⟩,⟨(some 29),(.v (.indexAddrS 4 (t 25) (t 28))),(some (23,true)),.full⟩,⟨(some 30),(.h (.load true 4 (t 29))),(some (23,true)),.froz⟩,⟨(some 31),(.v (.mov (t 0))),(some (23,true)),.full⟩,⟨(some 32),(.v (.mov (t 3))),(some (23,true)),.full⟩,⟨(some 33),(.v (.mov (t 11))),(some (23,true)),.full⟩,⟨(some 34),(.v (.bin .add (t 32) (t 33))),(some (23,true)),.full⟩,⟨(some 35),(.v (.bin .add (t 34) (i 1))),(some (23,true)),.full⟩,⟨(some 36),(.v (.indexAddrS 4 (t 31) (t 35))),(some (23,true)),.full⟩,⟨(some 37),(.h (.load true 4 (t 36))),(some (23,true)),.froz⟩,⟨(some 38),(.call (t 24) [t 30,t 37]),(some (23,true)),.full⟩,⟨(some 39),(.v (.bin .lss (t 38) (i 0))),(some (23,true)),.full⟩,v 40 (.pick (t 23) (t 39) (.const (.bool false)))] [0,2,3,4,10,11,40])
 (c (t 40)
 (r [m 41 11,v 42 (.bin .add (t 41) (i 1)),m 11 42] [0,2,3,4,10,11])
 .skip))
 (s (s (.region true [m 43 4,m 44 0,m 45 3,m 46 10,b 47 .add 45 46,v 48 (.indexAddrS 4 (t 44) (t 47)),h 49 .froz (.load true 4 (t 48)),m 50 0,m 51 3,m 52 11,b 53 .add 51 52,v 54 (.indexAddrS 4 (t 50) (t 53)),h 55 .froz (.load true 4 (t 54)),⟨(some 56),(.call (t 43) [t 49,t 55]),none,.full⟩,v 57 (.bin .lss (t 56) (i 0)),v 58 (.un .not (t 57))] [0,2,3,4,10,11,58])
 (c (t 58)
 .ret
 .skip))
 (s (.region true [m 59 0,m 60 3,m 61 10,b 62 .add 60 61,m 63 0,m 64 3,m 65 11,b 66 .add 64 65,m 67 0,m 68 3,m 69 11,b 70 .add 68 69,v 71 (.indexAddrS 4 (t 67) (t 70)),h 72 .froz (.load true 4 (t 71)),m 73 0,m 74 3,m 75 10,b 76 .add 74 75,v 77 (.indexAddrS 4 (t 73) (t 76)),h 78 .froz (.load true 4 (t 77)),v 79 (.indexAddrS 4 (t 59) (t 62)),e .full (.store 4 (t 79) (t 72)),v 80 (.indexAddrS 4 (t 63) (t 66)),e .full (.store 4 (t 80) (t 78))] [0,2,3,4,11])
 (r [m 81 11,m 10 81] [0,2,3,4,10])))))))))),[],false⟩
def f142 : AFunc := ⟨1,[.tmp 2],(s (r [v 2 (.mov (.const (.int .u64 0)))] [0])
 (s (r [m 3 0,v 4 (.conv .u64 (t 3)),k 5 103 [t 4],v 6 (.bin .shl (.const (.int .u64 1)) (t 5)),m 2 6] [2])
 .ret)),[],true⟩
def f143 : AFunc := ⟨1,[.tmp 2],(s (r [v 2 (.mov (.const (.int .u64 0)))] [0])
 (s (.region true [m 3 0,v 4 (.nilCheck (t 3)),lf 5 4,m 6 0,v 7 (.nilCheck (t 6)),lf 8 7,v 9 (.bin .shl (t 8) (.const (.int .u64 13))),b 10 .xor 5 9,v 11 (.nilCheck (t 3)),e .full (.store 1 (t 11) (t 10))] [0])
 (s (.region true [m 12 0,v 13 (.nilCheck (t 12)),lf 14 13,m 15 0,v 16 (.nilCheck (t 15)),lf 17 16,v 18 (.bin .shr (t 17) (.const (.int .u64 7))),b 19 .xor 14 18,v 20 (.nilCheck (t 12)),e .full (.store 1 (t 20) (t 19))] [0])
 (s (.region true [m 21 0,v 22 (.nilCheck (t 21)),lf 23 22,m 24 0,v 25 (.nilCheck (t 24)),lf 26 25,v 27 (.bin .shl (t 26) (.const (.int .u64 17))),b 28 .xor 23 27,v 29 (.nilCheck (t 21)),e .full (.store 1 (t 29) (t 28))] [0])
 (s (r [m 30 0,v 31 (.nilCheck (t 30)),l 32 31,m 2 32] [2])
 .ret))))),[],false⟩
def f144 : AFunc := ⟨4,[.tmp 8],(s (r [n 8 0] [0,1,2,3])
 (s (r [m 9 0,m 10 1,v 11 (.bin .sub (t 10) (i 1)),m 12 1,m 13 1,v 14 (.bin .add (t 13) (i 1)),m 15 2,m 16 3,k 17 145 [t 9,t 11,t 12,t 14,t 15,t 16],m 8 17] [8])
 .ret)),[],false⟩
def f145 : AFunc := ⟨6,[.tmp 12],(s (r [n 12 0] [0,1,2,3,4,5])
 (s (r [m 14 0,m 15 1,m 16 2,m 17 4,m 18 5,k 19 150 [t 14,t 15,t 16,t 17,t 18],m 13 19,v 20 (.extract 0 (t 13)),v 21 (.extract 1 (t 13)),m 1 20,m 2 21] [0,1,2,3,4,5])
 (s (r [m 23 0,m 24 2,m 25 3,m 26 4,m 27 5,k 28 150 [t 23,t 24,t 25,t 26,t 27],m 22 28,v 29 (.extract 0 (t 22)),v 30 (.extract 1 (t 22)),m 2 29,m 3 30] [0,1,2,4,5])
 (s (r [m 32 0,m 33 1,m 34 2,m 35 4,m 36 5,k 37 150 [t 32,t 33,t 34,t 35,t 36],m 31 37,v 38 (.extract 0 (t 31)),v 39 (.extract 1 (t 31)),m 1 38,m 2 39] [2])
 (s (r [m 40 2,m 12 40] [12])
 .ret))))),[],false⟩
def f147 : AFunc := ⟨3,[.tmp 6],(s (r [v 6 (.mov (.const (.bool false)))] [0,1,2])
 (s (r [m 7 1,m 8 0,b 9 .leq 7 8,m 10 9,⟨(some 11),(.v (.mov (t 0))),(some (10,true)),.full⟩,⟨(some 12),(.v (.mov (t 2))),(some (10,true)),.full⟩,⟨(some 13),(.v (.bin .leq (t 11) (t 12))),(some (10,true)),.full⟩,v 14 (.pick (t 10) (t 13) (.const (.bool false))),m 6 14] [6])
 .ret)),[],true⟩
def f148 : AFunc := ⟨2,[.tmp 4],(s (r [n 4 0] [0,1])
 (s (s (r [m 6 0,v 7 (.len (t 6)),n 8 0] [0,1,7,8])
 (.block 0 (.loop (s (r [b 9 .lss 8 7] [0,1,7,8,9])
 (s (c (t 9)
 .skip
 (.exit 0))
 (s (.block 1 (s (r [m 10 8,m 5 10] [0,1,5,7,8])
 (s (r [m 11 1,m 12 0,m 13 5,v 14 (.indexAddrS 2 (t 12) (t 13)),h 15 .full (.load true 2 (t 14)),⟨(some 16),(.call (t 11) [t 15]),none,.full⟩] [0,1,5,7,8,16])
 (c (t 16)
 (s (r [m 17 5,m 4 17] [4])
 .ret)
 .skip))))
 (r [v 18 (.bin .add (t 8) (i 1)),m 8 18] [0,1,7,8])))))))
 (s (r [n 4 (-1)] [4])
 .ret))),[],true⟩
def f150 : AFunc := ⟨5,[.tmp 10,.tmp 11],(s (r [n 10 0,n 11 0] [0,1,2,3,4])
 (s (s (.region true [m 12 4,m 13 0,m 14 2,v 15 (.indexAddrS 4 (t 13) (t 14)),h 16 .froz (.load true 4 (t 15)),m 17 0,m 18 1,v 19 (.indexAddrS 4 (t 17) (t 18)),h 20 .froz (.load true 4 (t 19)),⟨(some 21),(.call (t 12) [t 16,t 20]),none,.full⟩,v 22 (.bin .lss (t 21) (i 0))] [1,2,3,22])
 (c (t 22)
 (s (r [m 23 3,v 24 (.nilCheck (t 23)),l 25 24,v 26 (.bin .add (t 25) (i 1)),v 27 (.nilCheck (t 23)),e .full (.store 1 (t 27) (t 26))] [1,2])
 (s (r [m 28 2,m 29 1,m 10 28,m 11 29] [10,11])
 .ret))
 .skip))
 (s (r [m 30 1,m 31 2,m 10 30,m 11 31] [10,11])
 .ret))),[],false⟩
def f172 : AFunc := ⟨2,[.tmp 4],(s (r [h 2 .full (.box (t 0)),h 3 .full (.box (t 1)),v 4 (.mov (.const (.bool false)))] [2,3])
 (s (r [n 5 0] [2,3,5])
 (s (s (r [a 8 0 2,a 9 9 8,l 10 9,v 11 (.len (t 10)),n 12 0] [3,5,10,11,12])
 (.block 0 (.loop (s (r [b 13 .lss 12 11] [3,5,10,11,12,13])
 (s (c (t 13)
 .skip
 (.exit 0))
 (s (.block 1 (s (r [v 14 (.indexAddrS 2 (t 10) (t 12)),h 15 .full (.load true 2 (t 14)),h 7 .full (.alloc [(z 0),(z 0)]),e .full (.store 2 (t 7) (t 15))] [3,5,7,10,11,12])
 (s (r [h 16 .full (.load true 2 (t 7)),a 17 0 3,l 18 17,k 19 175 [t 16,t 18]] [3,5,10,11,12,19])
 (c (t 19)
 (r [m 20 5,v 21 (.bin .add (t 20) (i 1)),m 5 21] [3,5,10,11,12])
 .skip))))
 (r [v 22 (.bin .add (t 12) (i 1)),m 12 22] [3,5,10,11,12])))))))
 (s (r [m 23 5,v 24 (.bin .geq (t 23) (i 2)),m 4 24] [4])
 .ret)))),[],true⟩
def f174 : AFunc := ⟨2,[.tmp 4],(s (r [h 2 .full (.box (t 0)),h 3 .full (.box (t 1)),v 4 (.mov (.const (.bool false)))] [2,3])
 (s (r [a 5 0 2,a 6 3 5,h 7 .full (.load true 2 (t 6)),a 8 0 2,a 9 1 8,l 10 9,a 11 0 3,l 12 11,b 13 .mul 10 12,a 14 0 2,a 15 2 14,l 16 15,a 17 1 3,l 18 17,b 19 .mul 16 18,b 20 .add 13 19,k 21 175 [t 7,t 20],m 4 21] [4])
 .ret)),[],true⟩
def f175 : AFunc := ⟨2,[.tmp 4],(s (r [h 2 .full (.box (t 0)),v 4 (.mov (.const (.bool false)))] [1,2])
 (s (r [m 5 1,a 6 0 2,l 7 6,a 8 1 2,l 9 8,k 10 147 [t 5,t 7,t 9],m 4 10] [4])
 .ret)),[],true⟩
end Go.Oct.Wre
