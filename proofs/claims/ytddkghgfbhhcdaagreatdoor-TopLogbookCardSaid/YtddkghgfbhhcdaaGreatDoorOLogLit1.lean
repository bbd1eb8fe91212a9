/- The functions of the program, compiled to the abstract interpreter's code (printed by a program). -/
import Derived.Test.YtddkghgfbhhcdaaGreatDoorOT0
set_option maxRecDepth 100000
namespace Go.Oct.Log
open Go.Oct.L
def f132 : AFunc := ⟨1,[.tmp 2],(s (r [h 1 .full (.box (t 0)),v 2 (.mov (.const (.bool false)))] [1])
 (s (r [v 5 (.build [(z 0),(z 0)] []),h 3 .full (.alloc [(z 0),(z 0)]),e .full (.store 2 (t 3) (t 5))] [1,3])
 (s (r [a 6 5 1,h 7 .full (.load true 2 (t 6)),h 8 .full (.load true 2 (t 3)),v 9 (.eqA false [.int,.int] (t 7) (t 8)),m 10 9,⟨(some 11),(.v (.fieldAddr 7 (t 1))),(some (10,true)),.full⟩,⟨(some 12),(.h (.load true 2 (t 11))),(some (10,true)),.full⟩,⟨(some 13),(.h (.load true 2 (t 3))),(some (10,true)),.full⟩,⟨(some 14),(.v (.eqA false [.int,.int] (t 12) (t 13))),(some (10,true)),.full⟩,v 15 (.pick (t 10) (t 14) (.const (.bool false))),m 4 15] [1,3,4])
 (s (s (r [a 16 0 1,l 17 16] [1,3,4,17])
 (.block 0 (s (r [v 19 (.bin .eql (t 17) (i 1)),m 18 19] [1,3,4,17,18])
 (c (t 18)
 (s (r [a 20 1 1,l 21 20,a 22 2 1,l 23 22,k 24 154 [t 21,t 23],m 25 24,⟨(some 26),(.v (.fieldAddr 3 (t 1))),(some (25,true)),.full⟩,⟨(some 27),(.h (.load true 2 (t 26))),(some (25,true)),.full⟩,⟨(some 28),(.call (g 129) [t 27,(i (-10000)),i 10000]),(some (25,true)),.full⟩,v 29 (.pick (t 25) (t 28) (.const (.bool false))),m 30 29,⟨(some 31),(.v (.mov (t 4))),(some (30,true)),.full⟩,v 32 (.pick (t 30) (t 31) (.const (.bool false))),m 33 32,⟨(some 34),(.v (.fieldAddr 9 (t 1))),(some (33,true)),.full⟩,⟨(some 35),(.h (.load false 1 (t 34))),(some (33,true)),.full⟩,⟨(some 36),(.v (.len (t 35))),(some (33,true)),.full⟩,⟨(some 37),(.v (.bin .eql (t 36) (i 0))),(some (33,true)),.full⟩,v 38 (.pick (t 33) (t 37) (.const (.bool false))),m 2 38] [2])
 .ret)
 (s (r [v 40 (.bin .eql (t 17) (i 2)),m 39 40] [1,3,4,17,39])
 (c (t 39)
 (s (r [a 41 1 1,l 42 41,v 43 (.bin .eql (t 42) (i 0)),m 44 43,⟨(some 45),(.v (.fieldAddr 2 (t 1))),(some (44,true)),.full⟩,⟨(some 46),(.h (.load false 1 (t 45))),(some (44,true)),.full⟩,⟨(some 47),(.v (.bin .eql (t 46) (i 0))),(some (44,true)),.full⟩,v 48 (.pick (t 44) (t 47) (.const (.bool false))),m 49 48,⟨(some 50),(.v (.fieldAddr 3 (t 1))),(some (49,true)),.full⟩,⟨(some 51),(.h (.load true 2 (t 50))),(some (49,true)),.full⟩,⟨(some 52),(.h (.load true 2 (t 3))),(some (49,true)),.full⟩,⟨(some 53),(.v (.eqA false [.int,.int] (t 51) (t 52))),(some (49,true)),.full⟩,v 54 (.pick (t 49) (t 53) (.const (.bool false))),m 55 54,⟨(some 56),(.v (.fieldAddr 5 (t 1))),(some (55,true)),.full⟩,⟨(some 57),(.h (.load true 2 (t 56))),(some (55,true)),.full⟩,⟨(some 58),(.call (g 129) [t 57,(i (-60)),i 60]),(some (55,true)),.full⟩,v 59 (.pick (t 55) (t 58) (.const (.bool false))),m 60 59,⟨(some 61),(.v (.fieldAddr 7 (t 1))),(some (60,true)),.full⟩,⟨(some 62),(.h (.load true 2 (t 61))),(some (60,true)),.full⟩,⟨(some 63),(.call (g 129) [t 62,(i (-60)),i 60]),(some (60,true)),.full⟩,v 64 (.pick (t 60) (t 63) (.const (.bool false))),m 65 64,⟨(some 66),(.v (.fieldAddr 9 (t 1))),(some (65,true)),.full⟩,⟨(some 67),(.h (.load false 1 (t 66))),(some (65,true)),.full⟩,⟨(some 68),(.v (.len (t 67))),(some (65,true)),.full⟩,⟨(some 69),(.v (.bin .eql (t 68) (i 0))),(some (65,true)),.full⟩,v 70 (.pick (t 65) (t 69) (.const (.bool false))),m 2 70] [2])
 .ret)
 (s (r [v 72 (.bin .eql (t 17) (i 3)),m 71 72] [1,3,4,71])
 (c (t 71)
 (s (r [a 73 1 1,l 74 73,v 75 (.bin .eql (t 74) (i 0)),m 76 75,⟨(some 77),(.v (.fieldAddr 2 (t 1))),(some (76,true)),.full⟩,⟨(some 78),(.h (.load false 1 (t 77))),(some (76,true)),.full⟩,⟨(some 79),(.v (.bin .eql (t 78) (i 0))),(some (76,true)),.full⟩,v 80 (.pick (t 76) (t 79) (.const (.bool false))),m 81 80,⟨(some 82),(.v (.fieldAddr 3 (t 1))),(some (81,true)),.full⟩,⟨(some 83),(.h (.load true 2 (t 82))),(some (81,true)),.full⟩,⟨(some 84),(.h (.load true 2 (t 3))),(some (81,true)),.full⟩,⟨(some 85),(.v (.eqA false [.int,.int] (t 83) (t 84))),(some (81,true)),.full⟩,v 86 (.pick (t 81) (t 85) (.const (.bool false))),m 87 86,⟨(some 88),(.v (.mov (t 4))),(some (87,true)),.full⟩,v 89 (.pick (t 87) (t 88) (.const (.bool false))),m 90 89,⟨(some 91),(.v (.fieldAddr 9 (t 1))),(some (90,true)),.full⟩,⟨(some 92),(.h (.load false 1 (t 91))),(some (90,true)),.full⟩,⟨(some 93),(.v (.len (t 92))),(some (90,true)),.full⟩,⟨(some 94),(.v (.bin .eql (t 93) (i 3))),(some (90,true)),.full⟩,v 95 (.pick (t 90) (t 94) (.const (.bool false))),m 96 95,⟨(some 97),(.v (.fieldAddr 9 (t 1))),(some (96,true)),.full⟩,⟨(some 98),(.h (.load false 1 (t 97))),(some (96,true)),.full⟩,⟨(some 99),(.call (g 155) [t 98,g 156]),(some (96,true)),.full⟩,⟨(some 100),(.v (.un .not (t 99))),(some (96,true)),.full⟩,v 101 (.pick (t 96) (t 100) (.const (.bool false))),m 2 101] [2])
 .ret)
 .skip))))))))
 (s (r [v 2 (.mov (.const (.bool false)))] [2])
 .ret))))),[],true⟩
def f133 : AFunc := ⟨2,[.tmp 4],(s (r [v 4 (.mov (.const (.bool false)))] [0,1])
 (s (r [m 5 0,m 6 1,k 7 157 [t 5,t 6],v 8 (.bin .geq (t 7) (i 0)),m 4 8] [4])
 .ret)),[],true⟩
def f134 : AFunc := ⟨2,[.tmp 3],(s (r [h 2 .full (.box (t 0)),v 3 (.mov (.const (.bool false)))] [1,2])
 (s (.region true [a 4 0 2,a 5 0 4,lf 6 5,v 7 (.indexAddrA 4 1 (.const (.vptr [.nilFunc,(.func (.func 193) [] []),.nilFunc,(.func (.func 186) [] [])] 0)) (t 6)),lf 8 7,h 9 .froz (.load true 10 (t 2)),h 10 .froz (.load true 2 (t 1)),⟨(some 11),(.call (t 8) [t 9,t 10]),none,.full⟩,v 12 (.un .not (t 11)),m 3 12] [3])
 .ret)),[],false⟩
def f135 : AFunc := ⟨4,[],(s (.region true [a 9 0 1,a 10 5 9,h 11 .froz (.load true 2 (t 10)),a 12 0 1,a 13 7 12,h 14 .sload (.load true 2 (t 13)),h 5 .froz (.alloc [(z 0),(z 0)]),h 6 .froz (.alloc [(z 0),(z 0)]),e .st1 (.store 2 (t 5) (t 11)),e .full (.store 2 (t 6) (t 14))] [0,2,3,5,6])
 (s (s (r [l 15 2] [0,3,5,6,15])
 (c (t 15)
 (.region true [a 16 1 5,lf 17 16,v 18 (.un .neg (t 17)),a 19 0 5,lf 20 19,v 21 (.un .neg (t 20)),v 22 (.build [(z 0),(z 0)] [(0,1,(t 18)),(1,1,(t 21))]),a 23 1 6,h 24 .sload (.load false 1 (t 23)),v 25 (.un .neg (t 24)),a 26 0 6,h 27 .sload (.load false 1 (t 26)),v 28 (.un .neg (t 27)),v 29 (.build [(z 0),(z 0)] [(0,1,(t 25)),(1,1,(t 28))]),e .st1 (.store 2 (t 5) (t 22)),e .full (.store 2 (t 6) (t 29))] [0,3,5,6])
 .skip))
 (s (r [a 30 0 3,l 31 30,a 32 0 5,l 33 32,b 34 .add 31 33,v 35 (.max (i 0) [t 34]),m 7 35] [0,3,5,6,7])
 (.block 0 (.loop (s (s (r [m 36 7,a 37 0 3,l 38 37,a 39 1 5,l 40 39,b 41 .add 38 40,v 42 (.min (i 59) [t 41]),b 43 .leq 36 42] [0,3,5,6,7,43])
 (c (t 43)
 .skip
 (.exit 0)))
 (s (.block 1 (s (r [a 46 1 3,l 47 46,a 48 0 6,l 49 48,b 50 .add 47 49,v 51 (.max (i 0) [t 50]),m 8 51] [0,3,5,6,7,8])
 (.block 2 (.loop (s (s (r [m 52 8,a 53 1 3,l 54 53,a 55 1 6,l 56 55,b 57 .add 54 56,v 58 (.min (i 59) [t 57]),b 59 .leq 52 58] [0,3,5,6,7,8,59])
 (c (t 59)
 .skip
 (.exit 2)))
 (s (.block 3 (s (r [m 62 0,m 63 7,m 64 8,v 65 (.build [(z 0),(z 0)] [(0,1,(t 63)),(1,1,(t 64))]),⟨(some 66),(.call (t 62) [t 65]),none,.full⟩,v 67 (.un .not (t 66))] [0,3,5,6,7,8,67])
 (c (t 67)
 .ret
 .skip)))
 (r [m 60 8,v 61 (.bin .add (t 60) (i 1)),m 8 61] [0,3,5,6,7,8])))))))
 (r [m 44 7,v 45 (.bin .add (t 44) (i 1)),m 7 45] [0,3,5,6,7])))))))),[],false⟩
def f136 : AFunc := ⟨5,[],(s (r [m 12 1,m 10 12] [0,2,3,4,10])
 (.block 0 (.loop (.block 1 (s (r [m 13 10,v 14 (.bin .mul (i 2) (t 13)),v 15 (.bin .add (t 14) (i 1)),m 11 15] [0,2,3,4,10,11])
 (s (s (r [m 16 11,m 17 2,b 18 .geq 16 17] [0,2,3,4,10,11,18])
 (c (t 18)
 (.exit 0)
 .skip))
 (s (s (.region true [m 19 11,v 20 (.bin .add (t 19) (i 1)),m 21 2,b 22 .lss 20 21,m 23 22,⟨(some 24),(.v (.mov (t 4))),(some (23,true)),.full⟩,⟨(some 25),(.v (.mov (t 0))),(some (23,true)),.full⟩,⟨(some 26),(.v (.mov (t 3))),(some (23,true)),.full⟩,⟨(some 27),(.v (.mov (t 11))),(some (23,true)),.full⟩,⟨(some 28),(.v (.bin .add (t 26) (t 27))),(some (23,true)),.full⟩,⟨(some 29),(.v (.indexAddrS 4 (t 25) (t 28))),(some (23,true)),.full⟩,⟨(some 30),(.h (.load true 4 (t 29))),(some (23,true)),.froz⟩,⟨(some 31),(.v (.mov (t 0))),(some (23,true)),.full⟩,⟨(some 32),(.v (.mov (t 3))),(some (23,true)),.full⟩,⟨(some 33),(.v (.mov (t 11))),(some (23,true)),.full⟩,⟨(some 34),(.v (.bin .add (t 32) (t 33))),(some (23,true)),.full⟩,⟨(some 35),(.v (.bin .add (t 34) (i 1))),(some (23,true)),.full⟩,⟨(some 36),(.v (.indexAddrS 4 (t 31) (t 35))),(some (23,true)),.full⟩,⟨(some 37),(.h (.load true 4 (t 36))),(some (23,true)),.froz⟩,⟨(some 38),(.call (t 24) [t 30,t 37]),(some (23,true)),.full⟩,⟨(some 39),(.v (.bin .lss (t 38) (i 0))),(some (23,true)),.full⟩,v 40 (.pick (t 23) (t 39) (.const (.bool false)))] [0,2,3,4,10,11,40])
 (c (t 40)
 (r [m 41 11,v 42 (.bin .add (t 41) (i 1)),m 11 42] [0,2,3,4,10,11])
 .skip))
 (s (s (.region true [m 43 4,m 44 0,m 45 3,m 46 10,b 47 .add 45 46,v 48 (.indexAddrS 4 (t 44) (t 47)),h 49 .froz (.load true 4 (t 48)),m 50 0,m 51 3,m 52 11,b 53 .add 51 52,v 54 (.indexAddrS 4 (t 50) (t 53)),h 55 .froz (.load true 4 (t 54)),⟨(some 56),(.call (t 43) [t 49,t 55]),none,.full⟩,v 57 (.bin .lss (t 56) (i 0)),v 58 (.un .not (t 57))] [0,2,3,4,10,11,58])
 (c (t 58)
 .ret
 .skip))
 (s (.region true [m 59 0,m 60 3,m 61 10,b 62 .add 60 61,m 63 0,m 64 3,m 65 11,b 66 .add 64 65,m 67 0,m 68 3,m 69 11,b 70 .add 68 69,v 71 (.indexAddrS 4 (t 67) (t 70)),h 72 .froz (.load true 4 (t 71)),m 73 0,m 74 3,m 75 10,b 76 .add 74 75,v 77 (.indexAddrS 4 (t 73) (t 76)),h 78 .froz (.load true 4 (t 77)),v 79 (.indexAddrS 4 (t 59) (t 62)),e .full (.store 4 (t 79) (t 72)),v 80 (.indexAddrS 4 (t 63) (t 66)),e .full (.store 4 (t 80) (t 78))] [0,2,3,4,11])
 (r [m 81 11,m 10 81] [0,2,3,4,10])))))))))),[],false⟩
def f137 : AFunc := ⟨1,[.tmp 2],(s (r [v 2 (.mov (.const (.int .u64 0)))] [0])
 (s (r [m 3 0,v 4 (.conv .u64 (t 3)),k 5 64 [t 4],v 6 (.bin .shl (.const (.int .u64 1)) (t 5)),m 2 6] [2])
 .ret)),[],true⟩
def f138 : AFunc := ⟨1,[.tmp 2],(s (r [v 2 (.mov (.const (.int .u64 0)))] [0])
 (s (.region true [m 3 0,v 4 (.nilCheck (t 3)),lf 5 4,m 6 0,v 7 (.nilCheck (t 6)),lf 8 7,v 9 (.bin .shl (t 8) (.const (.int .u64 13))),b 10 .xor 5 9,v 11 (.nilCheck (t 3)),e .full (.store 1 (t 11) (t 10))] [0])
 (s (.region true [m 12 0,v 13 (.nilCheck (t 12)),lf 14 13,m 15 0,v 16 (.nilCheck (t 15)),lf 17 16,v 18 (.bin .shr (t 17) (.const (.int .u64 7))),b 19 .xor 14 18,v 20 (.nilCheck (t 12)),e .full (.store 1 (t 20) (t 19))] [0])
 (s (.region true [m 21 0,v 22 (.nilCheck (t 21)),lf 23 22,m 24 0,v 25 (.nilCheck (t 24)),lf 26 25,v 27 (.bin .shl (t 26) (.const (.int .u64 17))),b 28 .xor 23 27,v 29 (.nilCheck (t 21)),e .full (.store 1 (t 29) (t 28))] [0])
 (s (r [m 30 0,v 31 (.nilCheck (t 30)),l 32 31,m 2 32] [2])
 .ret))))),[],false⟩
def f139 : AFunc := ⟨4,[.tmp 8],(s (r [n 8 0] [0,1,2,3])
 (s (r [m 9 0,m 10 1,v 11 (.bin .sub (t 10) (i 1)),m 12 1,m 13 1,v 14 (.bin .add (t 13) (i 1)),m 15 2,m 16 3,k 17 140 [t 9,t 11,t 12,t 14,t 15,t 16],m 8 17] [8])
 .ret)),[],false⟩
def f140 : AFunc := ⟨6,[.tmp 12],(s (r [n 12 0] [0,1,2,3,4,5])
 (s (r [m 14 0,m 15 1,m 16 2,m 17 4,m 18 5,k 19 158 [t 14,t 15,t 16,t 17,t 18],m 13 19,v 20 (.extract 0 (t 13)),v 21 (.extract 1 (t 13)),m 1 20,m 2 21] [0,1,2,3,4,5])
 (s (r [m 23 0,m 24 2,m 25 3,m 26 4,m 27 5,k 28 158 [t 23,t 24,t 25,t 26,t 27],m 22 28,v 29 (.extract 0 (t 22)),v 30 (.extract 1 (t 22)),m 2 29,m 3 30] [0,1,2,4,5])
 (s (r [m 32 0,m 33 1,m 34 2,m 35 4,m 36 5,k 37 158 [t 32,t 33,t 34,t 35,t 36],m 31 37,v 38 (.extract 0 (t 31)),v 39 (.extract 1 (t 31)),m 1 38,m 2 39] [2])
 (s (r [m 40 2,m 12 40] [12])
 .ret))))),[],false⟩
def f152 : AFunc := ⟨2,[.tmp 4],(s (r [n 4 0] [0,1])
 (s (r [m 5 0,m 6 1,k 7 161 [t 5,t 6],m 4 7] [4])
 .ret)),[],true⟩
def f153 : AFunc := ⟨2,[.tmp 4],(s (r [n 4 0] [0,1])
 (s (s (r [m 6 0,v 7 (.len (t 6)),n 8 0] [0,1,7,8])
 (.block 0 (.loop (s (r [b 9 .lss 8 7] [0,1,7,8,9])
 (s (c (t 9)
 .skip
 (.exit 0))
 (s (.block 1 (s (r [m 10 8,m 5 10] [0,1,5,7,8])
 (s (r [m 11 1,m 12 0,m 13 5,v 14 (.indexAddrS 10 (t 12) (t 13)),h 15 .full (.load true 10 (t 14)),⟨(some 16),(.call (t 11) [t 15]),none,.full⟩] [0,1,5,7,8,16])
 (c (t 16)
 (s (r [m 17 5,m 4 17] [4])
 .ret)
 .skip))))
 (r [v 18 (.bin .add (t 8) (i 1)),m 8 18] [0,1,7,8])))))))
 (s (r [n 4 (-1)] [4])
 .ret))),[],true⟩
def f154 : AFunc := ⟨2,[.tmp 4],(s (r [v 4 (.mov (.const (.bool false)))] [0,1])
 (s (r [m 5 0,k 6 162 [t 5,(i (-20)),i 20],m 7 6,⟨(some 8),(.v (.mov (t 1))),(some (7,true)),.full⟩,⟨(some 9),(.call (g 162) [t 8,(i (-20)),i 20]),(some (7,true)),.full⟩,v 10 (.pick (t 7) (t 9) (.const (.bool false))),m 11 10,⟨(some 12),(.v (.mov (t 0))),(some (11,true)),.full⟩,⟨(some 13),(.v (.bin .neq (t 12) (i 0))),(some (11,true)),.full⟩,⟨(some 14),(.v (.mov (t 13))),(some (11,true)),.full⟩,⟨(some 15),(.v (.mov (t 1))),(some (14,false)),.full⟩,⟨(some 16),(.v (.bin .neq (t 15) (i 0))),(some (14,false)),.full⟩,⟨(some 17),(.v (.pick (t 14) (.const (.bool true)) (t 16))),(some (11,true)),.full⟩,v 18 (.pick (t 11) (t 17) (.const (.bool false))),m 4 18] [4])
 .ret)),[],true⟩
def f155 : AFunc := ⟨2,[.tmp 4],(s (r [v 4 (.mov (.const (.bool false)))] [0,1])
 (s (r [m 5 0,m 6 1,k 7 163 [t 5,t 6],v 8 (.bin .geq (t 7) (i 0)),m 4 8] [4])
 .ret)),[],true⟩
def f156 : AFunc := ⟨1,[.tmp 2],(s (r [h 1 .full (.box (t 0)),v 2 (.mov (.const (.bool false)))] [1])
 (s (r [h 3 .full (.load true 2 (t 1)),k 4 129 [t 3,(i (-10000)),i 10000],v 5 (.un .not (t 4)),m 2 5] [2])
 .ret)),[],true⟩
def f157 : AFunc := ⟨2,[.tmp 4],(s (r [n 4 0] [0,1])
 (s (s (r [m 6 0,v 7 (.len (t 6)),n 8 0] [0,1,7,8])
 (.block 0 (.loop (s (r [b 9 .lss 8 7] [0,1,7,8,9])
 (s (c (t 9)
 .skip
 (.exit 0))
 (s (.block 1 (s (r [m 10 8,m 5 10] [0,1,5,7,8])
 (s (r [m 11 1,m 12 0,m 13 5,v 14 (.indexAddrS 10 (t 12) (t 13)),h 15 .full (.load true 10 (t 14)),⟨(some 16),(.call (t 11) [t 15]),none,.full⟩] [0,1,5,7,8,16])
 (c (t 16)
 (s (r [m 17 5,m 4 17] [4])
 .ret)
 .skip))))
 (r [v 18 (.bin .add (t 8) (i 1)),m 8 18] [0,1,7,8])))))))
 (s (r [n 4 (-1)] [4])
 .ret))),[],true⟩
def f158 : AFunc := ⟨5,[.tmp 10,.tmp 11],(s (r [n 10 0,n 11 0] [0,1,2,3,4])
 (s (s (.region true [m 12 4,m 13 0,m 14 2,v 15 (.indexAddrS 4 (t 13) (t 14)),h 16 .froz (.load true 4 (t 15)),m 17 0,m 18 1,v 19 (.indexAddrS 4 (t 17) (t 18)),h 20 .froz (.load true 4 (t 19)),⟨(some 21),(.call (t 12) [t 16,t 20]),none,.full⟩,v 22 (.bin .lss (t 21) (i 0))] [1,2,3,22])
 (c (t 22)
 (s (r [m 23 3,v 24 (.nilCheck (t 23)),l 25 24,v 26 (.bin .add (t 25) (i 1)),v 27 (.nilCheck (t 23)),e .full (.store 1 (t 27) (t 26))] [1,2])
 (s (r [m 28 2,m 29 1,m 10 28,m 11 29] [10,11])
 .ret))
 .skip))
 (s (r [m 30 1,m 31 2,m 10 30,m 11 31] [10,11])
 .ret))),[],false⟩
def f162 : AFunc := ⟨3,[.tmp 6],(s (r [v 6 (.mov (.const (.bool false)))] [0,1,2])
 (s (r [m 7 1,m 8 0,b 9 .leq 7 8,m 10 9,⟨(some 11),(.v (.mov (t 0))),(some (10,true)),.full⟩,⟨(some 12),(.v (.mov (t 2))),(some (10,true)),.full⟩,⟨(some 13),(.v (.bin .leq (t 11) (t 12))),(some (10,true)),.full⟩,v 14 (.pick (t 10) (t 13) (.const (.bool false))),m 6 14] [6])
 .ret)),[],true⟩
def f163 : AFunc := ⟨2,[.tmp 4],(s (r [n 4 0] [0,1])
 (s (s (r [m 6 0,v 7 (.len (t 6)),n 8 0] [0,1,7,8])
 (.block 0 (.loop (s (r [b 9 .lss 8 7] [0,1,7,8,9])
 (s (c (t 9)
 .skip
 (.exit 0))
 (s (.block 1 (s (r [m 10 8,m 5 10] [0,1,5,7,8])
 (s (r [m 11 1,m 12 0,m 13 5,v 14 (.indexAddrS 2 (t 12) (t 13)),h 15 .full (.load true 2 (t 14)),⟨(some 16),(.call (t 11) [t 15]),none,.full⟩] [0,1,5,7,8,16])
 (c (t 16)
 (s (r [m 17 5,m 4 17] [4])
 .ret)
 .skip))))
 (r [v 18 (.bin .add (t 8) (i 1)),m 8 18] [0,1,7,8])))))))
 (s (r [n 4 (-1)] [4])
 .ret))),[],true⟩
def f186 : AFunc := ⟨2,[.tmp 4],(s (r [h 2 .full (.box (t 0)),h 3 .full (.box (t 1)),v 4 (.mov (.const (.bool false)))] [2,3])
 (s (r [n 5 0] [2,3,5])
 (s (s (r [a 8 0 2,a 9 9 8,l 10 9,v 11 (.len (t 10)),n 12 0] [3,5,10,11,12])
 (.block 0 (.loop (s (r [b 13 .lss 12 11] [3,5,10,11,12,13])
 (s (c (t 13)
 .skip
 (.exit 0))
 (s (.block 1 (s (r [v 14 (.indexAddrS 2 (t 10) (t 12)),h 15 .full (.load true 2 (t 14)),h 7 .full (.alloc [(z 0),(z 0)]),e .full (.store 2 (t 7) (t 15))] [3,5,7,10,11,12])
 (s (r [h 16 .full (.load true 2 (t 7)),a 17 0 3,l 18 17,k 19 194 [t 16,t 18]] [3,5,10,11,12,19])
 (c (t 19)
 (r [m 20 5,v 21 (.bin .add (t 20) (i 1)),m 5 21] [3,5,10,11,12])
 .skip))))
 (r [v 22 (.bin .add (t 12) (i 1)),m 12 22] [3,5,10,11,12])))))))
 (s (r [m 23 5,v 24 (.bin .geq (t 23) (i 2)),m 4 24] [4])
 .ret)))),[],true⟩
def f193 : AFunc := ⟨2,[.tmp 4],(s (r [h 2 .full (.box (t 0)),h 3 .full (.box (t 1)),v 4 (.mov (.const (.bool false)))] [2,3])
 (s (r [a 5 0 2,a 6 3 5,h 7 .full (.load true 2 (t 6)),a 8 0 2,a 9 1 8,l 10 9,a 11 0 3,l 12 11,b 13 .mul 10 12,a 14 0 2,a 15 2 14,l 16 15,a 17 1 3,l 18 17,b 19 .mul 16 18,b 20 .add 13 19,k 21 194 [t 7,t 20],m 4 21] [4])
 .ret)),[],true⟩
def f194 : AFunc := ⟨2,[.tmp 4],(s (r [h 2 .full (.box (t 0)),v 4 (.mov (.const (.bool false)))] [1,2])
 (s (r [m 5 1,a 6 0 2,l 7 6,a 8 1 2,l 9 8,k 10 162 [t 5,t 7,t 9],m 4 10] [4])
 .ret)),[],true⟩
end Go.Oct.Log
