/- The functions of the program, compiled to the abstract interpreter's code (printed by a program). -/
import Derived.Test.YtpgjndgpackffaaDoorOT0
set_option maxRecDepth 100000
namespace Go.Oct.Shop
open Go.Oct.L
def f124 : AFunc := ⟨4,[.tmp 8],(s (r [n 8 0] [0,1,2,3])
 (s (.region true [m 11 0,m 12 1,m 13 0,m 14 3,m 15 0,m 16 3,v 17 (.indexAddrS 1 (t 15) (t 16)),lf 18 17,m 19 0,m 20 1,v 21 (.indexAddrS 1 (t 19) (t 20)),lf 22 21,v 23 (.indexAddrS 1 (t 11) (t 12)),e .full (.store 1 (t 23) (t 18)),v 24 (.indexAddrS 1 (t 13) (t 14)),e .full (.store 1 (t 24) (t 22))] [0,1,2])
 (s (r [m 25 1,v 26 (.bin .add (t 25) (i 1)),m 27 2,v 28 (.bin .sub (t 27) (i 1)),m 9 26,m 10 28] [0,1,9,10])
 (s (.block 0 (.loop (.block 1 (s (.block 2 (.loop (s (s (.region true [m 29 9,m 30 10,b 31 .leq 29 30,m 32 31,⟨(some 33),(.v (.mov (t 0))),(some (32,true)),.full⟩,⟨(some 34),(.v (.mov (t 1))),(some (32,true)),.full⟩,⟨(some 35),(.v (.indexAddrS 1 (t 33) (t 34))),(some (32,true)),.full⟩,⟨(some 36),(.h (.load false 1 (t 35))),(some (32,true)),.froz⟩,⟨(some 37),(.v (.mov (t 0))),(some (32,true)),.full⟩,⟨(some 38),(.v (.mov (t 9))),(some (32,true)),.full⟩,⟨(some 39),(.v (.indexAddrS 1 (t 37) (t 38))),(some (32,true)),.full⟩,⟨(some 40),(.h (.load false 1 (t 39))),(some (32,true)),.froz⟩,⟨(some 41),(.call (g 123) [t 36,t 40]),(some (32,true)),.full⟩,⟨(some 42),(.v (.un .not (t 41))),(some (32,true)),.full⟩,v 43 (.pick (t 32) (t 42) (.const (.bool false)))] [0,1,9,10,43])
 (c (t 43)
 .skip
 (.exit 2)))
 (.block 3 (r [m 44 9,v 45 (.bin .add (t 44) (i 1)),m 9 45] [0,1,9,10])))))
 (s (.block 4 (.loop (s (s (.region true [m 46 9,m 47 10,b 48 .leq 46 47,m 49 48,⟨(some 50),(.v (.mov (t 0))),(some (49,true)),.full⟩,⟨(some 51),(.v (.mov (t 1))),(some (49,true)),.full⟩,⟨(some 52),(.v (.indexAddrS 1 (t 50) (t 51))),(some (49,true)),.full⟩,⟨(some 53),(.h (.load false 1 (t 52))),(some (49,true)),.froz⟩,⟨(some 54),(.v (.mov (t 0))),(some (49,true)),.full⟩,⟨(some 55),(.v (.mov (t 10))),(some (49,true)),.full⟩,⟨(some 56),(.v (.indexAddrS 1 (t 54) (t 55))),(some (49,true)),.full⟩,⟨(some 57),(.h (.load false 1 (t 56))),(some (49,true)),.froz⟩,⟨(some 58),(.call (g 123) [t 53,t 57]),(some (49,true)),.full⟩,v 59 (.pick (t 49) (t 58) (.const (.bool false)))] [0,1,9,10,59])
 (c (t 59)
 .skip
 (.exit 4)))
 (.block 5 (r [m 60 10,v 61 (.bin .sub (t 60) (i 1)),m 10 61] [0,1,9,10])))))
 (s (s (r [m 62 9,m 63 10,b 64 .gtr 62 63] [0,1,9,10,64])
 (c (t 64)
 (.exit 0)
 .skip))
 (s (.region true [m 65 0,m 66 9,m 67 0,m 68 10,m 69 0,m 70 10,v 71 (.indexAddrS 1 (t 69) (t 70)),lf 72 71,m 73 0,m 74 9,v 75 (.indexAddrS 1 (t 73) (t 74)),lf 76 75,v 77 (.indexAddrS 1 (t 65) (t 66)),e .full (.store 1 (t 77) (t 72)),v 78 (.indexAddrS 1 (t 67) (t 68)),e .full (.store 1 (t 78) (t 76))] [0,1,9,10])
 (s (r [m 79 9,v 80 (.bin .add (t 79) (i 1)),m 9 80] [0,1,9,10])
 (r [m 81 10,v 82 (.bin .sub (t 81) (i 1)),m 10 82] [0,1,9,10])))))))))
 (s (r [m 83 9,m 8 83] [8])
 .ret))))),[],false⟩
def f125 : AFunc := ⟨4,[.tmp 8,.tmp 9],(s (r [n 8 0,v 9 (.mov (.const (.bool false)))] [0,1,2,3])
 (s (.region true [m 12 0,m 13 1,m 14 0,m 15 3,m 16 0,m 17 3,v 18 (.indexAddrS 1 (t 16) (t 17)),lf 19 18,m 20 0,m 21 1,v 22 (.indexAddrS 1 (t 20) (t 21)),lf 23 22,v 24 (.indexAddrS 1 (t 12) (t 13)),e .full (.store 1 (t 24) (t 19)),v 25 (.indexAddrS 1 (t 14) (t 15)),e .full (.store 1 (t 25) (t 23))] [0,1,2])
 (s (r [m 26 1,v 27 (.bin .add (t 26) (i 1)),m 28 2,v 29 (.bin .sub (t 28) (i 1)),m 10 27,m 11 29] [0,1,10,11])
 (s (.block 0 (.loop (s (s (.region true [m 30 10,m 31 11,b 32 .leq 30 31,m 33 32,⟨(some 34),(.v (.mov (t 0))),(some (33,true)),.full⟩,⟨(some 35),(.v (.mov (t 10))),(some (33,true)),.full⟩,⟨(some 36),(.v (.indexAddrS 1 (t 34) (t 35))),(some (33,true)),.full⟩,⟨(some 37),(.h (.load false 1 (t 36))),(some (33,true)),.froz⟩,⟨(some 38),(.v (.mov (t 0))),(some (33,true)),.full⟩,⟨(some 39),(.v (.mov (t 1))),(some (33,true)),.full⟩,⟨(some 40),(.v (.indexAddrS 1 (t 38) (t 39))),(some (33,true)),.full⟩,⟨(some 41),(.h (.load false 1 (t 40))),(some (33,true)),.froz⟩,⟨(some 42),(.call (g 123) [t 37,t 41]),(some (33,true)),.full⟩,v 43 (.pick (t 33) (t 42) (.const (.bool false)))] [0,1,10,11,43])
 (c (t 43)
 .skip
 (.exit 0)))
 (.block 1 (r [m 44 10,v 45 (.bin .add (t 44) (i 1)),m 10 45] [0,1,10,11])))))
 (s (.block 2 (.loop (s (s (.region true [m 46 10,m 47 11,b 48 .leq 46 47,m 49 48,⟨(some 50),(.v (.mov (t 0))),(some (49,true)),.full⟩,⟨(some 51),(.v (.mov (t 11))),(some (49,true)),.full⟩,⟨(some 52),(.v (.indexAddrS 1 (t 50) (t 51))),(some (49,true)),.full⟩,⟨(some 53),(.h (.load false 1 (t 52))),(some (49,true)),.froz⟩,⟨(some 54),(.v (.mov (t 0))),(some (49,true)),.full⟩,⟨(some 55),(.v (.mov (t 1))),(some (49,true)),.full⟩,⟨(some 56),(.v (.indexAddrS 1 (t 54) (t 55))),(some (49,true)),.full⟩,⟨(some 57),(.h (.load false 1 (t 56))),(some (49,true)),.froz⟩,⟨(some 58),(.call (g 123) [t 53,t 57]),(some (49,true)),.full⟩,⟨(some 59),(.v (.un .not (t 58))),(some (49,true)),.full⟩,v 60 (.pick (t 49) (t 59) (.const (.bool false)))] [0,1,10,11,60])
 (c (t 60)
 .skip
 (.exit 2)))
 (.block 3 (r [m 61 11,v 62 (.bin .sub (t 61) (i 1)),m 11 62] [0,1,10,11])))))
 (s (s (r [m 63 10,m 64 11,b 65 .gtr 63 64] [0,1,10,11,65])
 (c (t 65)
 (s (.region true [m 66 0,m 67 11,m 68 0,m 69 1,m 70 0,m 71 1,v 72 (.indexAddrS 1 (t 70) (t 71)),lf 73 72,m 74 0,m 75 11,v 76 (.indexAddrS 1 (t 74) (t 75)),lf 77 76,v 78 (.indexAddrS 1 (t 66) (t 67)),e .full (.store 1 (t 78) (t 73)),v 79 (.indexAddrS 1 (t 68) (t 69)),e .full (.store 1 (t 79) (t 77))] [11])
 (s (r [m 80 11,m 8 80,v 9 (.mov (.const (.bool true)))] [8,9])
 .ret))
 .skip))
 (s (.region true [m 81 0,m 82 10,m 83 0,m 84 11,m 85 0,m 86 11,v 87 (.indexAddrS 1 (t 85) (t 86)),lf 88 87,m 89 0,m 90 10,v 91 (.indexAddrS 1 (t 89) (t 90)),lf 92 91,v 93 (.indexAddrS 1 (t 81) (t 82)),e .full (.store 1 (t 93) (t 88)),v 94 (.indexAddrS 1 (t 83) (t 84)),e .full (.store 1 (t 94) (t 92))] [0,1,10,11])
 (s (r [m 95 10,v 96 (.bin .add (t 95) (i 1)),m 10 96] [0,1,10,11])
 (s (r [m 97 11,v 98 (.bin .sub (t 97) (i 1)),m 11 98] [0,1,10,11])
 (s (.block 4 (.loop (.block 5 (s (.block 6 (.loop (s (s (.region true [m 99 10,m 100 11,b 101 .leq 99 100,m 102 101,⟨(some 103),(.v (.mov (t 0))),(some (102,true)),.full⟩,⟨(some 104),(.v (.mov (t 10))),(some (102,true)),.full⟩,⟨(some 105),(.v (.indexAddrS 1 (t 103) (t 104))),(some (102,true)),.full⟩,⟨(some 106),(.h (.load false 1 (t 105))),(some (102,true)),.froz⟩,⟨(some 107),(.v (.mov (t 0))),(some (102,true)),.full⟩,⟨(some 108),(.v (.mov (t 1))),(some (102,true)),.full⟩,⟨(some 109),(.v (.indexAddrS 1 (t 107) (t 108))),(some (102,true)),.full⟩,⟨(some 110),(.h (.load false 1 (t 109))),(some (102,true)),.froz⟩,⟨(some 111),(.call (g 123) [t 106,t 110]),(some (102,true)),.full⟩,v 112 (.pick (t 102) (t 111) (.const (.bool false)))] [0,1,10,11,112])
 (c (t 112)
 .skip
 (.exit 6)))
 (.block 7 (r [m 113 10,v 114 (.bin .add (t 113) (i 1)),m 10 114] [0,1,10,11])))))
 (s (.block 8 (.loop (s (s (.region true [m 115 10,m 116 11,b 117 .leq 115 116,m 118 117,⟨(some 119),(.v (.mov (t 0))),(some (118,true)),.full⟩,⟨(some 120),(.v (.mov (t 11))),(some (118,true)),.full⟩,⟨(some 121),(.v (.indexAddrS 1 (t 119) (t 120))),(some (118,true)),.full⟩,⟨(some 122),(.h (.load false 1 (t 121))),(some (118,true)),.froz⟩,⟨(some 123),(.v (.mov (t 0))),(some (118,true)),.full⟩,⟨(some 124),(.v (.mov (t 1))),(some (118,true)),.full⟩,⟨(some 125),(.v (.indexAddrS 1 (t 123) (t 124))),(some (118,true)),.full⟩,⟨(some 126),(.h (.load false 1 (t 125))),(some (118,true)),.froz⟩,⟨(some 127),(.call (g 123) [t 122,t 126]),(some (118,true)),.full⟩,⟨(some 128),(.v (.un .not (t 127))),(some (118,true)),.full⟩,v 129 (.pick (t 118) (t 128) (.const (.bool false)))] [0,1,10,11,129])
 (c (t 129)
 .skip
 (.exit 8)))
 (.block 9 (r [m 130 11,v 131 (.bin .sub (t 130) (i 1)),m 11 131] [0,1,10,11])))))
 (s (s (r [m 132 10,m 133 11,b 134 .gtr 132 133] [0,1,10,11,134])
 (c (t 134)
 (.exit 4)
 .skip))
 (s (.region true [m 135 0,m 136 10,m 137 0,m 138 11,m 139 0,m 140 11,v 141 (.indexAddrS 1 (t 139) (t 140)),lf 142 141,m 143 0,m 144 10,v 145 (.indexAddrS 1 (t 143) (t 144)),lf 146 145,v 147 (.indexAddrS 1 (t 135) (t 136)),e .full (.store 1 (t 147) (t 142)),v 148 (.indexAddrS 1 (t 137) (t 138)),e .full (.store 1 (t 148) (t 146))] [0,1,10,11])
 (s (r [m 149 10,v 150 (.bin .add (t 149) (i 1)),m 10 150] [0,1,10,11])
 (r [m 151 11,v 152 (.bin .sub (t 151) (i 1)),m 11 152] [0,1,10,11])))))))))
 (s (.region true [m 153 0,m 154 11,m 155 0,m 156 1,m 157 0,m 158 1,v 159 (.indexAddrS 1 (t 157) (t 158)),lf 160 159,m 161 0,m 162 11,v 163 (.indexAddrS 1 (t 161) (t 162)),lf 164 163,v 165 (.indexAddrS 1 (t 153) (t 154)),e .full (.store 1 (t 165) (t 160)),v 166 (.indexAddrS 1 (t 155) (t 156)),e .full (.store 1 (t 166) (t 164))] [11])
 (s (r [m 167 11,m 8 167,v 9 (.mov (.const (.bool false)))] [8,9])
 .ret)))))))))))),[],false⟩
def f126 : AFunc := ⟨5,[],(s (r [m 12 1,m 10 12] [0,2,3,4,10])
 (.block 0 (.loop (.block 1 (s (r [m 13 10,v 14 (.bin .mul (i 2) (t 13)),v 15 (.bin .add (t 14) (i 1)),m 11 15] [0,2,3,4,10,11])
 (s (s (r [m 16 11,m 17 2,b 18 .geq 16 17] [0,2,3,4,10,11,18])
 (c (t 18)
 (.exit 0)
 .skip))
 (s (s (.region true [m 19 11,v 20 (.bin .add (t 19) (i 1)),m 21 2,b 22 .lss 20 21,m 23 22,⟨(some 24),(.v (.mov (t 4))),(some (23,true)),.full⟩,⟨(some 25),(.v (.mov (t 0))),(some (23,true)),.full⟩,⟨(some 26),(.v (.mov (t 3))),(some (23,true)),.full⟩,⟨(some 27),(.v (.mov (t 11))),(some (23,true)),.full⟩,⟨(some 28),(.v (.bin .add (t 26) (t 27))),(some (23,true)),.full⟩,⟨(some 29),(.v (.indexAddrS 5 (t 25) (t 28))),(some (23,true)),.full⟩,⟨(some 30),(.h (.load true 5 (t 29))),(some (23,true)),.froz⟩,⟨(some 31),(.v (.mov (t 0))),(some (23,true)),.full⟩,⟨(some 32),(.v (.mov (t 3))),(some (23,true)),.full⟩,⟨(some 33),(.v (.mov (t 11))),(some (23,true)),.full⟩,⟨(some 34),(.v (.bin .add (t 32) (t 33))),(some (23,true)),.full⟩,⟨(some 35),(.v (.bin .add (t 34) (i 1))),(some (23,true)),.full⟩,⟨(some 36),(.v (.indexAddrS 5 (t 31) (t 35))),(some (23,true)),.full⟩,⟨(some 37),(.h (.load true 5 (t 36))),(some (23,true)),.froz⟩,⟨(some 38),(.call (t 24) [t 30,t 37]),(some (23,true)),.full⟩,⟨(some 39),(.v (.bin .lss (t 38) (i 0))),(some (23,true)),.full⟩,v 40 (.pick (t 23) (t 39) (.const (.bool false)))] [0,2,3,4,10,11,40])
 (c (t 40)
 (r [m 41 11,v 42 (.bin .add (t 41) (i 1)),m 11 42] [0,2,3,4,10,11])
 .skip))
 (s (s (.region true [m 43 4,m 44 0,m 45 3,m 46 10,b 47 .add 45 46,v 48 (.indexAddrS 5 (t 44) (t 47)),h 49 .froz (.load true 5 (t 48)),m 50 0,m 51 3,m 52 11,b 53 .add 51 52,v 54 (.indexAddrS 5 (t 50) (t 53)),h 55 .froz (.load true 5 (t 54)),⟨(some 56),(.call (t 43) [t 49,t 55]),none,.full⟩,v 57 (.bin .lss (t 56) (i 0)),v 58 (.un .not (t 57))] [0,2,3,4,10,11,58])
 (c (t 58)
 .ret
 .skip))
 (s (.region true [m 59 0,m 60 3,m 61 10,b 62 .add 60 61,m 63 0,m 64 3,m 65 11,b 66 .add 64 65,m 67 0,m 68 3,m 69 11,b 70 .add 68 69,v 71 (.indexAddrS 5 (t 67) (t 70)),h 72 .froz (.load true 5 (t 71)),m 73 0,m 74 3,m 75 10,b 76 .add 74 75,v 77 (.indexAddrS 5 (t 73) (t 76)),h 78 .froz (.load true 5 (t 77)),v 79 (.indexAddrS 5 (t 59) (t 62)),e .full (.store 5 (t 79) (t 72)),v 80 (.indexAddrS 5 (t 63) (t 66)),e .full (.store 5 (t 80) (t 78))] [0,2,3,4,11])
 (r [m 81 11,m 10 81] [0,2,3,4,10])))))))))),[],false⟩
def f127 : AFunc := ⟨1,[.tmp 2],(s (r [v 2 (.mov (.const (.int .u64 0)))] [0])
 (s (r [m 3 0,v 4 (.conv .u64 (t 3)),k 5 101 [t 4],v 6 (.bin .shl (.const (.int .u64 1)) (t 5)),m 2 6] [2])
 .ret)),[],true⟩
def f128 : AFunc := ⟨1,[.tmp 2],(s (r [v 2 (.mov (.const (.int .u64 0)))] [0])
 (s (.region true [m 3 0,v 4 (.nilCheck (t 3)),lf 5 4,m 6 0,v 7 (.nilCheck (t 6)),lf 8 7,v 9 (.bin .shl (t 8) (.const (.int .u64 13))),b 10 .xor 5 9,v 11 (.nilCheck (t 3)),e .full (.store 1 (t 11) (t 10))] [0])
 (s (.region true [m 12 0,v 13 (.nilCheck (t 12)),lf 14 13,m 15 0,v 16 (.nilCheck (t 15)),lf 17 16,v 18 (.bin .shr (t 17) (.const (.int .u64 7))),b 19 .xor 14 18,v 20 (.nilCheck (t 12)),e .full (.store 1 (t 20) (t 19))] [0])
 (s (.region true [m 21 0,v 22 (.nilCheck (t 21)),lf 23 22,m 24 0,v 25 (.nilCheck (t 24)),lf 26 25,v 27 (.bin .shl (t 26) (.const (.int .u64 17))),b 28 .xor 23 27,v 29 (.nilCheck (t 21)),e .full (.store 1 (t 29) (t 28))] [0])
 (s (r [m 30 0,v 31 (.nilCheck (t 30)),l 32 31,m 2 32] [2])
 .ret))))),[],true⟩
def f129 : AFunc := ⟨4,[.tmp 8],(s (r [n 8 0] [0,1,2,3])
 (s (r [m 9 0,m 10 1,v 11 (.bin .sub (t 10) (i 1)),m 12 1,m 13 1,v 14 (.bin .add (t 13) (i 1)),m 15 2,m 16 3,k 17 130 [t 9,t 11,t 12,t 14,t 15,t 16],m 8 17] [8])
 .ret)),[],false⟩
def f130 : AFunc := ⟨6,[.tmp 12],(s (r [n 12 0] [0,1,2,3,4,5])
 (s (r [m 14 0,m 15 1,m 16 2,m 17 4,m 18 5,k 19 134 [t 14,t 15,t 16,t 17,t 18],m 13 19,v 20 (.extract 0 (t 13)),v 21 (.extract 1 (t 13)),m 1 20,m 2 21] [0,1,2,3,4,5])
 (s (r [m 23 0,m 24 2,m 25 3,m 26 4,m 27 5,k 28 134 [t 23,t 24,t 25,t 26,t 27],m 22 28,v 29 (.extract 0 (t 22)),v 30 (.extract 1 (t 22)),m 2 29,m 3 30] [0,1,2,4,5])
 (s (r [m 32 0,m 33 1,m 34 2,m 35 4,m 36 5,k 37 134 [t 32,t 33,t 34,t 35,t 36],m 31 37,v 38 (.extract 0 (t 31)),v 39 (.extract 1 (t 31)),m 1 38,m 2 39] [2])
 (s (r [m 40 2,m 12 40] [12])
 .ret))))),[],false⟩
def f131 : AFunc := ⟨4,[],(s (r [m 10 1,m 8 10] [0,2,3,8])
 (.block 0 (.loop (.block 1 (s (r [m 11 8,v 12 (.bin .mul (i 2) (t 11)),v 13 (.bin .add (t 12) (i 1)),m 9 13] [0,2,3,8,9])
 (s (s (r [m 14 9,m 15 2,b 16 .geq 14 15] [0,2,3,8,9,16])
 (c (t 16)
 (.exit 0)
 .skip))
 (s (s (.region true [m 17 9,v 18 (.bin .add (t 17) (i 1)),m 19 2,b 20 .lss 18 19,m 21 20,⟨(some 22),(.v (.mov (t 0))),(some (21,true)),.full⟩,⟨(some 23),(.v (.mov (t 3))),(some (21,true)),.full⟩,⟨(some 24),(.v (.mov (t 9))),(some (21,true)),.full⟩,⟨(some 25),(.v (.bin .add (t 23) (t 24))),(some (21,true)),.full⟩,⟨(some 26),(.v (.indexAddrS 1 (t 22) (t 25))),(some (21,true)),.full⟩,⟨(some 27),(.h (.load false 1 (t 26))),(some (21,true)),.froz⟩,⟨(some 28),(.v (.mov (t 0))),(some (21,true)),.full⟩,⟨(some 29),(.v (.mov (t 3))),(some (21,true)),.full⟩,⟨(some 30),(.v (.mov (t 9))),(some (21,true)),.full⟩,⟨(some 31),(.v (.bin .add (t 29) (t 30))),(some (21,true)),.full⟩,⟨(some 32),(.v (.bin .add (t 31) (i 1))),(some (21,true)),.full⟩,⟨(some 33),(.v (.indexAddrS 1 (t 28) (t 32))),(some (21,true)),.full⟩,⟨(some 34),(.h (.load false 1 (t 33))),(some (21,true)),.froz⟩,⟨(some 35),(.call (g 123) [t 27,t 34]),(some (21,true)),.full⟩,v 36 (.pick (t 21) (t 35) (.const (.bool false)))] [0,2,3,8,9,36])
 (c (t 36)
 (r [m 37 9,v 38 (.bin .add (t 37) (i 1)),m 9 38] [0,2,3,8,9])
 .skip))
 (s (s (.region true [m 39 0,m 40 3,m 41 8,b 42 .add 40 41,v 43 (.indexAddrS 1 (t 39) (t 42)),lf 44 43,m 45 0,m 46 3,m 47 9,b 48 .add 46 47,v 49 (.indexAddrS 1 (t 45) (t 48)),lf 50 49,k 51 123 [t 44,t 50],v 52 (.un .not (t 51))] [0,2,3,8,9,52])
 (c (t 52)
 .ret
 .skip))
 (s (.region true [m 53 0,m 54 3,m 55 8,b 56 .add 54 55,m 57 0,m 58 3,m 59 9,b 60 .add 58 59,m 61 0,m 62 3,m 63 9,b 64 .add 62 63,v 65 (.indexAddrS 1 (t 61) (t 64)),lf 66 65,m 67 0,m 68 3,m 69 8,b 70 .add 68 69,v 71 (.indexAddrS 1 (t 67) (t 70)),lf 72 71,v 73 (.indexAddrS 1 (t 53) (t 56)),e .full (.store 1 (t 73) (t 66)),v 74 (.indexAddrS 1 (t 57) (t 60)),e .full (.store 1 (t 74) (t 72))] [0,2,3,9])
 (r [m 75 9,m 8 75] [0,2,3,8])))))))))),[],false⟩
def f132 : AFunc := ⟨3,[.tmp 6],(s (r [n 6 0] [0,1,2])
 (s (r [m 7 0,m 8 1,v 9 (.bin .sub (t 8) (i 1)),m 10 1,m 11 1,v 12 (.bin .add (t 11) (i 1)),m 13 2,k 14 133 [t 7,t 9,t 10,t 12,t 13],m 6 14] [6])
 .ret)),[],false⟩
def f133 : AFunc := ⟨5,[.tmp 10],(s (r [n 10 0] [0,1,2,3,4])
 (s (r [m 12 0,m 13 1,m 14 2,m 15 4,k 16 135 [t 12,t 13,t 14,t 15],m 11 16,v 17 (.extract 0 (t 11)),v 18 (.extract 1 (t 11)),m 1 17,m 2 18] [0,1,2,3,4])
 (s (r [m 20 0,m 21 2,m 22 3,m 23 4,k 24 135 [t 20,t 21,t 22,t 23],m 19 24,v 25 (.extract 0 (t 19)),v 26 (.extract 1 (t 19)),m 2 25,m 3 26] [0,1,2,4])
 (s (r [m 28 0,m 29 1,m 30 2,m 31 4,k 32 135 [t 28,t 29,t 30,t 31],m 27 32,v 33 (.extract 0 (t 27)),v 34 (.extract 1 (t 27)),m 1 33,m 2 34] [2])
 (s (r [m 35 2,m 10 35] [10])
 .ret))))),[],false⟩
def f134 : AFunc := ⟨5,[.tmp 10,.tmp 11],(s (r [n 10 0,n 11 0] [0,1,2,3,4])
 (s (s (.region true [m 12 4,m 13 0,m 14 2,v 15 (.indexAddrS 5 (t 13) (t 14)),h 16 .froz (.load true 5 (t 15)),m 17 0,m 18 1,v 19 (.indexAddrS 5 (t 17) (t 18)),h 20 .froz (.load true 5 (t 19)),⟨(some 21),(.call (t 12) [t 16,t 20]),none,.full⟩,v 22 (.bin .lss (t 21) (i 0))] [1,2,3,22])
 (c (t 22)
 (s (r [m 23 3,v 24 (.nilCheck (t 23)),l 25 24,v 26 (.bin .add (t 25) (i 1)),v 27 (.nilCheck (t 23)),e .full (.store 1 (t 27) (t 26))] [1,2])
 (s (r [m 28 2,m 29 1,m 10 28,m 11 29] [10,11])
 .ret))
 .skip))
 (s (r [m 30 1,m 31 2,m 10 30,m 11 31] [10,11])
 .ret))),[],false⟩
def f135 : AFunc := ⟨4,[.tmp 8,.tmp 9],(s (r [n 8 0,n 9 0] [0,1,2,3])
 (s (s (.region true [m 10 0,m 11 2,v 12 (.indexAddrS 1 (t 10) (t 11)),lf 13 12,m 14 0,m 15 1,v 16 (.indexAddrS 1 (t 14) (t 15)),lf 17 16,k 18 123 [t 13,t 17]] [1,2,3,18])
 (c (t 18)
 (s (r [m 19 3,v 20 (.nilCheck (t 19)),l 21 20,v 22 (.bin .add (t 21) (i 1)),v 23 (.nilCheck (t 19)),e .full (.store 1 (t 23) (t 22))] [1,2])
 (s (r [m 24 2,m 25 1,m 8 24,m 9 25] [8,9])
 .ret))
 .skip))
 (s (r [m 26 1,m 27 2,m 8 26,m 9 27] [8,9])
 .ret))),[],false⟩
def f151 : AFunc := ⟨1,[.tmp 2],(s (r [h 1 .full (.box (t 0)),n 2 0] [1])
 (s (r [a 3 0 1,a 4 1 3,l 5 4,m 2 5] [2])
 .ret)),[],true⟩
def f153 : AFunc := ⟨1,[.tmp 2],(s (r [h 1 .full (.box (t 0)),n 2 0] [1])
 (s (r [a 3 0 1,l 4 3,m 2 4] [2])
 .ret)),[],true⟩
def f154 : AFunc := ⟨1,[.tmp 2],(s (r [h 1 .full (.box (t 0)),n 2 0] [1])
 (s (r [a 3 1 1,l 4 3,m 2 4] [2])
 .ret)),[],true⟩
def f155 : AFunc := ⟨1,[.tmp 2],(s (r [h 1 .full (.box (t 0)),n 2 0] [1])
 (s (r [a 3 0 1,a 4 2 3,l 5 4,m 2 5] [2])
 .ret)),[],true⟩
def f156 : AFunc := ⟨1,[.tmp 2],(s (r [h 1 .full (.box (t 0)),n 2 0] [1])
 (s (r [a 3 1 1,l 4 3,m 2 4] [2])
 .ret)),[],true⟩
def f157 : AFunc := ⟨1,[.tmp 2],(s (r [h 1 .full (.box (t 0)),n 2 0] [1])
 (s (r [a 3 2 1,l 4 3,m 2 4] [2])
 .ret)),[],true⟩
def f161 : AFunc := ⟨0,[],(r [v 0 (.build [.nilFunc,.nilFunc,.nilFunc] [(0,1,(g 151)),(1,1,(g 153)),(2,1,(g 154))]),v 1 (.build [.nilFunc,.nilFunc,.nilFunc] [(0,1,(g 155)),(1,1,(g 156)),(2,1,(g 157))]),v 2 (.build [.nilFunc,.nilFunc,.nilFunc,.nilFunc,.nilFunc,.nilFunc] [(0,3,(t 0)),(3,3,(t 1))]),e .full (.store 6 (.const (.vptr [(.func (.func 151) [] []),(.func (.func 153) [] []),(.func (.func 154) [] []),(.func (.func 155) [] []),(.func (.func 156) [] []),(.func (.func 157) [] [])] 0)) (t 2))] []),[],true⟩
end Go.Oct.Shop
