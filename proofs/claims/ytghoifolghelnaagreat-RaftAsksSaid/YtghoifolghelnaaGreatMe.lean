/-
 What the functions of this chapter do.
 No condition beyond those that each theorem names.
-/
import Derived.Test.YtghoifolghelnaaGreatMd
import Derived.Test.YtghoifolghelnaaGreatSxu
import Derived.Test.YtghoifolghelnaaGreatProg
import Derived.KernelRfl
set_option linter.unusedSimpArgs false
open Go.Sx
set_option linter.unusedVariables false
namespace Go.Proofs.YtghoifolghelnaaGreat
set_option maxRecDepth 100000 in
def F16 (hk : Hook) (n0 n1 n2 n3 n4 n5 n6 n7 : Int) (n8 n9 : AV) (n10 : Int) (n11 n12 n13 n14 : AV) (n15 n16 n17 : Int) (n18 data19 : AV) (w : AW) (K : AV → AW → Prop) : Prop :=
 gd (List.all [(ii n0),(ii n1),(.int .u8 n2),(ii n3),(ii n4),(ii n5),(ii n6),(ii n7),n8,n9,(ii n10),n11,n12,n13,n14,(ii n15),(ii n16),(ii n17),n18] okCell) (
 new w [(ii n0),(ii n1),(.int .u8 n2),(ii n3),(ii n4),(ii n5),(ii n6),(ii n7),n8,n9,(ii n10),n11,n12,n13,n14,(ii n15),(ii n16),(ii n17),n18] fun b20 w21 =>
 new w21 [(ii 0),(ii 0),(.int .u8 0),(ii 0),(ii 0),(ii 0),(ii 0),(ii 0),.nilslice,.nilslice,(ii 0),.nilslice,.nilslice,.nilslice,.nilslice,(ii 0),(ii 0),(ii 0),.nilslice] fun b22 w23 =>
 ∃ x24 x25 x26 x27 x28 x29 x30 x31 : Int,∃ x32 x33 : AV,∃ x34 : Int,∃ x35 x36 x37 x38 : AV,∃ x39 x40 x41 : Int,∃ x42 : AV,ldN 19 w23 b20 0 = some (.agg [(ii x24),(ii x25),(.int .u8 x26),(ii x27),(ii x28),(ii x29),(ii x30),(ii x31),x32,x33,(ii x34),x35,x36,x37,x38,(ii x39),(ii x40),(ii x41),x42]) ∧
 Cl Tryz.prog hk 56 [(.agg [(ii x24),(ii x25),(.int .u8 x26),(ii x27),(ii x28),(ii x29),(ii x30),(ii x31),x32,x33,(ii x34),x35,x36,x37,x38,(ii x39),(ii x40),(ii x41),x42])] w23 fun r43 w44 =>
 ∃ x45 : Bool,r43 = (.bool x45) ∧
 ifT (!x45) (onM (AW.putCells w44 b22 0 [(ii 0),(ii 0),(.int .u8 0),(ii 0),(ii 0),(ii 0),(ii 0),(ii 0),.nilslice,.nilslice,(ii 0),.nilslice,.nilslice,.nilslice,.nilslice,(ii 0),(ii 0),(ii 0),.nilslice]) fun w46 =>
  ∃ res47 res48 res49 res50 res51 res52 res53 res54 : Int,∃ res55 res56 : AV,∃ res57 : Int,∃ res58 res59 res60 res61 : AV,∃ res62 res63 res64 : Int,∃ res65 : AV,ldN 19 w46 b22 0 = some (.agg [(ii res47),(ii res48),(.int .u8 res49),(ii res50),(ii res51),(ii res52),(ii res53),(ii res54),res55,res56,(ii res57),res58,res59,res60,res61,(ii res62),(ii res63),(ii res64),res65]) ∧
 K (.tup [(.agg [(ii res47),(ii res48),(.int .u8 res49),(ii res50),(ii res51),(ii res52),(ii res53),(ii res54),res55,res56,(ii res57),res58,res59,res60,res61,(ii res62),(ii res63),(ii res64),res65]),(ii 0),.nilslice,(ii 2)]) w46)
 (∃ x66 : Int,ld w44 b20 (0 + 2) = some (.int .u8 x66) ∧
 ifT (!decide (x66 = 3)) (onM (AW.putCells w44 b22 0 [(ii 0),(ii 0),(.int .u8 0),(ii 0),(ii 0),(ii 0),(ii 0),(ii 0),.nilslice,.nilslice,(ii 0),.nilslice,.nilslice,.nilslice,.nilslice,(ii 0),(ii 0),(ii 0),.nilslice]) fun w67 =>
  ∃ res68 res69 res70 res71 res72 res73 res74 res75 : Int,∃ res76 res77 : AV,∃ res78 : Int,∃ res79 res80 res81 res82 : AV,∃ res83 res84 res85 : Int,∃ res86 : AV,ldN 19 w67 b22 0 = some (.agg [(ii res68),(ii res69),(.int .u8 res70),(ii res71),(ii res72),(ii res73),(ii res74),(ii res75),res76,res77,(ii res78),res79,res80,res81,res82,(ii res83),(ii res84),(ii res85),res86]) ∧
 K (.tup [(.agg [(ii res68),(ii res69),(.int .u8 res70),(ii res71),(ii res72),(ii res73),(ii res74),(ii res75),res76,res77,(ii res78),res79,res80,res81,res82,(ii res83),(ii res84),(ii res85),res86]),(ii 0),.nilslice,(ii 220)]) w67)
 (∃ x87 : Int,lenS data19 = some (ii x87) ∧
 ifT (decide (60000 < x87)) (onM (AW.putCells w44 b22 0 [(ii 0),(ii 0),(.int .u8 0),(ii 0),(ii 0),(ii 0),(ii 0),(ii 0),.nilslice,.nilslice,(ii 0),.nilslice,.nilslice,.nilslice,.nilslice,(ii 0),(ii 0),(ii 0),.nilslice]) fun w88 =>
  ∃ res89 res90 res91 res92 res93 res94 res95 res96 : Int,∃ res97 res98 : AV,∃ res99 : Int,∃ res100 res101 res102 res103 : AV,∃ res104 res105 res106 : Int,∃ res107 : AV,ldN 19 w88 b22 0 = some (.agg [(ii res89),(ii res90),(.int .u8 res91),(ii res92),(ii res93),(ii res94),(ii res95),(ii res96),res97,res98,(ii res99),res100,res101,res102,res103,(ii res104),(ii res105),(ii res106),res107]) ∧
 K (.tup [(.agg [(ii res89),(ii res90),(.int .u8 res91),(ii res92),(ii res93),(ii res94),(ii res95),(ii res96),res97,res98,(ii res99),res100,res101,res102,res103,(ii res104),(ii res105),(ii res106),res107]),(ii 0),.nilslice,(ii 3)]) w88)
 (onM (ld w44 b20 (0 + 9)) fun x108 =>
 ∃ x109 : Int,lenS x108 = some (ii x109) ∧
 ifT (decide (4096 ≤ x109)) (onM (AW.putCells w44 b22 0 [(ii 0),(ii 0),(.int .u8 0),(ii 0),(ii 0),(ii 0),(ii 0),(ii 0),.nilslice,.nilslice,(ii 0),.nilslice,.nilslice,.nilslice,.nilslice,(ii 0),(ii 0),(ii 0),.nilslice]) fun w110 =>
  ∃ res111 res112 res113 res114 res115 res116 res117 res118 : Int,∃ res119 res120 : AV,∃ res121 : Int,∃ res122 res123 res124 res125 : AV,∃ res126 res127 res128 : Int,∃ res129 : AV,ldN 19 w110 b22 0 = some (.agg [(ii res111),(ii res112),(.int .u8 res113),(ii res114),(ii res115),(ii res116),(ii res117),(ii res118),res119,res120,(ii res121),res122,res123,res124,res125,(ii res126),(ii res127),(ii res128),res129]) ∧
 K (.tup [(.agg [(ii res111),(ii res112),(.int .u8 res113),(ii res114),(ii res115),(ii res116),(ii res117),(ii res118),res119,res120,(ii res121),res122,res123,res124,res125,(ii res126),(ii res127),(ii res128),res129]),(ii 0),.nilslice,(ii 5)]) w110)
 (∃ x130 x131 x132 x133 x134 x135 x136 x137 : Int,∃ x138 x139 : AV,∃ x140 : Int,∃ x141 x142 x143 x144 : AV,∃ x145 x146 x147 : Int,∃ x148 : AV,ldN 19 w44 b20 0 = some (.agg [(ii x130),(ii x131),(.int .u8 x132),(ii x133),(ii x134),(ii x135),(ii x136),(ii x137),x138,x139,(ii x140),x141,x142,x143,x144,(ii x145),(ii x146),(ii x147),x148]) ∧
 Cl Tryz.prog hk 57 [(.agg [(ii x130),(ii x131),(.int .u8 x132),(ii x133),(ii x134),(ii x135),(ii x136),(ii x137),x138,x139,(ii x140),x141,x142,x143,x144,(ii x145),(ii x146),(ii x147),x148]),data19] w44 fun r149 w150 =>
 ∃ x151 x152 x153 x154 x155 x156 x157 x158 : Int,∃ x159 x160 : AV,∃ x161 : Int,∃ x162 x163 x164 x165 : AV,∃ x166 x167 x168 : Int,∃ x169 : AV,r149 = (.agg [(ii x151),(ii x152),(.int .u8 x153),(ii x154),(ii x155),(ii x156),(ii x157),(ii x158),x159,x160,(ii x161),x162,x163,x164,x165,(ii x166),(ii x167),(ii x168),x169]) ∧
 gd (List.all [(ii x151),(ii x152),(.int .u8 x153),(ii x154),(ii x155),(ii x156),(ii x157),(ii x158),x159,x160,(ii x161),x162,x163,x164,x165,(ii x166),(ii x167),(ii x168),x169] okCell) (
 onM (AW.putCells w150 b20 0 [(ii x151),(ii x152),(.int .u8 x153),(ii x154),(ii x155),(ii x156),(ii x157),(ii x158),x159,x160,(ii x161),x162,x163,x164,x165,(ii x166),(ii x167),(ii x168),x169]) fun w170 =>
 ∃ x171 x172 x173 x174 x175 x176 x177 x178 : Int,∃ x179 x180 : AV,∃ x181 : Int,∃ x182 x183 x184 x185 : AV,∃ x186 x187 x188 : Int,∃ x189 : AV,ldN 19 w170 b20 0 = some (.agg [(ii x171),(ii x172),(.int .u8 x173),(ii x174),(ii x175),(ii x176),(ii x177),(ii x178),x179,x180,(ii x181),x182,x183,x184,x185,(ii x186),(ii x187),(ii x188),x189]) ∧
 ∃ x190 x191 x192 x193 x194 x195 x196 x197 : Int,∃ x198 x199 : AV,∃ x200 : Int,∃ x201 x202 x203 x204 : AV,∃ x205 x206 x207 : Int,∃ x208 : AV,ldN 19 w170 b20 0 = some (.agg [(ii x190),(ii x191),(.int .u8 x192),(ii x193),(ii x194),(ii x195),(ii x196),(ii x197),x198,x199,(ii x200),x201,x202,x203,x204,(ii x205),(ii x206),(ii x207),x208]) ∧
 ∃ x209 x210 x211 x212 x213 x214 x215 x216 : Int,∃ x217 x218 : AV,∃ x219 : Int,∃ x220 x221 x222 x223 : AV,∃ x224 x225 x226 : Int,∃ x227 : AV,ldN 19 w170 b20 0 = some (.agg [(ii x209),(ii x210),(.int .u8 x211),(ii x212),(ii x213),(ii x214),(ii x215),(ii x216),x217,x218,(ii x219),x220,x221,x222,x223,(ii x224),(ii x225),(ii x226),x227]) ∧
 Cl Tryz.prog hk 58 [(.agg [(ii x190),(ii x191),(.int .u8 x192),(ii x193),(ii x194),(ii x195),(ii x196),(ii x197),x198,x199,(ii x200),x201,x202,x203,x204,(ii x205),(ii x206),(ii x207),x208])] w170 fun r228 w229 =>
 ∃ x230 : Int,r228 = (ii x230) ∧
 ldN 19 w229 b20 0 = some (.agg [(ii x209),(ii x210),(.int .u8 x211),(ii x212),(ii x213),(ii x214),(ii x215),(ii x216),x217,x218,(ii x219),x220,x221,x222,x223,(ii x224),(ii x225),(ii x226),x227]) ∧
 ldN 19 w229 b20 0 = some (.agg [(ii x171),(ii x172),(.int .u8 x173),(ii x174),(ii x175),(ii x176),(ii x177),(ii x178),x179,x180,(ii x181),x182,x183,x184,x185,(ii x186),(ii x187),(ii x188),x189]) ∧
 Cl Tryz.prog hk 59 [(.agg [(ii x209),(ii x210),(.int .u8 x211),(ii x212),(ii x213),(ii x214),(ii x215),(ii x216),x217,x218,(ii x219),x220,x221,x222,x223,(ii x224),(ii x225),(ii x226),x227])] w229 fun r231 w232 =>
 ldN 19 w232 b20 0 = some (.agg [(ii x171),(ii x172),(.int .u8 x173),(ii x174),(ii x175),(ii x176),(ii x177),(ii x178),x179,x180,(ii x181),x182,x183,x184,x185,(ii x186),(ii x187),(ii x188),x189]) ∧
 gd (List.all [(ii x171),(ii x172),(.int .u8 x173),(ii x174),(ii x175),(ii x176),(ii x177),(ii x178),x179,x180,(ii x181),x182,x183,x184,x185,(ii x186),(ii x187),(ii x188),x189] okCell) (
 onM (AW.putCells w232 b22 0 [(ii x171),(ii x172),(.int .u8 x173),(ii x174),(ii x175),(ii x176),(ii x177),(ii x178),x179,x180,(ii x181),x182,x183,x184,x185,(ii x186),(ii x187),(ii x188),x189]) fun w233 =>
 ∃ res234 res235 res236 res237 res238 res239 res240 res241 : Int,∃ res242 res243 : AV,∃ res244 : Int,∃ res245 res246 res247 res248 : AV,∃ res249 res250 res251 : Int,∃ res252 : AV,ldN 19 w233 b22 0 = some (.agg [(ii res234),(ii res235),(.int .u8 res236),(ii res237),(ii res238),(ii res239),(ii res240),(ii res241),res242,res243,(ii res244),res245,res246,res247,res248,(ii res249),(ii res250),(ii res251),res252]) ∧
 K (.tup [(.agg [(ii res234),(ii res235),(.int .u8 res236),(ii res237),(ii res238),(ii res239),(ii res240),(ii res241),res242,res243,(ii res244),res245,res246,res247,res248,(ii res249),(ii res250),(ii res251),res252]),(ii x230),r231,(ii 0)]) w233)))))))
def adv16 : Adv := (.sq .lf (.sq (.sq .lf (.cd (.sq .lf .lf) .lf)) (.sq (.sq .lf (.cd (.sq .lf .lf) .lf)) (.sq (.sq .lf (.cd (.sq .lf .lf) .lf)) (.sq (.sq .lf (.cd (.sq .lf .lf) .lf)) (.sq .lf (.sq .lf .lf)))))))
set_option maxRecDepth 100000 in
theorem in16 {hk : Hook} {n0 n1 n2 n3 n4 n5 n6 n7 : Int} {n8 n9 : AV} {n10 : Int} {n11 n12 n13 n14 : AV} {n15 n16 n17 : Int} {n18 data19 : AV} {w : AW} {K : AV → AW → Prop} (hn : hk 16 [(.agg [(ii n0),(ii n1),(.int .u8 n2),(ii n3),(ii n4),(ii n5),(ii n6),(ii n7),n8,n9,(ii n10),n11,n12,n13,n14,(ii n15),(ii n16),(ii n17),n18]),data19] w = none) (h : F16 hk n0 n1 n2 n3 n4 n5 n6 n7 n8 n9 n10 n11 n12 n13 n14 n15 n16 n17 n18 data19 w K) : Cl Tryz.prog hk 16 [(.agg [(ii n0),(ii n1),(.int .u8 n2),(ii n3),(ii n4),(ii n5),(ii n6),(ii n7),n8,n9,(ii n10),n11,n12,n13,n14,(ii n15),(ii n16),(ii n17),n18]),data19] w K :=
 fnS_ok (adv := adv16) Tryz.func16 hn (Eq.mpr (by kernel_rfl) h)
set_option maxRecDepth 100000 in
def F20 (hk : Hook) (n0 n1 n2 n3 n4 n5 n6 n7 : Int) (n8 n9 : AV) (n10 : Int) (n11 n12 n13 n14 : AV) (n15 n16 n17 : Int) (n18 : AV) (id19 : Int) (w : AW) (K : AV → AW → Prop) : Prop :=
 gd (List.all [(ii n0),(ii n1),(.int .u8 n2),(ii n3),(ii n4),(ii n5),(ii n6),(ii n7),n8,n9,(ii n10),n11,n12,n13,n14,(ii n15),(ii n16),(ii n17),n18] okCell) (
 new w [(ii n0),(ii n1),(.int .u8 n2),(ii n3),(ii n4),(ii n5),(ii n6),(ii n7),n8,n9,(ii n10),n11,n12,n13,n14,(ii n15),(ii n16),(ii n17),n18] fun b20 w21 =>
 new w21 [(ii 0),(ii 0),(.int .u8 0),(ii 0),(ii 0),(ii 0),(ii 0),(ii 0),.nilslice,.nilslice,(ii 0),.nilslice,.nilslice,.nilslice,.nilslice,(ii 0),(ii 0),(ii 0),.nilslice] fun b22 w23 =>
 ∃ x24 x25 x26 x27 x28 x29 x30 x31 : Int,∃ x32 x33 : AV,∃ x34 : Int,∃ x35 x36 x37 x38 : AV,∃ x39 x40 x41 : Int,∃ x42 : AV,ldN 19 w23 b20 0 = some (.agg [(ii x24),(ii x25),(.int .u8 x26),(ii x27),(ii x28),(ii x29),(ii x30),(ii x31),x32,x33,(ii x34),x35,x36,x37,x38,(ii x39),(ii x40),(ii x41),x42]) ∧
 Cl Tryz.prog hk 56 [(.agg [(ii x24),(ii x25),(.int .u8 x26),(ii x27),(ii x28),(ii x29),(ii x30),(ii x31),x32,x33,(ii x34),x35,x36,x37,x38,(ii x39),(ii x40),(ii x41),x42])] w23 fun r43 w44 =>
 ∃ x45 : Bool,r43 = (.bool x45) ∧
 ifT (!x45) (onM (AW.putCells w44 b22 0 [(ii 0),(ii 0),(.int .u8 0),(ii 0),(ii 0),(ii 0),(ii 0),(ii 0),.nilslice,.nilslice,(ii 0),.nilslice,.nilslice,.nilslice,.nilslice,(ii 0),(ii 0),(ii 0),.nilslice]) fun w46 =>
  ∃ res47 res48 res49 res50 res51 res52 res53 res54 : Int,∃ res55 res56 : AV,∃ res57 : Int,∃ res58 res59 res60 res61 : AV,∃ res62 res63 res64 : Int,∃ res65 : AV,ldN 19 w46 b22 0 = some (.agg [(ii res47),(ii res48),(.int .u8 res49),(ii res50),(ii res51),(ii res52),(ii res53),(ii res54),res55,res56,(ii res57),res58,res59,res60,res61,(ii res62),(ii res63),(ii res64),res65]) ∧
 K (.tup [(.agg [(ii res47),(ii res48),(.int .u8 res49),(ii res50),(ii res51),(ii res52),(ii res53),(ii res54),res55,res56,(ii res57),res58,res59,res60,res61,(ii res62),(ii res63),(ii res64),res65]),.nilslice,(ii 2)]) w46)
 (∃ x66 x67 x68 x69 x70 x71 x72 x73 : Int,∃ x74 x75 : AV,∃ x76 : Int,∃ x77 x78 x79 x80 : AV,∃ x81 x82 x83 : Int,∃ x84 : AV,ldN 19 w44 b20 0 = some (.agg [(ii x66),(ii x67),(.int .u8 x68),(ii x69),(ii x70),(ii x71),(ii x72),(ii x73),x74,x75,(ii x76),x77,x78,x79,x80,(ii x81),(ii x82),(ii x83),x84]) ∧
 ∃ x85 : Int,ld w44 b20 (0 + 10) = some (ii x85) ∧
 Cl Tryz.prog hk 64 [(.agg [(ii x66),(ii x67),(.int .u8 x68),(ii x69),(ii x70),(ii x71),(ii x72),(ii x73),x74,x75,(ii x76),x77,x78,x79,x80,(ii x81),(ii x82),(ii x83),x84]),(ii x85)] w44 fun r86 w87 =>
 ∃ x88 : Int,∃ x89 : Bool,r86 = .tup [(ii x88),(.bool x89)] ∧
 ∃ x90 : Int,ld w87 b20 (0 + 2) = some (.int .u8 x90) ∧
 ifT (!decide (x90 = 3)) (onM (AW.putCells w87 b22 0 [(ii 0),(ii 0),(.int .u8 0),(ii 0),(ii 0),(ii 0),(ii 0),(ii 0),.nilslice,.nilslice,(ii 0),.nilslice,.nilslice,.nilslice,.nilslice,(ii 0),(ii 0),(ii 0),.nilslice]) fun w91 =>
 ∃ res92 res93 res94 res95 res96 res97 res98 res99 : Int,∃ res100 res101 : AV,∃ res102 : Int,∃ res103 res104 res105 res106 : AV,∃ res107 res108 res109 : Int,∃ res110 : AV,ldN 19 w91 b22 0 = some (.agg [(ii res92),(ii res93),(.int .u8 res94),(ii res95),(ii res96),(ii res97),(ii res98),(ii res99),res100,res101,(ii res102),res103,res104,res105,res106,(ii res107),(ii res108),(ii res109),res110]) ∧
 K (.tup [(.agg [(ii res92),(ii res93),(.int .u8 res94),(ii res95),(ii res96),(ii res97),(ii res98),(ii res99),res100,res101,(ii res102),res103,res104,res105,res106,(ii res107),(ii res108),(ii res109),res110]),.nilslice,(ii 220)]) w91)
 (∃ x111 : Int,ld w87 b20 (0 + 3) = some (ii x111) ∧
 ifT (!decide (x88 = x111)) (onM (AW.putCells w87 b22 0 [(ii 0),(ii 0),(.int .u8 0),(ii 0),(ii 0),(ii 0),(ii 0),(ii 0),.nilslice,.nilslice,(ii 0),.nilslice,.nilslice,.nilslice,.nilslice,(ii 0),(ii 0),(ii 0),.nilslice]) fun w112 =>
  ∃ res113 res114 res115 res116 res117 res118 res119 res120 : Int,∃ res121 res122 : AV,∃ res123 : Int,∃ res124 res125 res126 res127 : AV,∃ res128 res129 res130 : Int,∃ res131 : AV,ldN 19 w112 b22 0 = some (.agg [(ii res113),(ii res114),(.int .u8 res115),(ii res116),(ii res117),(ii res118),(ii res119),(ii res120),res121,res122,(ii res123),res124,res125,res126,res127,(ii res128),(ii res129),(ii res130),res131]) ∧
 K (.tup [(.agg [(ii res113),(ii res114),(.int .u8 res115),(ii res116),(ii res117),(ii res118),(ii res119),(ii res120),res121,res122,(ii res123),res124,res125,res126,res127,(ii res128),(ii res129),(ii res130),res131]),.nilslice,(ii 220)]) w112)
 (onM (ld w87 b20 (0 + 18)) fun x132 =>
 ∃ x133 : Int,lenS x132 = some (ii x133) ∧
 ifT (decide (64 ≤ x133)) (onM (AW.putCells w87 b22 0 [(ii 0),(ii 0),(.int .u8 0),(ii 0),(ii 0),(ii 0),(ii 0),(ii 0),.nilslice,.nilslice,(ii 0),.nilslice,.nilslice,.nilslice,.nilslice,(ii 0),(ii 0),(ii 0),.nilslice]) fun w134 =>
 ∃ res135 res136 res137 res138 res139 res140 res141 res142 : Int,∃ res143 res144 : AV,∃ res145 : Int,∃ res146 res147 res148 res149 : AV,∃ res150 res151 res152 : Int,∃ res153 : AV,ldN 19 w134 b22 0 = some (.agg [(ii res135),(ii res136),(.int .u8 res137),(ii res138),(ii res139),(ii res140),(ii res141),(ii res142),res143,res144,(ii res145),res146,res147,res148,res149,(ii res150),(ii res151),(ii res152),res153]) ∧
 K (.tup [(.agg [(ii res135),(ii res136),(.int .u8 res137),(ii res138),(ii res139),(ii res140),(ii res141),(ii res142),res143,res144,(ii res145),res146,res147,res148,res149,(ii res150),(ii res151),(ii res152),res153]),.nilslice,(ii 5)]) w134)
 (∃ x154 : Int,ld w87 b20 (0 + 15) = some (ii x154) ∧
 ifT (decide (x154 = 1099511627776)) (onM (AW.putCells w87 b22 0 [(ii 0),(ii 0),(.int .u8 0),(ii 0),(ii 0),(ii 0),(ii 0),(ii 0),.nilslice,.nilslice,(ii 0),.nilslice,.nilslice,.nilslice,.nilslice,(ii 0),(ii 0),(ii 0),.nilslice]) fun w155 =>
  ∃ res156 res157 res158 res159 res160 res161 res162 res163 : Int,∃ res164 res165 : AV,∃ res166 : Int,∃ res167 res168 res169 res170 : AV,∃ res171 res172 res173 : Int,∃ res174 : AV,ldN 19 w155 b22 0 = some (.agg [(ii res156),(ii res157),(.int .u8 res158),(ii res159),(ii res160),(ii res161),(ii res162),(ii res163),res164,res165,(ii res166),res167,res168,res169,res170,(ii res171),(ii res172),(ii res173),res174]) ∧
 K (.tup [(.agg [(ii res156),(ii res157),(.int .u8 res158),(ii res159),(ii res160),(ii res161),(ii res162),(ii res163),res164,res165,(ii res166),res167,res168,res169,res170,(ii res171),(ii res172),(ii res173),res174]),.nilslice,(ii 5)]) w155)
 (∃ x175 x176 x177 x178 x179 x180 x181 x182 : Int,∃ x183 x184 : AV,∃ x185 : Int,∃ x186 x187 x188 x189 : AV,∃ x190 x191 x192 : Int,∃ x193 : AV,ldN 19 w87 b20 0 = some (.agg [(ii x175),(ii x176),(.int .u8 x177),(ii x178),(ii x179),(ii x180),(ii x181),(ii x182),x183,x184,(ii x185),x186,x187,x188,x189,(ii x190),(ii x191),(ii x192),x193]) ∧
 Cl Tryz.prog hk 65 [(.agg [(ii x175),(ii x176),(.int .u8 x177),(ii x178),(ii x179),(ii x180),(ii x181),(ii x182),x183,x184,(ii x185),x186,x187,x188,x189,(ii x190),(ii x191),(ii x192),x193])] w87 fun r194 w195 =>
 ∃ x196 x197 x198 x199 x200 x201 x202 x203 : Int,∃ x204 x205 : AV,∃ x206 : Int,∃ x207 x208 x209 x210 : AV,∃ x211 x212 x213 : Int,∃ x214 : AV,r194 = (.agg [(ii x196),(ii x197),(.int .u8 x198),(ii x199),(ii x200),(ii x201),(ii x202),(ii x203),x204,x205,(ii x206),x207,x208,x209,x210,(ii x211),(ii x212),(ii x213),x214]) ∧
 gd (List.all [(ii x196),(ii x197),(.int .u8 x198),(ii x199),(ii x200),(ii x201),(ii x202),(ii x203),x204,x205,(ii x206),x207,x208,x209,x210,(ii x211),(ii x212),(ii x213),x214] okCell) (
 onM (AW.putCells w195 b20 0 [(ii x196),(ii x197),(.int .u8 x198),(ii x199),(ii x200),(ii x201),(ii x202),(ii x203),x204,x205,(ii x206),x207,x208,x209,x210,(ii x211),(ii x212),(ii x213),x214]) fun w215 =>
 ∃ x216 : Int,ld w215 b20 (0 + 15) = some (ii x216) ∧
 onM (AW.putCells w215 b20 (0 + 15) [(ii (wi (x216 + 1)))]) fun w217 =>
 onM (ld w217 b20 (0 + 14)) fun x218 =>
 ∃ x219 : Int,ld w217 b20 (0 + 0) = some (ii x219) ∧
 ∃ x220 : Int,ld w217 b20 (0 + 15) = some (ii x220) ∧
 atP (idxS 1 x218 (ii (wi (x219 - 1)))) fun b221 o222 =>
 onM (AW.putCells w217 b221 o222 [(ii x220)]) fun w223 =>
 onM (ld w223 b20 (0 + 18)) fun x224 =>
 ∃ x225 : Int,ld w223 b20 (0 + 10) = some (ii x225) ∧
 ∃ x226 : Int,ld w223 b20 (0 + 15) = some (ii x226) ∧
 new w223 [(ii id19),(ii x225),(ii x226)] fun b227 w228 =>
 onE (appS 3 24 w228 x224 (.slice b227 0 1 1 none)) fun x229 w230 =>
 gd (okCell x229) (
 onM (AW.putCells w230 b20 (0 + 18) [x229]) fun w231 =>
 ∃ x232 x233 x234 x235 x236 x237 x238 x239 : Int,∃ x240 x241 : AV,∃ x242 : Int,∃ x243 x244 x245 x246 : AV,∃ x247 x248 x249 : Int,∃ x250 : AV,ldN 19 w231 b20 0 = some (.agg [(ii x232),(ii x233),(.int .u8 x234),(ii x235),(ii x236),(ii x237),(ii x238),(ii x239),x240,x241,(ii x242),x243,x244,x245,x246,(ii x247),(ii x248),(ii x249),x250]) ∧
 ∃ x251 x252 x253 x254 x255 x256 x257 x258 : Int,∃ x259 x260 : AV,∃ x261 : Int,∃ x262 x263 x264 x265 : AV,∃ x266 x267 x268 : Int,∃ x269 : AV,ldN 19 w231 b20 0 = some (.agg [(ii x251),(ii x252),(.int .u8 x253),(ii x254),(ii x255),(ii x256),(ii x257),(ii x258),x259,x260,(ii x261),x262,x263,x264,x265,(ii x266),(ii x267),(ii x268),x269]) ∧
 Cl Tryz.prog hk 59 [(.agg [(ii x251),(ii x252),(.int .u8 x253),(ii x254),(ii x255),(ii x256),(ii x257),(ii x258),x259,x260,(ii x261),x262,x263,x264,x265,(ii x266),(ii x267),(ii x268),x269])] w231 fun r270 w271 =>
 ldN 19 w271 b20 0 = some (.agg [(ii x232),(ii x233),(.int .u8 x234),(ii x235),(ii x236),(ii x237),(ii x238),(ii x239),x240,x241,(ii x242),x243,x244,x245,x246,(ii x247),(ii x248),(ii x249),x250]) ∧
 gd (List.all [(ii x232),(ii x233),(.int .u8 x234),(ii x235),(ii x236),(ii x237),(ii x238),(ii x239),x240,x241,(ii x242),x243,x244,x245,x246,(ii x247),(ii x248),(ii x249),x250] okCell) (
 onM (AW.putCells w271 b22 0 [(ii x232),(ii x233),(.int .u8 x234),(ii x235),(ii x236),(ii x237),(ii x238),(ii x239),x240,x241,(ii x242),x243,x244,x245,x246,(ii x247),(ii x248),(ii x249),x250]) fun w272 =>
 ∃ res273 res274 res275 res276 res277 res278 res279 res280 : Int,∃ res281 res282 : AV,∃ res283 : Int,∃ res284 res285 res286 res287 : AV,∃ res288 res289 res290 : Int,∃ res291 : AV,ldN 19 w272 b22 0 = some (.agg [(ii res273),(ii res274),(.int .u8 res275),(ii res276),(ii res277),(ii res278),(ii res279),(ii res280),res281,res282,(ii res283),res284,res285,res286,res287,(ii res288),(ii res289),(ii res290),res291]) ∧
 K (.tup [(.agg [(ii res273),(ii res274),(.int .u8 res275),(ii res276),(ii res277),(ii res278),(ii res279),(ii res280),res281,res282,(ii res283),res284,res285,res286,res287,(ii res288),(ii res289),(ii res290),res291]),r270,(ii 0)]) w272)))))))))
def adv20 : Adv := (.sq .lf (.sq (.sq .lf (.cd (.sq .lf .lf) .lf)) (.sq .lf (.sq (.sq .lf (.cd (.sq .lf .lf) .lf)) (.sq (.sq .lf (.cd (.sq .lf .lf) .lf)) (.sq .lf (.sq .lf (.sq .lf (.sq .lf (.sq .lf .lf))))))))))
set_option maxRecDepth 100000 in
theorem in20 {hk : Hook} {n0 n1 n2 n3 n4 n5 n6 n7 : Int} {n8 n9 : AV} {n10 : Int} {n11 n12 n13 n14 : AV} {n15 n16 n17 : Int} {n18 : AV} {id19 : Int} {w : AW} {K : AV → AW → Prop} (hn : hk 20 [(.agg [(ii n0),(ii n1),(.int .u8 n2),(ii n3),(ii n4),(ii n5),(ii n6),(ii n7),n8,n9,(ii n10),n11,n12,n13,n14,(ii n15),(ii n16),(ii n17),n18]),(ii id19)] w = none) (h : F20 hk n0 n1 n2 n3 n4 n5 n6 n7 n8 n9 n10 n11 n12 n13 n14 n15 n16 n17 n18 id19 w K) : Cl Tryz.prog hk 20 [(.agg [(ii n0),(ii n1),(.int .u8 n2),(ii n3),(ii n4),(ii n5),(ii n6),(ii n7),n8,n9,(ii n10),n11,n12,n13,n14,(ii n15),(ii n16),(ii n17),n18]),(ii id19)] w K :=
 fnS_ok (adv := adv20) Tryz.func20 hn (Eq.mpr (by kernel_rfl) h)
set_option maxRecDepth 100000 in
def F22 (hk : Hook) (n0 n1 n2 n3 n4 n5 n6 n7 : Int) (n8 n9 : AV) (n10 : Int) (n11 n12 n13 n14 : AV) (n15 n16 n17 : Int) (n18 : AV) (w : AW) (K : AV → AW → Prop) : Prop :=
 gd (List.all [(ii n0),(ii n1),(.int .u8 n2),(ii n3),(ii n4),(ii n5),(ii n6),(ii n7),n8,n9,(ii n10),n11,n12,n13,n14,(ii n15),(ii n16),(ii n17),n18] okCell) (
 new w [(ii n0),(ii n1),(.int .u8 n2),(ii n3),(ii n4),(ii n5),(ii n6),(ii n7),n8,n9,(ii n10),n11,n12,n13,n14,(ii n15),(ii n16),(ii n17),n18] fun b19 w20 =>
 new w20 [(ii 0),(ii 0),(.int .u8 0),(ii 0),(ii 0),(ii 0),(ii 0),(ii 0),.nilslice,.nilslice,(ii 0),.nilslice,.nilslice,.nilslice,.nilslice,(ii 0),(ii 0),(ii 0),.nilslice] fun b21 w22 =>
 ∃ x23 x24 x25 x26 x27 x28 x29 x30 : Int,∃ x31 x32 : AV,∃ x33 : Int,∃ x34 x35 x36 x37 : AV,∃ x38 x39 x40 : Int,∃ x41 : AV,ldN 19 w22 b19 0 = some (.agg [(ii x23),(ii x24),(.int .u8 x25),(ii x26),(ii x27),(ii x28),(ii x29),(ii x30),x31,x32,(ii x33),x34,x35,x36,x37,(ii x38),(ii x39),(ii x40),x41]) ∧
 Cl Tryz.prog hk 56 [(.agg [(ii x23),(ii x24),(.int .u8 x25),(ii x26),(ii x27),(ii x28),(ii x29),(ii x30),x31,x32,(ii x33),x34,x35,x36,x37,(ii x38),(ii x39),(ii x40),x41])] w22 fun r42 w43 =>
 ∃ x44 : Bool,r42 = (.bool x44) ∧
 ifT (!x44) (onM (AW.putCells w43 b21 0 [(ii 0),(ii 0),(.int .u8 0),(ii 0),(ii 0),(ii 0),(ii 0),(ii 0),.nilslice,.nilslice,(ii 0),.nilslice,.nilslice,.nilslice,.nilslice,(ii 0),(ii 0),(ii 0),.nilslice]) fun w45 =>
  ∃ res46 res47 res48 res49 res50 res51 res52 res53 : Int,∃ res54 res55 : AV,∃ res56 : Int,∃ res57 res58 res59 res60 : AV,∃ res61 res62 res63 : Int,∃ res64 : AV,ldN 19 w45 b21 0 = some (.agg [(ii res46),(ii res47),(.int .u8 res48),(ii res49),(ii res50),(ii res51),(ii res52),(ii res53),res54,res55,(ii res56),res57,res58,res59,res60,(ii res61),(ii res62),(ii res63),res64]) ∧
 K (.tup [(.agg [(ii res46),(ii res47),(.int .u8 res48),(ii res49),(ii res50),(ii res51),(ii res52),(ii res53),res54,res55,(ii res56),res57,res58,res59,res60,(ii res61),(ii res62),(ii res63),res64]),.nilslice,(ii 2)]) w45)
 (join (fun l_65 w66 => ∃ k68 : Int,l_65 = [(ii k68)] ∧ ∀ _ : Nat → AV,
  onM (ld w66 b19 (0 + 18)) fun x69 =>
  onM (slS 3 x69 none (some (ii k68)) none) fun sure70 =>
  onM (ld w66 b19 (0 + 18)) fun x71 =>
  onM (slS 3 x71 (some (ii k68)) none none) fun x72 =>
  gd (okCell x72) (
  onM (AW.putCells w66 b19 (0 + 18) [x72]) fun w73 =>
  ∃ x74 x75 x76 x77 x78 x79 x80 x81 : Int,∃ x82 x83 : AV,∃ x84 : Int,∃ x85 x86 x87 x88 : AV,∃ x89 x90 x91 : Int,∃ x92 : AV,ldN 19 w73 b19 0 = some (.agg [(ii x74),(ii x75),(.int .u8 x76),(ii x77),(ii x78),(ii x79),(ii x80),(ii x81),x82,x83,(ii x84),x85,x86,x87,x88,(ii x89),(ii x90),(ii x91),x92]) ∧
  gd (List.all [(ii x74),(ii x75),(.int .u8 x76),(ii x77),(ii x78),(ii x79),(ii x80),(ii x81),x82,x83,(ii x84),x85,x86,x87,x88,(ii x89),(ii x90),(ii x91),x92] okCell) (
  onM (AW.putCells w73 b21 0 [(ii x74),(ii x75),(.int .u8 x76),(ii x77),(ii x78),(ii x79),(ii x80),(ii x81),x82,x83,(ii x84),x85,x86,x87,x88,(ii x89),(ii x90),(ii x91),x92]) fun w93 =>
  ∃ res94 res95 res96 res97 res98 res99 res100 res101 : Int,∃ res102 res103 : AV,∃ res104 : Int,∃ res105 res106 res107 res108 : AV,∃ res109 res110 res111 : Int,∃ res112 : AV,ldN 19 w93 b21 0 = some (.agg [(ii res94),(ii res95),(.int .u8 res96),(ii res97),(ii res98),(ii res99),(ii res100),(ii res101),res102,res103,(ii res104),res105,res106,res107,res108,(ii res109),(ii res110),(ii res111),res112]) ∧
 K (.tup [(.agg [(ii res94),(ii res95),(.int .u8 res96),(ii res97),(ii res98),(ii res99),(ii res100),(ii res101),res102,res103,(ii res104),res105,res106,res107,res108,(ii res109),(ii res110),(ii res111),res112]),sure70,(ii 0)]) w93))) fun J67 =>
 loopP [(ii 0)] w43 fun R113 l_114 w115 => ∃ k116 : Int,l_114 = [(ii k116)] ∧ ∀ _ : Nat → AV,
  onM (ld w115 b19 (0 + 18)) fun x117 =>
  ∃ x118 : Int,lenS x117 = some (ii x118) ∧
  ifT (decide (k116 < x118)) (onM (ld w115 b19 (0 + 18)) fun x119 =>
  atP (idxS 3 x119 (ii k116)) fun b120 o121 =>
  ∃ x122 : Int,ld w115 b120 (o121 + 2) = some (ii x122) ∧
  onM (ld w115 b19 (0 + 14)) fun x123 =>
  Cl Tryz.prog hk 70 [x123] w115 fun r124 w125 =>
  ∃ x126 : Int,r124 = (ii x126) ∧
  ld w125 b120 (o121 + 2) = some (ii x122) ∧
  ld w125 b19 (0 + 18) = some x119 ∧
  ifT (decide (x122 ≤ x126)) (R113 [(ii (wi (k116 + 1)))] w125)
  (J67 [(ii k116)] w125))
  (J67 [(ii k116)] w115)))
def adv22 : Adv := (.sq .lf (.sq (.sq .lf (.cd (.sq .lf .lf) .lf)) (.sq .lf (.sj [(5,.sc (.int .i64))] (.bl (.lp [(5,.sc (.int .i64))] (.sq (.sq .lf (.cd .lf .lf)) (.bl .lf)))) (.sq .lf (.sq .lf (.sq .lf .lf)))))))
set_option maxRecDepth 100000 in
theorem in22 {hk : Hook} {n0 n1 n2 n3 n4 n5 n6 n7 : Int} {n8 n9 : AV} {n10 : Int} {n11 n12 n13 n14 : AV} {n15 n16 n17 : Int} {n18 : AV} {w : AW} {K : AV → AW → Prop} (hn : hk 22 [(.agg [(ii n0),(ii n1),(.int .u8 n2),(ii n3),(ii n4),(ii n5),(ii n6),(ii n7),n8,n9,(ii n10),n11,n12,n13,n14,(ii n15),(ii n16),(ii n17),n18])] w = none) (h : F22 hk n0 n1 n2 n3 n4 n5 n6 n7 n8 n9 n10 n11 n12 n13 n14 n15 n16 n17 n18 w K) : Cl Tryz.prog hk 22 [(.agg [(ii n0),(ii n1),(.int .u8 n2),(ii n3),(ii n4),(ii n5),(ii n6),(ii n7),n8,n9,(ii n10),n11,n12,n13,n14,(ii n15),(ii n16),(ii n17),n18])] w K :=
 fnS_ok (adv := adv22) Tryz.func22 hn (Eq.mpr (by kernel_rfl) h)
set_option maxRecDepth 100000 in
def F24 (hk : Hook) (n0 n1 n2 n3 n4 n5 n6 n7 : Int) (n8 n9 : AV) (n10 : Int) (n11 n12 n13 n14 : AV) (n15 n16 n17 : Int) (n18 : AV) (index19 : Int) (snap20 : AV) (w : AW) (K : AV → AW → Prop) : Prop :=
 gd (List.all [(ii n0),(ii n1),(.int .u8 n2),(ii n3),(ii n4),(ii n5),(ii n6),(ii n7),n8,n9,(ii n10),n11,n12,n13,n14,(ii n15),(ii n16),(ii n17),n18] okCell) (
 new w [(ii n0),(ii n1),(.int .u8 n2),(ii n3),(ii n4),(ii n5),(ii n6),(ii n7),n8,n9,(ii n10),n11,n12,n13,n14,(ii n15),(ii n16),(ii n17),n18] fun b21 w22 =>
 new w22 [(ii 0),(ii 0),(.int .u8 0),(ii 0),(ii 0),(ii 0),(ii 0),(ii 0),.nilslice,.nilslice,(ii 0),.nilslice,.nilslice,.nilslice,.nilslice,(ii 0),(ii 0),(ii 0),.nilslice] fun b23 w24 =>
 ∃ x25 x26 x27 x28 x29 x30 x31 x32 : Int,∃ x33 x34 : AV,∃ x35 : Int,∃ x36 x37 x38 x39 : AV,∃ x40 x41 x42 : Int,∃ x43 : AV,ldN 19 w24 b21 0 = some (.agg [(ii x25),(ii x26),(.int .u8 x27),(ii x28),(ii x29),(ii x30),(ii x31),(ii x32),x33,x34,(ii x35),x36,x37,x38,x39,(ii x40),(ii x41),(ii x42),x43]) ∧
 Cl Tryz.prog hk 56 [(.agg [(ii x25),(ii x26),(.int .u8 x27),(ii x28),(ii x29),(ii x30),(ii x31),(ii x32),x33,x34,(ii x35),x36,x37,x38,x39,(ii x40),(ii x41),(ii x42),x43])] w24 fun r44 w45 =>
 ∃ x46 : Bool,r44 = (.bool x46) ∧
 ifT (!x46) (onM (AW.putCells w45 b23 0 [(ii 0),(ii 0),(.int .u8 0),(ii 0),(ii 0),(ii 0),(ii 0),(ii 0),.nilslice,.nilslice,(ii 0),.nilslice,.nilslice,.nilslice,.nilslice,(ii 0),(ii 0),(ii 0),.nilslice]) fun w47 =>
 ∃ res48 res49 res50 res51 res52 res53 res54 res55 : Int,∃ res56 res57 : AV,∃ res58 : Int,∃ res59 res60 res61 res62 : AV,∃ res63 res64 res65 : Int,∃ res66 : AV,ldN 19 w47 b23 0 = some (.agg [(ii res48),(ii res49),(.int .u8 res50),(ii res51),(ii res52),(ii res53),(ii res54),(ii res55),res56,res57,(ii res58),res59,res60,res61,res62,(ii res63),(ii res64),(ii res65),res66]) ∧
 K (.tup [(.agg [(ii res48),(ii res49),(.int .u8 res50),(ii res51),(ii res52),(ii res53),(ii res54),(ii res55),res56,res57,(ii res58),res59,res60,res61,res62,(ii res63),(ii res64),(ii res65),res66]),(ii 2)]) w47)
 (∃ x67 : Int,ld w45 b21 (0 + 6) = some (ii x67) ∧
 ifT (decide (index19 ≤ x67)) (onM (AW.putCells w45 b23 0 [(ii 0),(ii 0),(.int .u8 0),(ii 0),(ii 0),(ii 0),(ii 0),(ii 0),.nilslice,.nilslice,(ii 0),.nilslice,.nilslice,.nilslice,.nilslice,(ii 0),(ii 0),(ii 0),.nilslice]) fun w68 =>
 ∃ res69 res70 res71 res72 res73 res74 res75 res76 : Int,∃ res77 res78 : AV,∃ res79 : Int,∃ res80 res81 res82 res83 : AV,∃ res84 res85 res86 : Int,∃ res87 : AV,ldN 19 w68 b23 0 = some (.agg [(ii res69),(ii res70),(.int .u8 res71),(ii res72),(ii res73),(ii res74),(ii res75),(ii res76),res77,res78,(ii res79),res80,res81,res82,res83,(ii res84),(ii res85),(ii res86),res87]) ∧
 K (.tup [(.agg [(ii res69),(ii res70),(.int .u8 res71),(ii res72),(ii res73),(ii res74),(ii res75),(ii res76),res77,res78,(ii res79),res80,res81,res82,res83,(ii res84),(ii res85),(ii res86),res87]),(ii 2)]) w68)
 (∃ x88 : Int,ld w45 b21 (0 + 10) = some (ii x88) ∧
 ifT (decide (x88 < index19)) (onM (AW.putCells w45 b23 0 [(ii 0),(ii 0),(.int .u8 0),(ii 0),(ii 0),(ii 0),(ii 0),(ii 0),.nilslice,.nilslice,(ii 0),.nilslice,.nilslice,.nilslice,.nilslice,(ii 0),(ii 0),(ii 0),.nilslice]) fun w89 =>
 ∃ res90 res91 res92 res93 res94 res95 res96 res97 : Int,∃ res98 res99 : AV,∃ res100 : Int,∃ res101 res102 res103 res104 : AV,∃ res105 res106 res107 : Int,∃ res108 : AV,ldN 19 w89 b23 0 = some (.agg [(ii res90),(ii res91),(.int .u8 res92),(ii res93),(ii res94),(ii res95),(ii res96),(ii res97),res98,res99,(ii res100),res101,res102,res103,res104,(ii res105),(ii res106),(ii res107),res108]) ∧
 K (.tup [(.agg [(ii res90),(ii res91),(.int .u8 res92),(ii res93),(ii res94),(ii res95),(ii res96),(ii res97),res98,res99,(ii res100),res101,res102,res103,res104,(ii res105),(ii res106),(ii res107),res108]),(ii 2)]) w89)
 (ifT (decide (1099511627776 < index19)) (onM (AW.putCells w45 b23 0 [(ii 0),(ii 0),(.int .u8 0),(ii 0),(ii 0),(ii 0),(ii 0),(ii 0),.nilslice,.nilslice,(ii 0),.nilslice,.nilslice,.nilslice,.nilslice,(ii 0),(ii 0),(ii 0),.nilslice]) fun w109 =>
  ∃ res110 res111 res112 res113 res114 res115 res116 res117 : Int,∃ res118 res119 : AV,∃ res120 : Int,∃ res121 res122 res123 res124 : AV,∃ res125 res126 res127 : Int,∃ res128 : AV,ldN 19 w109 b23 0 = some (.agg [(ii res110),(ii res111),(.int .u8 res112),(ii res113),(ii res114),(ii res115),(ii res116),(ii res117),res118,res119,(ii res120),res121,res122,res123,res124,(ii res125),(ii res126),(ii res127),res128]) ∧
 K (.tup [(.agg [(ii res110),(ii res111),(.int .u8 res112),(ii res113),(ii res114),(ii res115),(ii res116),(ii res117),res118,res119,(ii res120),res121,res122,res123,res124,(ii res125),(ii res126),(ii res127),res128]),(ii 2)]) w109)
 (∃ x129 : Int,lenS snap20 = some (ii x129) ∧
 ifT (decide (60000 < x129)) (onM (AW.putCells w45 b23 0 [(ii 0),(ii 0),(.int .u8 0),(ii 0),(ii 0),(ii 0),(ii 0),(ii 0),.nilslice,.nilslice,(ii 0),.nilslice,.nilslice,.nilslice,.nilslice,(ii 0),(ii 0),(ii 0),.nilslice]) fun w130 =>
  ∃ res131 res132 res133 res134 res135 res136 res137 res138 : Int,∃ res139 res140 : AV,∃ res141 : Int,∃ res142 res143 res144 res145 : AV,∃ res146 res147 res148 : Int,∃ res149 : AV,ldN 19 w130 b23 0 = some (.agg [(ii res131),(ii res132),(.int .u8 res133),(ii res134),(ii res135),(ii res136),(ii res137),(ii res138),res139,res140,(ii res141),res142,res143,res144,res145,(ii res146),(ii res147),(ii res148),res149]) ∧
 K (.tup [(.agg [(ii res131),(ii res132),(.int .u8 res133),(ii res134),(ii res135),(ii res136),(ii res137),(ii res138),res139,res140,(ii res141),res142,res143,res144,res145,(ii res146),(ii res147),(ii res148),res149]),(ii 3)]) w130)
 (∃ x150 x151 x152 x153 x154 x155 x156 x157 : Int,∃ x158 x159 : AV,∃ x160 : Int,∃ x161 x162 x163 x164 : AV,∃ x165 x166 x167 : Int,∃ x168 : AV,ldN 19 w45 b21 0 = some (.agg [(ii x150),(ii x151),(.int .u8 x152),(ii x153),(ii x154),(ii x155),(ii x156),(ii x157),x158,x159,(ii x160),x161,x162,x163,x164,(ii x165),(ii x166),(ii x167),x168]) ∧
 Cl Tryz.prog hk 64 [(.agg [(ii x150),(ii x151),(.int .u8 x152),(ii x153),(ii x154),(ii x155),(ii x156),(ii x157),x158,x159,(ii x160),x161,x162,x163,x164,(ii x165),(ii x166),(ii x167),x168]),(ii index19)] w45 fun r169 w170 =>
 ∃ x171 : Int,∃ x172 : Bool,r169 = .tup [(ii x171),(.bool x172)] ∧
 onM (ld w170 b21 (0 + 9)) fun x173 =>
 ∃ x174 : Int,ld w170 b21 (0 + 6) = some (ii x174) ∧
 onM (slS 2 x173 (some (ii (wi (index19 - x174)))) none none) fun x175 =>
 gd (okCell x175) (
 onM (AW.putCells w170 b21 (0 + 9) [x175]) fun w176 =>
 onM (AW.putCells w176 b21 (0 + 6) [(ii index19)]) fun w177 =>
 onM (AW.putCells w177 b21 (0 + 7) [(ii x171)]) fun w178 =>
 gd (okCell snap20) (
 onM (AW.putCells w178 b21 (0 + 8) [snap20]) fun w179 =>
 ∃ x180 x181 x182 x183 x184 x185 x186 x187 : Int,∃ x188 x189 : AV,∃ x190 : Int,∃ x191 x192 x193 x194 : AV,∃ x195 x196 x197 : Int,∃ x198 : AV,ldN 19 w179 b21 0 = some (.agg [(ii x180),(ii x181),(.int .u8 x182),(ii x183),(ii x184),(ii x185),(ii x186),(ii x187),x188,x189,(ii x190),x191,x192,x193,x194,(ii x195),(ii x196),(ii x197),x198]) ∧
 gd (List.all [(ii x180),(ii x181),(.int .u8 x182),(ii x183),(ii x184),(ii x185),(ii x186),(ii x187),x188,x189,(ii x190),x191,x192,x193,x194,(ii x195),(ii x196),(ii x197),x198] okCell) (
 onM (AW.putCells w179 b23 0 [(ii x180),(ii x181),(.int .u8 x182),(ii x183),(ii x184),(ii x185),(ii x186),(ii x187),x188,x189,(ii x190),x191,x192,x193,x194,(ii x195),(ii x196),(ii x197),x198]) fun w199 =>
 ∃ res200 res201 res202 res203 res204 res205 res206 res207 : Int,∃ res208 res209 : AV,∃ res210 : Int,∃ res211 res212 res213 res214 : AV,∃ res215 res216 res217 : Int,∃ res218 : AV,ldN 19 w199 b23 0 = some (.agg [(ii res200),(ii res201),(.int .u8 res202),(ii res203),(ii res204),(ii res205),(ii res206),(ii res207),res208,res209,(ii res210),res211,res212,res213,res214,(ii res215),(ii res216),(ii res217),res218]) ∧
 K (.tup [(.agg [(ii res200),(ii res201),(.int .u8 res202),(ii res203),(ii res204),(ii res205),(ii res206),(ii res207),res208,res209,(ii res210),res211,res212,res213,res214,(ii res215),(ii res216),(ii res217),res218]),(ii 0)]) w199)))))))))
def adv24 : Adv := (.sq .lf (.sq (.sq .lf (.cd (.sq .lf .lf) .lf)) (.sq (.sq .lf (.cd (.sq .lf .lf) .lf)) (.sq .lf (.sq .lf (.sq .lf (.sq .lf (.sq .lf (.sq .lf .lf)))))))))
set_option maxRecDepth 100000 in
theorem in24 {hk : Hook} {n0 n1 n2 n3 n4 n5 n6 n7 : Int} {n8 n9 : AV} {n10 : Int} {n11 n12 n13 n14 : AV} {n15 n16 n17 : Int} {n18 : AV} {index19 : Int} {snap20 : AV} {w : AW} {K : AV → AW → Prop} (hn : hk 24 [(.agg [(ii n0),(ii n1),(.int .u8 n2),(ii n3),(ii n4),(ii n5),(ii n6),(ii n7),n8,n9,(ii n10),n11,n12,n13,n14,(ii n15),(ii n16),(ii n17),n18]),(ii index19),snap20] w = none) (h : F24 hk n0 n1 n2 n3 n4 n5 n6 n7 n8 n9 n10 n11 n12 n13 n14 n15 n16 n17 n18 index19 snap20 w K) : Cl Tryz.prog hk 24 [(.agg [(ii n0),(ii n1),(.int .u8 n2),(ii n3),(ii n4),(ii n5),(ii n6),(ii n7),n8,n9,(ii n10),n11,n12,n13,n14,(ii n15),(ii n16),(ii n17),n18]),(ii index19),snap20] w K :=
 fnS_ok (adv := adv24) Tryz.func24 hn (Eq.mpr (by kernel_rfl) h)
set_option maxRecDepth 100000 in
def F26 (hk : Hook) (id0 size1 draw2 : Int) (w : AW) (K : AV → AW → Prop) : Prop :=
 new w [(ii 0),(ii 0),(.int .u8 0),(ii 0),(ii 0),(ii 0),(ii 0),(ii 0),.nilslice,.nilslice,(ii 0),.nilslice,.nilslice,.nilslice,.nilslice,(ii 0),(ii 0),(ii 0),.nilslice] fun b3 w4 =>
 ifT (decide (size1 < 1)) (onM (AW.putCells w4 b3 0 [(ii 0),(ii 0),(.int .u8 0),(ii 0),(ii 0),(ii 0),(ii 0),(ii 0),.nilslice,.nilslice,(ii 0),.nilslice,.nilslice,.nilslice,.nilslice,(ii 0),(ii 0),(ii 0),.nilslice]) fun w5 =>
 ∃ res6 res7 res8 res9 res10 res11 res12 res13 : Int,∃ res14 res15 : AV,∃ res16 : Int,∃ res17 res18 res19 res20 : AV,∃ res21 res22 res23 : Int,∃ res24 : AV,ldN 19 w5 b3 0 = some (.agg [(ii res6),(ii res7),(.int .u8 res8),(ii res9),(ii res10),(ii res11),(ii res12),(ii res13),res14,res15,(ii res16),res17,res18,res19,res20,(ii res21),(ii res22),(ii res23),res24]) ∧
 K (.tup [(.agg [(ii res6),(ii res7),(.int .u8 res8),(ii res9),(ii res10),(ii res11),(ii res12),(ii res13),res14,res15,(ii res16),res17,res18,res19,res20,(ii res21),(ii res22),(ii res23),res24]),(ii 2)]) w5)
 (ifT (decide (9 < size1)) (onM (AW.putCells w4 b3 0 [(ii 0),(ii 0),(.int .u8 0),(ii 0),(ii 0),(ii 0),(ii 0),(ii 0),.nilslice,.nilslice,(ii 0),.nilslice,.nilslice,.nilslice,.nilslice,(ii 0),(ii 0),(ii 0),.nilslice]) fun w25 =>
 ∃ res26 res27 res28 res29 res30 res31 res32 res33 : Int,∃ res34 res35 : AV,∃ res36 : Int,∃ res37 res38 res39 res40 : AV,∃ res41 res42 res43 : Int,∃ res44 : AV,ldN 19 w25 b3 0 = some (.agg [(ii res26),(ii res27),(.int .u8 res28),(ii res29),(ii res30),(ii res31),(ii res32),(ii res33),res34,res35,(ii res36),res37,res38,res39,res40,(ii res41),(ii res42),(ii res43),res44]) ∧
 K (.tup [(.agg [(ii res26),(ii res27),(.int .u8 res28),(ii res29),(ii res30),(ii res31),(ii res32),(ii res33),res34,res35,(ii res36),res37,res38,res39,res40,(ii res41),(ii res42),(ii res43),res44]),(ii 2)]) w25)
 (ifT (decide (id0 < 1)) (onM (AW.putCells w4 b3 0 [(ii 0),(ii 0),(.int .u8 0),(ii 0),(ii 0),(ii 0),(ii 0),(ii 0),.nilslice,.nilslice,(ii 0),.nilslice,.nilslice,.nilslice,.nilslice,(ii 0),(ii 0),(ii 0),.nilslice]) fun w45 =>
 ∃ res46 res47 res48 res49 res50 res51 res52 res53 : Int,∃ res54 res55 : AV,∃ res56 : Int,∃ res57 res58 res59 res60 : AV,∃ res61 res62 res63 : Int,∃ res64 : AV,ldN 19 w45 b3 0 = some (.agg [(ii res46),(ii res47),(.int .u8 res48),(ii res49),(ii res50),(ii res51),(ii res52),(ii res53),res54,res55,(ii res56),res57,res58,res59,res60,(ii res61),(ii res62),(ii res63),res64]) ∧
 K (.tup [(.agg [(ii res46),(ii res47),(.int .u8 res48),(ii res49),(ii res50),(ii res51),(ii res52),(ii res53),res54,res55,(ii res56),res57,res58,res59,res60,(ii res61),(ii res62),(ii res63),res64]),(ii 2)]) w45)
 (ifT (decide (size1 < id0)) (onM (AW.putCells w4 b3 0 [(ii 0),(ii 0),(.int .u8 0),(ii 0),(ii 0),(ii 0),(ii 0),(ii 0),.nilslice,.nilslice,(ii 0),.nilslice,.nilslice,.nilslice,.nilslice,(ii 0),(ii 0),(ii 0),.nilslice]) fun w65 =>
  ∃ res66 res67 res68 res69 res70 res71 res72 res73 : Int,∃ res74 res75 : AV,∃ res76 : Int,∃ res77 res78 res79 res80 : AV,∃ res81 res82 res83 : Int,∃ res84 : AV,ldN 19 w65 b3 0 = some (.agg [(ii res66),(ii res67),(.int .u8 res68),(ii res69),(ii res70),(ii res71),(ii res72),(ii res73),res74,res75,(ii res76),res77,res78,res79,res80,(ii res81),(ii res82),(ii res83),res84]) ∧
 K (.tup [(.agg [(ii res66),(ii res67),(.int .u8 res68),(ii res69),(ii res70),(ii res71),(ii res72),(ii res73),res74,res75,(ii res76),res77,res78,res79,res80,(ii res81),(ii res82),(ii res83),res84]),(ii 2)]) w65)
 (Cl Tryz.prog hk 72 [(ii draw2)] w4 fun r85 w86 =>
 ∃ x87 : Int,r85 = (ii x87) ∧
 new w86 [(ii 0),(ii 0),(.int .u8 0),(ii 0),(ii 0),(ii 0),(ii 0),(ii 0),.nilslice,.nilslice,(ii 0),.nilslice,.nilslice,.nilslice,.nilslice,(ii 0),(ii 0),(ii 0),.nilslice] fun b88 w89 =>
 onM (AW.putCells w89 b88 0 [(ii id0),(ii size1),(.int .u8 1),(ii 0),(ii 0),(ii 0),(ii 0),(ii 0),.nilslice,.nilslice,(ii 0),.nilslice,.nilslice,.nilslice,.nilslice,(ii 0),(ii 0),(ii x87),.nilslice]) fun w90 =>
 ∃ x91 x92 x93 x94 x95 x96 x97 x98 : Int,∃ x99 x100 : AV,∃ x101 : Int,∃ x102 x103 x104 x105 : AV,∃ x106 x107 x108 : Int,∃ x109 : AV,ldN 19 w90 b88 0 = some (.agg [(ii x91),(ii x92),(.int .u8 x93),(ii x94),(ii x95),(ii x96),(ii x97),(ii x98),x99,x100,(ii x101),x102,x103,x104,x105,(ii x106),(ii x107),(ii x108),x109]) ∧
 Cl Tryz.prog hk 73 [(.agg [(ii x91),(ii x92),(.int .u8 x93),(ii x94),(ii x95),(ii x96),(ii x97),(ii x98),x99,x100,(ii x101),x102,x103,x104,x105,(ii x106),(ii x107),(ii x108),x109])] w90 fun r110 w111 =>
 ∃ x112 x113 x114 x115 x116 x117 x118 x119 : Int,∃ x120 x121 : AV,∃ x122 : Int,∃ x123 x124 x125 x126 : AV,∃ x127 x128 x129 : Int,∃ x130 : AV,r110 = (.agg [(ii x112),(ii x113),(.int .u8 x114),(ii x115),(ii x116),(ii x117),(ii x118),(ii x119),x120,x121,(ii x122),x123,x124,x125,x126,(ii x127),(ii x128),(ii x129),x130]) ∧
 gd (List.all [(ii x112),(ii x113),(.int .u8 x114),(ii x115),(ii x116),(ii x117),(ii x118),(ii x119),x120,x121,(ii x122),x123,x124,x125,x126,(ii x127),(ii x128),(ii x129),x130] okCell) (
 onM (AW.putCells w111 b3 0 [(ii x112),(ii x113),(.int .u8 x114),(ii x115),(ii x116),(ii x117),(ii x118),(ii x119),x120,x121,(ii x122),x123,x124,x125,x126,(ii x127),(ii x128),(ii x129),x130]) fun w131 =>
 ∃ res132 res133 res134 res135 res136 res137 res138 res139 : Int,∃ res140 res141 : AV,∃ res142 : Int,∃ res143 res144 res145 res146 : AV,∃ res147 res148 res149 : Int,∃ res150 : AV,ldN 19 w131 b3 0 = some (.agg [(ii res132),(ii res133),(.int .u8 res134),(ii res135),(ii res136),(ii res137),(ii res138),(ii res139),res140,res141,(ii res142),res143,res144,res145,res146,(ii res147),(ii res148),(ii res149),res150]) ∧
 K (.tup [(.agg [(ii res132),(ii res133),(.int .u8 res134),(ii res135),(ii res136),(ii res137),(ii res138),(ii res139),res140,res141,(ii res142),res143,res144,res145,res146,(ii res147),(ii res148),(ii res149),res150]),(ii 0)]) w131)))))
def adv26 : Adv := (.sq .lf (.sq (.sq .lf (.cd (.sq .lf .lf) .lf)) (.sq .lf (.sq .lf .lf))))
set_option maxRecDepth 100000 in
theorem in26 {hk : Hook} {id0 size1 draw2 : Int} {w : AW} {K : AV → AW → Prop} (hn : hk 26 [(ii id0),(ii size1),(ii draw2)] w = none) (h : F26 hk id0 size1 draw2 w K) : Cl Tryz.prog hk 26 [(ii id0),(ii size1),(ii draw2)] w K :=
 fnS_ok (adv := adv26) Tryz.func26 hn (Eq.mpr (by kernel_rfl) h)
set_option maxRecDepth 100000 in
def F57 (hk : Hook) (n0 n1 n2 n3 n4 n5 n6 n7 : Int) (n8 n9 : AV) (n10 : Int) (n11 n12 n13 n14 : AV) (n15 n16 n17 : Int) (n18 data19 : AV) (w : AW) (K : AV → AW → Prop) : Prop :=
 gd (List.all [(ii n0),(ii n1),(.int .u8 n2),(ii n3),(ii n4),(ii n5),(ii n6),(ii n7),n8,n9,(ii n10),n11,n12,n13,n14,(ii n15),(ii n16),(ii n17),n18] okCell) (
 new w [(ii n0),(ii n1),(.int .u8 n2),(ii n3),(ii n4),(ii n5),(ii n6),(ii n7),n8,n9,(ii n10),n11,n12,n13,n14,(ii n15),(ii n16),(ii n17),n18] fun b20 w21 =>
 new w21 [(ii 0),(ii 0),(.int .u8 0),(ii 0),(ii 0),(ii 0),(ii 0),(ii 0),.nilslice,.nilslice,(ii 0),.nilslice,.nilslice,.nilslice,.nilslice,(ii 0),(ii 0),(ii 0),.nilslice] fun b22 w23 =>
 onM (ld w23 b20 (0 + 9)) fun x24 =>
 ∃ x25 : Int,ld w23 b20 (0 + 3) = some (ii x25) ∧
 Cl Tryz.prog hk 47 [x24] w23 fun r26 w27 =>
 ld w27 b20 (0 + 3) = some (ii x25) ∧
 Cl Tryz.prog hk 46 [data19] w27 fun r28 w29 =>
 gd (okCell r28) (
 gd (List.all [(ii x25),r28] okCell) (
 new w29 [(ii x25),r28] fun b30 w31 =>
 ld w31 b20 (0 + 3) = some (ii x25) ∧
 onE (appS 2 32 w31 r26 (.slice b30 0 1 1 none)) fun x32 w33 =>
 gd (okCell x32) (
 onM (AW.putCells w33 b20 (0 + 9) [x32]) fun w34 =>
 onM (ld w34 b20 (0 + 13)) fun x35 =>
 Cl Tryz.prog hk 48 [x35] w34 fun r36 w37 =>
 gd (okCell r36) (
 onM (AW.putCells w37 b20 (0 + 13) [r36]) fun w38 =>
 onM (ld w38 b20 (0 + 12)) fun x39 =>
 Cl Tryz.prog hk 48 [x39] w38 fun r40 w41 =>
 gd (okCell r40) (
 onM (AW.putCells w41 b20 (0 + 12) [r40]) fun w42 =>
 onM (ld w42 b20 (0 + 13)) fun x43 =>
 ∃ x44 : Int,ld w42 b20 (0 + 0) = some (ii x44) ∧
 ∃ x45 x46 x47 x48 x49 x50 x51 x52 : Int,∃ x53 x54 : AV,∃ x55 : Int,∃ x56 x57 x58 x59 : AV,∃ x60 x61 x62 : Int,∃ x63 : AV,ldN 19 w42 b20 0 = some (.agg [(ii x45),(ii x46),(.int .u8 x47),(ii x48),(ii x49),(ii x50),(ii x51),(ii x52),x53,x54,(ii x55),x56,x57,x58,x59,(ii x60),(ii x61),(ii x62),x63]) ∧
 Cl Tryz.prog hk 58 [(.agg [(ii x45),(ii x46),(.int .u8 x47),(ii x48),(ii x49),(ii x50),(ii x51),(ii x52),x53,x54,(ii x55),x56,x57,x58,x59,(ii x60),(ii x61),(ii x62),x63])] w42 fun r64 w65 =>
 ∃ x66 : Int,r64 = (ii x66) ∧
 ld w65 b20 (0 + 0) = some (ii x44) ∧
 ld w65 b20 (0 + 13) = some x43 ∧
 atP (idxS 1 x43 (ii (wi (x44 - 1)))) fun b67 o68 =>
 onM (AW.putCells w65 b67 o68 [(ii x66)]) fun w69 =>
 onM (ld w69 b20 (0 + 12)) fun x70 =>
 ∃ x71 : Int,ld w69 b20 (0 + 0) = some (ii x71) ∧
 ∃ x72 x73 x74 x75 x76 x77 x78 x79 : Int,∃ x80 x81 : AV,∃ x82 : Int,∃ x83 x84 x85 x86 : AV,∃ x87 x88 x89 : Int,∃ x90 : AV,ldN 19 w69 b20 0 = some (.agg [(ii x72),(ii x73),(.int .u8 x74),(ii x75),(ii x76),(ii x77),(ii x78),(ii x79),x80,x81,(ii x82),x83,x84,x85,x86,(ii x87),(ii x88),(ii x89),x90]) ∧
 Cl Tryz.prog hk 58 [(.agg [(ii x72),(ii x73),(.int .u8 x74),(ii x75),(ii x76),(ii x77),(ii x78),(ii x79),x80,x81,(ii x82),x83,x84,x85,x86,(ii x87),(ii x88),(ii x89),x90])] w69 fun r91 w92 =>
 ∃ x93 : Int,r91 = (ii x93) ∧
 ld w92 b20 (0 + 0) = some (ii x71) ∧
 ld w92 b20 (0 + 12) = some x70 ∧
 atP (idxS 1 x70 (ii (wi (x71 - 1)))) fun b94 o95 =>
 onM (AW.putCells w92 b94 o95 [(ii (wi (x93 + 1)))]) fun w96 =>
 ∃ x97 x98 x99 x100 x101 x102 x103 x104 : Int,∃ x105 x106 : AV,∃ x107 : Int,∃ x108 x109 x110 x111 : AV,∃ x112 x113 x114 : Int,∃ x115 : AV,ldN 19 w96 b20 0 = some (.agg [(ii x97),(ii x98),(.int .u8 x99),(ii x100),(ii x101),(ii x102),(ii x103),(ii x104),x105,x106,(ii x107),x108,x109,x110,x111,(ii x112),(ii x113),(ii x114),x115]) ∧
 Cl Tryz.prog hk 101 [(.agg [(ii x97),(ii x98),(.int .u8 x99),(ii x100),(ii x101),(ii x102),(ii x103),(ii x104),x105,x106,(ii x107),x108,x109,x110,x111,(ii x112),(ii x113),(ii x114),x115])] w96 fun r116 w117 =>
 ∃ x118 x119 x120 x121 x122 x123 x124 x125 : Int,∃ x126 x127 : AV,∃ x128 : Int,∃ x129 x130 x131 x132 : AV,∃ x133 x134 x135 : Int,∃ x136 : AV,r116 = (.agg [(ii x118),(ii x119),(.int .u8 x120),(ii x121),(ii x122),(ii x123),(ii x124),(ii x125),x126,x127,(ii x128),x129,x130,x131,x132,(ii x133),(ii x134),(ii x135),x136]) ∧
 gd (List.all [(ii x118),(ii x119),(.int .u8 x120),(ii x121),(ii x122),(ii x123),(ii x124),(ii x125),x126,x127,(ii x128),x129,x130,x131,x132,(ii x133),(ii x134),(ii x135),x136] okCell) (
 onM (AW.putCells w117 b22 0 [(ii x118),(ii x119),(.int .u8 x120),(ii x121),(ii x122),(ii x123),(ii x124),(ii x125),x126,x127,(ii x128),x129,x130,x131,x132,(ii x133),(ii x134),(ii x135),x136]) fun w137 =>
 ∃ res138 res139 res140 res141 res142 res143 res144 res145 : Int,∃ res146 res147 : AV,∃ res148 : Int,∃ res149 res150 res151 res152 : AV,∃ res153 res154 res155 : Int,∃ res156 : AV,ldN 19 w137 b22 0 = some (.agg [(ii res138),(ii res139),(.int .u8 res140),(ii res141),(ii res142),(ii res143),(ii res144),(ii res145),res146,res147,(ii res148),res149,res150,res151,res152,(ii res153),(ii res154),(ii res155),res156]) ∧
 K (.agg [(ii res138),(ii res139),(.int .u8 res140),(ii res141),(ii res142),(ii res143),(ii res144),(ii res145),res146,res147,(ii res148),res149,res150,res151,res152,(ii res153),(ii res154),(ii res155),res156]) w137)))))))
def adv57 : Adv := (.sq .lf (.sq .lf (.sq .lf (.sq .lf (.sq .lf (.sq .lf (.sq .lf .lf)))))))
set_option maxRecDepth 100000 in
theorem in57 {hk : Hook} {n0 n1 n2 n3 n4 n5 n6 n7 : Int} {n8 n9 : AV} {n10 : Int} {n11 n12 n13 n14 : AV} {n15 n16 n17 : Int} {n18 data19 : AV} {w : AW} {K : AV → AW → Prop} (hn : hk 57 [(.agg [(ii n0),(ii n1),(.int .u8 n2),(ii n3),(ii n4),(ii n5),(ii n6),(ii n7),n8,n9,(ii n10),n11,n12,n13,n14,(ii n15),(ii n16),(ii n17),n18]),data19] w = none) (h : F57 hk n0 n1 n2 n3 n4 n5 n6 n7 n8 n9 n10 n11 n12 n13 n14 n15 n16 n17 n18 data19 w K) : Cl Tryz.prog hk 57 [(.agg [(ii n0),(ii n1),(.int .u8 n2),(ii n3),(ii n4),(ii n5),(ii n6),(ii n7),n8,n9,(ii n10),n11,n12,n13,n14,(ii n15),(ii n16),(ii n17),n18]),data19] w K :=
 fnS_ok (adv := adv57) Tryz.func57 hn (Eq.mpr (by kernel_rfl) h)
def F59 (hk : Hook) (n0 n1 n2 n3 n4 n5 n6 n7 : Int) (n8 n9 : AV) (n10 : Int) (n11 n12 n13 n14 : AV) (n15 n16 n17 : Int) (n18 : AV) (w : AW) (K : AV → AW → Prop) : Prop :=
 gd (List.all [(ii n0),(ii n1),(.int .u8 n2),(ii n3),(ii n4),(ii n5),(ii n6),(ii n7),n8,n9,(ii n10),n11,n12,n13,n14,(ii n15),(ii n16),(ii n17),n18] okCell) (
 new w [(ii n0),(ii n1),(.int .u8 n2),(ii n3),(ii n4),(ii n5),(ii n6),(ii n7),n8,n9,(ii n10),n11,n12,n13,n14,(ii n15),(ii n16),(ii n17),n18] fun b19 w20 =>
 loopP [.nilslice,(ii 1)] w20 fun R21 l_22 w23 => ∃ out24 : AV,∃ to25 : Int,l_22 = [out24,(ii to25)] ∧ ∀ _ : Nat → AV,
  ∃ x26 : Int,ld w23 b19 (0 + 1) = some (ii x26) ∧
  ifT (decide (to25 ≤ x26)) (∃ x27 : Int,ld w23 b19 (0 + 0) = some (ii x27) ∧
  ifT (!decide (to25 = x27)) (∃ x28 x29 x30 x31 x32 x33 x34 x35 : Int,∃ x36 x37 : AV,∃ x38 : Int,∃ x39 x40 x41 x42 : AV,∃ x43 x44 x45 : Int,∃ x46 : AV,ldN 19 w23 b19 0 = some (.agg [(ii x28),(ii x29),(.int .u8 x30),(ii x31),(ii x32),(ii x33),(ii x34),(ii x35),x36,x37,(ii x38),x39,x40,x41,x42,(ii x43),(ii x44),(ii x45),x46]) ∧
  Cl Tryz.prog hk 102 [(.agg [(ii x28),(ii x29),(.int .u8 x30),(ii x31),(ii x32),(ii x33),(ii x34),(ii x35),x36,x37,(ii x38),x39,x40,x41,x42,(ii x43),(ii x44),(ii x45),x46]),(ii to25)] w23 fun r47 w48 =>
  ∃ x49 : List UInt8,∃ x50 x51 x52 x53 x54 x55 x56 x57 : Int,∃ x58 : Bool,∃ x59 x60 : AV,r47 = (.agg [(.str x49),(.int .u8 x50),(ii x51),(ii x52),(ii x53),(ii x54),(ii x55),(ii x56),(ii x57),(.bool x58),x59,x60]) ∧
  gd (List.all [(.str x49),(.int .u8 x50),(ii x51),(ii x52),(ii x53),(ii x54),(ii x55),(ii x56),(ii x57),(.bool x58),x59,x60] okCell) (
  new w48 [(.str x49),(.int .u8 x50),(ii x51),(ii x52),(ii x53),(ii x54),(ii x55),(ii x56),(ii x57),(.bool x58),x59,x60] fun b61 w62 =>
  onE (appS 12 136 w62 out24 (.slice b61 0 1 1 none)) fun out63 w64 =>
  R21 [out63,(ii (wi (to25 + 1)))] w64))
  (R21 [out24,(ii (wi (to25 + 1)))] w23))
  (K out24 w23))
def adv59 : Adv := (.sq .lf (.sq .lf (.sq (.sq .lf (.bl (.lp [(3,.sc (.opq)),(4,.sc (.int .i64))] (.sq (.sq .lf (.cd .lf .lf)) (.sq (.bl (.sq .lf (.cd .lf .lf))) .lf))))) (.sq .lf .lf))))
set_option maxRecDepth 100000 in
theorem in59 {hk : Hook} {n0 n1 n2 n3 n4 n5 n6 n7 : Int} {n8 n9 : AV} {n10 : Int} {n11 n12 n13 n14 : AV} {n15 n16 n17 : Int} {n18 : AV} {w : AW} {K : AV → AW → Prop} (hn : hk 59 [(.agg [(ii n0),(ii n1),(.int .u8 n2),(ii n3),(ii n4),(ii n5),(ii n6),(ii n7),n8,n9,(ii n10),n11,n12,n13,n14,(ii n15),(ii n16),(ii n17),n18])] w = none) (h : F59 hk n0 n1 n2 n3 n4 n5 n6 n7 n8 n9 n10 n11 n12 n13 n14 n15 n16 n17 n18 w K) : Cl Tryz.prog hk 59 [(.agg [(ii n0),(ii n1),(.int .u8 n2),(ii n3),(ii n4),(ii n5),(ii n6),(ii n7),n8,n9,(ii n10),n11,n12,n13,n14,(ii n15),(ii n16),(ii n17),n18])] w K :=
 fnS_ok (adv := adv59) Tryz.func59 hn (Eq.mpr (by kernel_rfl) h)
def F65 (hk : Hook) (n0 n1 n2 n3 n4 n5 n6 n7 : Int) (n8 n9 : AV) (n10 : Int) (n11 n12 n13 n14 : AV) (n15 n16 n17 : Int) (n18 : AV) (w : AW) (K : AV → AW → Prop) : Prop :=
 gd (List.all [(ii n0),(ii n1),(.int .u8 n2),(ii n3),(ii n4),(ii n5),(ii n6),(ii n7),n8,n9,(ii n10),n11,n12,n13,n14,(ii n15),(ii n16),(ii n17),n18] okCell) (
 new w [(ii n0),(ii n1),(.int .u8 n2),(ii n3),(ii n4),(ii n5),(ii n6),(ii n7),n8,n9,(ii n10),n11,n12,n13,n14,(ii n15),(ii n16),(ii n17),n18] fun b19 w20 =>
 new w20 [(ii 0),(ii 0),(.int .u8 0),(ii 0),(ii 0),(ii 0),(ii 0),(ii 0),.nilslice,.nilslice,(ii 0),.nilslice,.nilslice,.nilslice,.nilslice,(ii 0),(ii 0),(ii 0),.nilslice] fun b21 w22 =>
 ∃ x23 x24 x25 x26 x27 x28 x29 x30 : Int,∃ x31 x32 : AV,∃ x33 : Int,∃ x34 x35 x36 x37 : AV,∃ x38 x39 x40 : Int,∃ x41 : AV,ldN 19 w22 b19 0 = some (.agg [(ii x23),(ii x24),(.int .u8 x25),(ii x26),(ii x27),(ii x28),(ii x29),(ii x30),x31,x32,(ii x33),x34,x35,x36,x37,(ii x38),(ii x39),(ii x40),x41]) ∧
 Cl Tryz.prog hk 11 [(.agg [(ii x23),(ii x24),(.int .u8 x25),(ii x26),(ii x27),(ii x28),(ii x29),(ii x30),x31,x32,(ii x33),x34,x35,x36,x37,(ii x38),(ii x39),(ii x40),x41])] w22 fun r42 w43 =>
 ∃ x44 x45 x46 x47 x48 x49 x50 x51 : Int,∃ x52 x53 : AV,∃ x54 : Int,∃ x55 x56 x57 x58 : AV,∃ x59 x60 x61 : Int,∃ x62 : AV,r42 = (.agg [(ii x44),(ii x45),(.int .u8 x46),(ii x47),(ii x48),(ii x49),(ii x50),(ii x51),x52,x53,(ii x54),x55,x56,x57,x58,(ii x59),(ii x60),(ii x61),x62]) ∧
 gd (List.all [(ii x44),(ii x45),(.int .u8 x46),(ii x47),(ii x48),(ii x49),(ii x50),(ii x51),x52,x53,(ii x54),x55,x56,x57,x58,(ii x59),(ii x60),(ii x61),x62] okCell) (
 onM (AW.putCells w43 b21 0 [(ii x44),(ii x45),(.int .u8 x46),(ii x47),(ii x48),(ii x49),(ii x50),(ii x51),x52,x53,(ii x54),x55,x56,x57,x58,(ii x59),(ii x60),(ii x61),x62]) fun w63 =>
 ∃ res64 res65 res66 res67 res68 res69 res70 res71 : Int,∃ res72 res73 : AV,∃ res74 : Int,∃ res75 res76 res77 res78 : AV,∃ res79 res80 res81 : Int,∃ res82 : AV,ldN 19 w63 b21 0 = some (.agg [(ii res64),(ii res65),(.int .u8 res66),(ii res67),(ii res68),(ii res69),(ii res70),(ii res71),res72,res73,(ii res74),res75,res76,res77,res78,(ii res79),(ii res80),(ii res81),res82]) ∧
 K (.agg [(ii res64),(ii res65),(.int .u8 res66),(ii res67),(ii res68),(ii res69),(ii res70),(ii res71),res72,res73,(ii res74),res75,res76,res77,res78,(ii res79),(ii res80),(ii res81),res82]) w63))
def adv65 : Adv := (.sq .lf (.sq .lf .lf))
set_option maxRecDepth 100000 in
theorem in65 {hk : Hook} {n0 n1 n2 n3 n4 n5 n6 n7 : Int} {n8 n9 : AV} {n10 : Int} {n11 n12 n13 n14 : AV} {n15 n16 n17 : Int} {n18 : AV} {w : AW} {K : AV → AW → Prop} (hn : hk 65 [(.agg [(ii n0),(ii n1),(.int .u8 n2),(ii n3),(ii n4),(ii n5),(ii n6),(ii n7),n8,n9,(ii n10),n11,n12,n13,n14,(ii n15),(ii n16),(ii n17),n18])] w = none) (h : F65 hk n0 n1 n2 n3 n4 n5 n6 n7 n8 n9 n10 n11 n12 n13 n14 n15 n16 n17 n18 w K) : Cl Tryz.prog hk 65 [(.agg [(ii n0),(ii n1),(.int .u8 n2),(ii n3),(ii n4),(ii n5),(ii n6),(ii n7),n8,n9,(ii n10),n11,n12,n13,n14,(ii n15),(ii n16),(ii n17),n18])] w K :=
 fnS_ok (adv := adv65) Tryz.func65 hn (Eq.mpr (by kernel_rfl) h)
def F72 (hk : Hook) (draw0 : Int) (w : AW) (K : AV → AW → Prop) : Prop :=
 ifT (decide ((Int.tmod draw0 10) < 0)) (be (wi ((Int.tmod draw0 10) + 10)) fun draw1 =>
  K (ii (wi (10 + draw1))) w)
 (be (wi (10 + (Int.tmod draw0 10))) fun x2 =>
 K (ii x2) w)
def adv72 : Adv := (.sq .lf (.sq .lf (.sq (.sq .lf (.cd .lf .lf)) (.sq .lf .lf))))
set_option maxRecDepth 100000 in
theorem in72 {hk : Hook} {draw0 : Int} {w : AW} {K : AV → AW → Prop} (hn : hk 72 [(ii draw0)] w = none) (h : F72 hk draw0 w K) : Cl Tryz.prog hk 72 [(ii draw0)] w K :=
 fnS_ok (adv := adv72) Tryz.func72 hn (Eq.mpr (by kernel_rfl) h)
def F73 (hk : Hook) (n0 n1 n2 n3 n4 n5 n6 n7 : Int) (n8 n9 : AV) (n10 : Int) (n11 n12 n13 n14 : AV) (n15 n16 n17 : Int) (n18 : AV) (w : AW) (K : AV → AW → Prop) : Prop :=
 gd (List.all [(ii n0),(ii n1),(.int .u8 n2),(ii n3),(ii n4),(ii n5),(ii n6),(ii n7),n8,n9,(ii n10),n11,n12,n13,n14,(ii n15),(ii n16),(ii n17),n18] okCell) (
 new w [(ii n0),(ii n1),(.int .u8 n2),(ii n3),(ii n4),(ii n5),(ii n6),(ii n7),n8,n9,(ii n10),n11,n12,n13,n14,(ii n15),(ii n16),(ii n17),n18] fun b19 w20 =>
 new w20 [(ii 0),(ii 0),(.int .u8 0),(ii 0),(ii 0),(ii 0),(ii 0),(ii 0),.nilslice,.nilslice,(ii 0),.nilslice,.nilslice,.nilslice,.nilslice,(ii 0),(ii 0),(ii 0),.nilslice] fun b21 w22 =>
 ∃ x23 : Int,ld w22 b19 (0 + 1) = some (ii x23) ∧
 onM (asN (ii x23)) fun n24 =>
 onM (asN (ii x23)) fun n25 =>
 gd (Nat.ble n24 n25 && Nat.ble (n25 * 1) (2 ^ 47) && Nat.blt n25 (2 ^ 63) && true) (new w22 (repl n25 [(.bool false)]) fun b26 w27 =>
 onM (AW.putCells w27 b19 (0 + 11) [(.slice b26 0 n24 n25 none)]) fun w28 =>
 ∃ x29 : Int,ld w28 b19 (0 + 1) = some (ii x29) ∧
 onM (asN (ii x29)) fun n30 =>
 onM (asN (ii x29)) fun n31 =>
 gd (Nat.ble n30 n31 && Nat.ble (n31 * 8) (2 ^ 47) && Nat.blt n31 (2 ^ 63) && true) (new w28 (repl n31 [(ii 0)]) fun b32 w33 =>
 onM (AW.putCells w33 b19 (0 + 12) [(.slice b32 0 n30 n31 none)]) fun w34 =>
 ∃ x35 : Int,ld w34 b19 (0 + 1) = some (ii x35) ∧
 onM (asN (ii x35)) fun n36 =>
 onM (asN (ii x35)) fun n37 =>
 gd (Nat.ble n36 n37 && Nat.ble (n37 * 8) (2 ^ 47) && Nat.blt n37 (2 ^ 63) && true) (new w34 (repl n37 [(ii 0)]) fun b38 w39 =>
 onM (AW.putCells w39 b19 (0 + 13) [(.slice b38 0 n36 n37 none)]) fun w40 =>
 ∃ x41 : Int,ld w40 b19 (0 + 1) = some (ii x41) ∧
 onM (asN (ii x41)) fun n42 =>
 onM (asN (ii x41)) fun n43 =>
 gd (Nat.ble n42 n43 && Nat.ble (n43 * 8) (2 ^ 47) && Nat.blt n43 (2 ^ 63) && true) (new w40 (repl n43 [(ii 0)]) fun b44 w45 =>
 onM (AW.putCells w45 b19 (0 + 14) [(.slice b44 0 n42 n43 none)]) fun w46 =>
 onM (AW.putCells w46 b19 (0 + 15) [(ii 0)]) fun w47 =>
 onM (AW.putCells w47 b19 (0 + 18) [.nilslice]) fun w48 =>
 ∃ x49 x50 x51 x52 x53 x54 x55 x56 : Int,∃ x57 x58 : AV,∃ x59 : Int,∃ x60 x61 x62 x63 : AV,∃ x64 x65 x66 : Int,∃ x67 : AV,ldN 19 w48 b19 0 = some (.agg [(ii x49),(ii x50),(.int .u8 x51),(ii x52),(ii x53),(ii x54),(ii x55),(ii x56),x57,x58,(ii x59),x60,x61,x62,x63,(ii x64),(ii x65),(ii x66),x67]) ∧
 gd (List.all [(ii x49),(ii x50),(.int .u8 x51),(ii x52),(ii x53),(ii x54),(ii x55),(ii x56),x57,x58,(ii x59),x60,x61,x62,x63,(ii x64),(ii x65),(ii x66),x67] okCell) (
 onM (AW.putCells w48 b21 0 [(ii x49),(ii x50),(.int .u8 x51),(ii x52),(ii x53),(ii x54),(ii x55),(ii x56),x57,x58,(ii x59),x60,x61,x62,x63,(ii x64),(ii x65),(ii x66),x67]) fun w68 =>
 ∃ res69 res70 res71 res72 res73 res74 res75 res76 : Int,∃ res77 res78 : AV,∃ res79 : Int,∃ res80 res81 res82 res83 : AV,∃ res84 res85 res86 : Int,∃ res87 : AV,ldN 19 w68 b21 0 = some (.agg [(ii res69),(ii res70),(.int .u8 res71),(ii res72),(ii res73),(ii res74),(ii res75),(ii res76),res77,res78,(ii res79),res80,res81,res82,res83,(ii res84),(ii res85),(ii res86),res87]) ∧
 K (.agg [(ii res69),(ii res70),(.int .u8 res71),(ii res72),(ii res73),(ii res74),(ii res75),(ii res76),res77,res78,(ii res79),res80,res81,res82,res83,(ii res84),(ii res85),(ii res86),res87]) w68))))))
def adv73 : Adv := (.sq .lf (.sq .lf (.sq .lf (.sq .lf (.sq .lf (.sq .lf (.sq .lf (.sq .lf .lf))))))))
set_option maxRecDepth 100000 in
theorem in73 {hk : Hook} {n0 n1 n2 n3 n4 n5 n6 n7 : Int} {n8 n9 : AV} {n10 : Int} {n11 n12 n13 n14 : AV} {n15 n16 n17 : Int} {n18 : AV} {w : AW} {K : AV → AW → Prop} (hn : hk 73 [(.agg [(ii n0),(ii n1),(.int .u8 n2),(ii n3),(ii n4),(ii n5),(ii n6),(ii n7),n8,n9,(ii n10),n11,n12,n13,n14,(ii n15),(ii n16),(ii n17),n18])] w = none) (h : F73 hk n0 n1 n2 n3 n4 n5 n6 n7 n8 n9 n10 n11 n12 n13 n14 n15 n16 n17 n18 w K) : Cl Tryz.prog hk 73 [(.agg [(ii n0),(ii n1),(.int .u8 n2),(ii n3),(ii n4),(ii n5),(ii n6),(ii n7),n8,n9,(ii n10),n11,n12,n13,n14,(ii n15),(ii n16),(ii n17),n18])] w K :=
 fnS_ok (adv := adv73) Tryz.func73 hn (Eq.mpr (by kernel_rfl) h)
def F101 (hk : Hook) (n0 n1 n2 n3 n4 n5 n6 n7 : Int) (n8 n9 : AV) (n10 : Int) (n11 n12 n13 n14 : AV) (n15 n16 n17 : Int) (n18 : AV) (w : AW) (K : AV → AW → Prop) : Prop :=
 gd (List.all [(ii n0),(ii n1),(.int .u8 n2),(ii n3),(ii n4),(ii n5),(ii n6),(ii n7),n8,n9,(ii n10),n11,n12,n13,n14,(ii n15),(ii n16),(ii n17),n18] okCell) (
 new w [(ii n0),(ii n1),(.int .u8 n2),(ii n3),(ii n4),(ii n5),(ii n6),(ii n7),n8,n9,(ii n10),n11,n12,n13,n14,(ii n15),(ii n16),(ii n17),n18] fun b19 w20 =>
 new w20 [(ii 0),(ii 0),(.int .u8 0),(ii 0),(ii 0),(ii 0),(ii 0),(ii 0),.nilslice,.nilslice,(ii 0),.nilslice,.nilslice,.nilslice,.nilslice,(ii 0),(ii 0),(ii 0),.nilslice] fun b21 w22 =>
 ∃ x23 : Int,ld w22 b19 (0 + 10) = some (ii x23) ∧
 ∃ x24 : Int,ld w22 b19 (0 + 3) = some (ii x24) ∧
 ∃ x25 : Int,ld w22 b19 (0 + 6) = some (ii x25) ∧
 ∃ x26 : Int,ld w22 b19 (0 + 7) = some (ii x26) ∧
 onM (ld w22 b19 (0 + 9)) fun x27 =>
 onM (ld w22 b19 (0 + 13)) fun x28 =>
 Cl Tryz.prog hk 120 [(ii x23),(ii x24),(ii x25),(ii x26),x27,x28] w22 fun r29 w30 =>
 ∃ x31 : Int,r29 = (ii x31) ∧
 onM (AW.putCells w30 b19 (0 + 10) [(ii x31)]) fun w32 =>
 ∃ x33 x34 x35 x36 x37 x38 x39 x40 : Int,∃ x41 x42 : AV,∃ x43 : Int,∃ x44 x45 x46 x47 : AV,∃ x48 x49 x50 : Int,∃ x51 : AV,ldN 19 w32 b19 0 = some (.agg [(ii x33),(ii x34),(.int .u8 x35),(ii x36),(ii x37),(ii x38),(ii x39),(ii x40),x41,x42,(ii x43),x44,x45,x46,x47,(ii x48),(ii x49),(ii x50),x51]) ∧
 gd (List.all [(ii x33),(ii x34),(.int .u8 x35),(ii x36),(ii x37),(ii x38),(ii x39),(ii x40),x41,x42,(ii x43),x44,x45,x46,x47,(ii x48),(ii x49),(ii x50),x51] okCell) (
 onM (AW.putCells w32 b21 0 [(ii x33),(ii x34),(.int .u8 x35),(ii x36),(ii x37),(ii x38),(ii x39),(ii x40),x41,x42,(ii x43),x44,x45,x46,x47,(ii x48),(ii x49),(ii x50),x51]) fun w52 =>
 ∃ res53 res54 res55 res56 res57 res58 res59 res60 : Int,∃ res61 res62 : AV,∃ res63 : Int,∃ res64 res65 res66 res67 : AV,∃ res68 res69 res70 : Int,∃ res71 : AV,ldN 19 w52 b21 0 = some (.agg [(ii res53),(ii res54),(.int .u8 res55),(ii res56),(ii res57),(ii res58),(ii res59),(ii res60),res61,res62,(ii res63),res64,res65,res66,res67,(ii res68),(ii res69),(ii res70),res71]) ∧
 K (.agg [(ii res53),(ii res54),(.int .u8 res55),(ii res56),(ii res57),(ii res58),(ii res59),(ii res60),res61,res62,(ii res63),res64,res65,res66,res67,(ii res68),(ii res69),(ii res70),res71]) w52))
def adv101 : Adv := (.sq .lf (.sq .lf (.sq .lf .lf)))
set_option maxRecDepth 100000 in
theorem in101 {hk : Hook} {n0 n1 n2 n3 n4 n5 n6 n7 : Int} {n8 n9 : AV} {n10 : Int} {n11 n12 n13 n14 : AV} {n15 n16 n17 : Int} {n18 : AV} {w : AW} {K : AV → AW → Prop} (hn : hk 101 [(.agg [(ii n0),(ii n1),(.int .u8 n2),(ii n3),(ii n4),(ii n5),(ii n6),(ii n7),n8,n9,(ii n10),n11,n12,n13,n14,(ii n15),(ii n16),(ii n17),n18])] w = none) (h : F101 hk n0 n1 n2 n3 n4 n5 n6 n7 n8 n9 n10 n11 n12 n13 n14 n15 n16 n17 n18 w K) : Cl Tryz.prog hk 101 [(.agg [(ii n0),(ii n1),(.int .u8 n2),(ii n3),(ii n4),(ii n5),(ii n6),(ii n7),n8,n9,(ii n10),n11,n12,n13,n14,(ii n15),(ii n16),(ii n17),n18])] w K :=
 fnS_ok (adv := adv101) Tryz.func101 hn (Eq.mpr (by kernel_rfl) h)
set_option maxRecDepth 100000 in
def F102 (hk : Hook) (n0 n1 n2 n3 n4 n5 n6 n7 : Int) (n8 n9 : AV) (n10 : Int) (n11 n12 n13 n14 : AV) (n15 n16 n17 : Int) (n18 : AV) (to19 : Int) (w : AW) (K : AV → AW → Prop) : Prop :=
 gd (List.all [(ii n0),(ii n1),(.int .u8 n2),(ii n3),(ii n4),(ii n5),(ii n6),(ii n7),n8,n9,(ii n10),n11,n12,n13,n14,(ii n15),(ii n16),(ii n17),n18] okCell) (
 new w [(ii n0),(ii n1),(.int .u8 n2),(ii n3),(ii n4),(ii n5),(ii n6),(ii n7),n8,n9,(ii n10),n11,n12,n13,n14,(ii n15),(ii n16),(ii n17),n18] fun b20 w21 =>
 new w21 [(.str []),(.int .u8 0),(ii 0),(ii 0),(ii 0),(ii 0),(ii 0),(ii 0),(ii 0),(.bool false),.nilslice,.nilslice] fun b22 w23 =>
 ∃ x24 : Int,ld w23 b20 (0 + 0) = some (ii x24) ∧
 ∃ x25 : Int,ld w23 b20 (0 + 3) = some (ii x25) ∧
 ∃ x26 : Int,ld w23 b20 (0 + 15) = some (ii x26) ∧
 new w23 [(.str []),(.int .u8 0),(ii 0),(ii 0),(ii 0),(ii 0),(ii 0),(ii 0),(ii 0),(.bool false),.nilslice,.nilslice] fun b27 w28 =>
 onM (AW.putCells w28 b27 0 [(.str []),(.int .u8 0),(ii x24),(ii to19),(ii x25),(ii 0),(ii 0),(ii 0),(ii x26),(.bool false),.nilslice,.nilslice]) fun w29 =>
 onM (ld w29 b20 (0 + 12)) fun x30 =>
 atP (idxS 1 x30 (ii (wi (to19 - 1)))) fun b31 o32 =>
 ∃ next33 : Int,ld w29 b31 o32 = some (ii next33) ∧
 ∃ x34 : Int,ld w29 b20 (0 + 6) = some (ii x34) ∧
 ifT (decide (next33 ≤ x34)) (onM (AW.putCells w29 b27 (0 + 1) [(.int .u8 5)]) fun w35 =>
  ∃ x36 : Int,ld w35 b20 (0 + 6) = some (ii x36) ∧
  onM (AW.putCells w35 b27 (0 + 5) [(ii x36)]) fun w37 =>
  ∃ x38 : Int,ld w37 b20 (0 + 7) = some (ii x38) ∧
  onM (AW.putCells w37 b27 (0 + 6) [(ii x38)]) fun w39 =>
  onM (ld w39 b20 (0 + 8)) fun x40 =>
  gd (okCell x40) (
  onM (AW.putCells w39 b27 (0 + 11) [x40]) fun w41 =>
  ∃ x42 : List UInt8,∃ x43 x44 x45 x46 x47 x48 x49 x50 : Int,∃ x51 : Bool,∃ x52 x53 : AV,ldN 12 w41 b27 0 = some (.agg [(.str x42),(.int .u8 x43),(ii x44),(ii x45),(ii x46),(ii x47),(ii x48),(ii x49),(ii x50),(.bool x51),x52,x53]) ∧
  gd (List.all [(.str x42),(.int .u8 x43),(ii x44),(ii x45),(ii x46),(ii x47),(ii x48),(ii x49),(ii x50),(.bool x51),x52,x53] okCell) (
  onM (AW.putCells w41 b22 0 [(.str x42),(.int .u8 x43),(ii x44),(ii x45),(ii x46),(ii x47),(ii x48),(ii x49),(ii x50),(.bool x51),x52,x53]) fun w54 =>
  ∃ res55 : List UInt8,∃ res56 res57 res58 res59 res60 res61 res62 res63 : Int,∃ res64 : Bool,∃ res65 res66 : AV,ldN 12 w54 b22 0 = some (.agg [(.str res55),(.int .u8 res56),(ii res57),(ii res58),(ii res59),(ii res60),(ii res61),(ii res62),(ii res63),(.bool res64),res65,res66]) ∧
 K (.agg [(.str res55),(.int .u8 res56),(ii res57),(ii res58),(ii res59),(ii res60),(ii res61),(ii res62),(ii res63),(.bool res64),res65,res66]) w54)))
 (onM (AW.putCells w29 b27 (0 + 1) [(.int .u8 3)]) fun w67 =>
 onM (AW.putCells w67 b27 (0 + 5) [(ii (wi (next33 - 1)))]) fun w68 =>
 ∃ x69 x70 x71 x72 x73 x74 x75 x76 : Int,∃ x77 x78 : AV,∃ x79 : Int,∃ x80 x81 x82 x83 : AV,∃ x84 x85 x86 : Int,∃ x87 : AV,ldN 19 w68 b20 0 = some (.agg [(ii x69),(ii x70),(.int .u8 x71),(ii x72),(ii x73),(ii x74),(ii x75),(ii x76),x77,x78,(ii x79),x80,x81,x82,x83,(ii x84),(ii x85),(ii x86),x87]) ∧
 Cl Tryz.prog hk 64 [(.agg [(ii x69),(ii x70),(.int .u8 x71),(ii x72),(ii x73),(ii x74),(ii x75),(ii x76),x77,x78,(ii x79),x80,x81,x82,x83,(ii x84),(ii x85),(ii x86),x87]),(ii (wi (next33 - 1)))] w68 fun r88 w89 =>
 ∃ x90 : Int,∃ x91 : Bool,r88 = .tup [(ii x90),(.bool x91)] ∧
 onM (AW.putCells w89 b27 (0 + 6) [(ii x90)]) fun w92 =>
 ∃ x93 : Int,ld w92 b20 (0 + 10) = some (ii x93) ∧
 onM (AW.putCells w92 b27 (0 + 7) [(ii x93)]) fun w94 =>
 loopP [(ii 0),(ii next33)] w94 fun R95 l_96 w97 => ∃ size98 i99 : Int,l_96 = [(ii size98),(ii i99)] ∧ ∀ _ : Nat → AV,
  ∃ x100 x101 x102 x103 x104 x105 x106 x107 : Int,∃ x108 x109 : AV,∃ x110 : Int,∃ x111 x112 x113 x114 : AV,∃ x115 x116 x117 : Int,∃ x118 : AV,ldN 19 w97 b20 0 = some (.agg [(ii x100),(ii x101),(.int .u8 x102),(ii x103),(ii x104),(ii x105),(ii x106),(ii x107),x108,x109,(ii x110),x111,x112,x113,x114,(ii x115),(ii x116),(ii x117),x118]) ∧
  Cl Tryz.prog hk 58 [(.agg [(ii x100),(ii x101),(.int .u8 x102),(ii x103),(ii x104),(ii x105),(ii x106),(ii x107),x108,x109,(ii x110),x111,x112,x113,x114,(ii x115),(ii x116),(ii x117),x118])] w97 fun r119 w120 =>
  ∃ x121 : Int,r119 = (ii x121) ∧
  ifT (decide (i99 ≤ x121)) (onM (ld w120 b27 (0 + 10)) fun x122 =>
  ∃ x123 : Int,lenS x122 = some (ii x123) ∧
  ifT (decide (x123 < 8)) (onM (ld w120 b20 (0 + 9)) fun x124 =>
  ∃ x125 : Int,ld w120 b20 (0 + 6) = some (ii x125) ∧
  atP (idxS 2 x124 (ii (wi ((wi (i99 - x125)) - 1)))) fun b126 o127 =>
  ∃ x128 : Int,∃ x129 : AV,ldN 2 w120 b126 o127 = some (.agg [(ii x128),x129]) ∧
  new w120 [(ii 0),.nilslice] fun b130 w131 =>
  gd (List.all [(ii x128),x129] okCell) (
  onM (AW.putCells w131 b130 0 [(ii x128),x129]) fun w132 =>
  onM (ld w132 b130 (0 + 1)) fun x133 =>
  ∃ x134 : Int,lenS x133 = some (ii x134) ∧
  ifT (decide (60000 < (wi (size98 + x134)))) (∃ x135 : List UInt8,∃ x136 x137 x138 x139 x140 x141 x142 x143 : Int,∃ x144 : Bool,∃ x145 x146 : AV,ldN 12 w132 b27 0 = some (.agg [(.str x135),(.int .u8 x136),(ii x137),(ii x138),(ii x139),(ii x140),(ii x141),(ii x142),(ii x143),(.bool x144),x145,x146]) ∧
 gd (List.all [(.str x135),(.int .u8 x136),(ii x137),(ii x138),(ii x139),(ii x140),(ii x141),(ii x142),(ii x143),(.bool x144),x145,x146] okCell) (
 onM (AW.putCells w132 b22 0 [(.str x135),(.int .u8 x136),(ii x137),(ii x138),(ii x139),(ii x140),(ii x141),(ii x142),(ii x143),(.bool x144),x145,x146]) fun w147 =>
 ∃ res148 : List UInt8,∃ res149 res150 res151 res152 res153 res154 res155 res156 : Int,∃ res157 : Bool,∃ res158 res159 : AV,ldN 12 w147 b22 0 = some (.agg [(.str res148),(.int .u8 res149),(ii res150),(ii res151),(ii res152),(ii res153),(ii res154),(ii res155),(ii res156),(.bool res157),res158,res159]) ∧
 K (.agg [(.str res148),(.int .u8 res149),(ii res150),(ii res151),(ii res152),(ii res153),(ii res154),(ii res155),(ii res156),(.bool res157),res158,res159]) w147))
  (onM (ld w132 b27 (0 + 10)) fun x160 =>
  ∃ x161 : Int,∃ x162 : AV,ldN 2 w132 b130 0 = some (.agg [(ii x161),x162]) ∧
  gd (List.all [(ii x161),x162] okCell) (
  new w132 [(ii x161),x162] fun b163 w164 =>
  onE (appS 2 32 w164 x160 (.slice b163 0 1 1 none)) fun x165 w166 =>
  gd (okCell x165) (
  onM (AW.putCells w166 b27 (0 + 10) [x165]) fun w167 =>
  R95 [(ii (wi (size98 + x134))),(ii (wi (i99 + 1)))] w167)))))
  (∃ x168 : List UInt8,∃ x169 x170 x171 x172 x173 x174 x175 x176 : Int,∃ x177 : Bool,∃ x178 x179 : AV,ldN 12 w120 b27 0 = some (.agg [(.str x168),(.int .u8 x169),(ii x170),(ii x171),(ii x172),(ii x173),(ii x174),(ii x175),(ii x176),(.bool x177),x178,x179]) ∧
 gd (List.all [(.str x168),(.int .u8 x169),(ii x170),(ii x171),(ii x172),(ii x173),(ii x174),(ii x175),(ii x176),(.bool x177),x178,x179] okCell) (
 onM (AW.putCells w120 b22 0 [(.str x168),(.int .u8 x169),(ii x170),(ii x171),(ii x172),(ii x173),(ii x174),(ii x175),(ii x176),(.bool x177),x178,x179]) fun w180 =>
 ∃ res181 : List UInt8,∃ res182 res183 res184 res185 res186 res187 res188 res189 : Int,∃ res190 : Bool,∃ res191 res192 : AV,ldN 12 w180 b22 0 = some (.agg [(.str res181),(.int .u8 res182),(ii res183),(ii res184),(ii res185),(ii res186),(ii res187),(ii res188),(ii res189),(.bool res190),res191,res192]) ∧
 K (.agg [(.str res181),(.int .u8 res182),(ii res183),(ii res184),(ii res185),(ii res186),(ii res187),(ii res188),(ii res189),(.bool res190),res191,res192]) w180)))
  (∃ x193 : List UInt8,∃ x194 x195 x196 x197 x198 x199 x200 x201 : Int,∃ x202 : Bool,∃ x203 x204 : AV,ldN 12 w120 b27 0 = some (.agg [(.str x193),(.int .u8 x194),(ii x195),(ii x196),(ii x197),(ii x198),(ii x199),(ii x200),(ii x201),(.bool x202),x203,x204]) ∧
 gd (List.all [(.str x193),(.int .u8 x194),(ii x195),(ii x196),(ii x197),(ii x198),(ii x199),(ii x200),(ii x201),(.bool x202),x203,x204] okCell) (
 onM (AW.putCells w120 b22 0 [(.str x193),(.int .u8 x194),(ii x195),(ii x196),(ii x197),(ii x198),(ii x199),(ii x200),(ii x201),(.bool x202),x203,x204]) fun w205 =>
 ∃ res206 : List UInt8,∃ res207 res208 res209 res210 res211 res212 res213 res214 : Int,∃ res215 : Bool,∃ res216 res217 : AV,ldN 12 w205 b22 0 = some (.agg [(.str res206),(.int .u8 res207),(ii res208),(ii res209),(ii res210),(ii res211),(ii res212),(ii res213),(ii res214),(.bool res215),res216,res217]) ∧
 K (.agg [(.str res206),(.int .u8 res207),(ii res208),(ii res209),(ii res210),(ii res211),(ii res212),(ii res213),(ii res214),(.bool res215),res216,res217]) w205))))
def adv102 : Adv := (.sq .lf (.sq .lf (.sq .lf (.sq (.sq .lf (.cd (.sq .lf (.sq .lf (.sq .lf (.sq .lf (.sq .lf .lf))))) .lf)) (.sq .lf (.sq .lf (.sq .lf (.sq .lf (.sq .lf (.sq (.sq .lf (.bl (.lp [(7,.sc (.int .i64)),(8,.sc (.int .i64))] (.sq (.sq .lf (.cd .lf .lf)) (.sq (.bl (.sq .lf (.sq .lf (.sq (.sq .lf (.cd .lf .lf)) .lf)))) .lf))))) (.sq .lf .lf)))))))))))
set_option maxRecDepth 100000 in
theorem in102 {hk : Hook} {n0 n1 n2 n3 n4 n5 n6 n7 : Int} {n8 n9 : AV} {n10 : Int} {n11 n12 n13 n14 : AV} {n15 n16 n17 : Int} {n18 : AV} {to19 : Int} {w : AW} {K : AV → AW → Prop} (hn : hk 102 [(.agg [(ii n0),(ii n1),(.int .u8 n2),(ii n3),(ii n4),(ii n5),(ii n6),(ii n7),n8,n9,(ii n10),n11,n12,n13,n14,(ii n15),(ii n16),(ii n17),n18]),(ii to19)] w = none) (h : F102 hk n0 n1 n2 n3 n4 n5 n6 n7 n8 n9 n10 n11 n12 n13 n14 n15 n16 n17 n18 to19 w K) : Cl Tryz.prog hk 102 [(.agg [(ii n0),(ii n1),(.int .u8 n2),(ii n3),(ii n4),(ii n5),(ii n6),(ii n7),n8,n9,(ii n10),n11,n12,n13,n14,(ii n15),(ii n16),(ii n17),n18]),(ii to19)] w K :=
 fnS_ok (adv := adv102) Tryz.func102 hn (Eq.mpr (by kernel_rfl) h)
def F11 (hk : Hook) (n0 n1 n2 n3 n4 n5 n6 n7 : Int) (n8 n9 : AV) (n10 : Int) (n11 n12 n13 n14 : AV) (n15 n16 n17 : Int) (n18 : AV) (w : AW) (K : AV → AW → Prop) : Prop :=
 gd (List.all [(ii n0),(ii n1),(.int .u8 n2),(ii n3),(ii n4),(ii n5),(ii n6),(ii n7),n8,n9,(ii n10),n11,n12,n13,n14,(ii n15),(ii n16),(ii n17),n18] okCell) (
 new w [(ii n0),(ii n1),(.int .u8 n2),(ii n3),(ii n4),(ii n5),(ii n6),(ii n7),n8,n9,(ii n10),n11,n12,n13,n14,(ii n15),(ii n16),(ii n17),n18] fun b19 w20 =>
 new w20 [(ii 0),(ii 0),(.int .u8 0),(ii 0),(ii 0),(ii 0),(ii 0),(ii 0),.nilslice,.nilslice,(ii 0),.nilslice,.nilslice,.nilslice,.nilslice,(ii 0),(ii 0),(ii 0),.nilslice] fun b21 w22 =>
 onM (ld w22 b19 (0 + 8)) fun x23 =>
 Cl Tryz.prog hk 46 [x23] w22 fun r24 w25 =>
 gd (okCell r24) (
 onM (AW.putCells w25 b19 (0 + 8) [r24]) fun w26 =>
 onM (ld w26 b19 (0 + 9)) fun x27 =>
 Cl Tryz.prog hk 47 [x27] w26 fun r28 w29 =>
 gd (okCell r28) (
 onM (AW.putCells w29 b19 (0 + 9) [r28]) fun w30 =>
 onM (ld w30 b19 (0 + 11)) fun x31 =>
 onE (appS 1 1 w30 .nilslice x31) fun x32 w33 =>
 gd (okCell x32) (
 onM (AW.putCells w33 b19 (0 + 11) [x32]) fun w34 =>
 onM (ld w34 b19 (0 + 12)) fun x35 =>
 Cl Tryz.prog hk 48 [x35] w34 fun r36 w37 =>
 gd (okCell r36) (
 onM (AW.putCells w37 b19 (0 + 12) [r36]) fun w38 =>
 onM (ld w38 b19 (0 + 13)) fun x39 =>
 Cl Tryz.prog hk 48 [x39] w38 fun r40 w41 =>
 gd (okCell r40) (
 onM (AW.putCells w41 b19 (0 + 13) [r40]) fun w42 =>
 onM (ld w42 b19 (0 + 14)) fun x43 =>
 Cl Tryz.prog hk 48 [x43] w42 fun r44 w45 =>
 gd (okCell r44) (
 onM (AW.putCells w45 b19 (0 + 14) [r44]) fun w46 =>
 onM (ld w46 b19 (0 + 18)) fun x47 =>
 onE (appS 3 24 w46 .nilslice x47) fun x48 w49 =>
 gd (okCell x48) (
 onM (AW.putCells w49 b19 (0 + 18) [x48]) fun w50 =>
 ∃ x51 x52 x53 x54 x55 x56 x57 x58 : Int,∃ x59 x60 : AV,∃ x61 : Int,∃ x62 x63 x64 x65 : AV,∃ x66 x67 x68 : Int,∃ x69 : AV,ldN 19 w50 b19 0 = some (.agg [(ii x51),(ii x52),(.int .u8 x53),(ii x54),(ii x55),(ii x56),(ii x57),(ii x58),x59,x60,(ii x61),x62,x63,x64,x65,(ii x66),(ii x67),(ii x68),x69]) ∧
 gd (List.all [(ii x51),(ii x52),(.int .u8 x53),(ii x54),(ii x55),(ii x56),(ii x57),(ii x58),x59,x60,(ii x61),x62,x63,x64,x65,(ii x66),(ii x67),(ii x68),x69] okCell) (
 onM (AW.putCells w50 b21 0 [(ii x51),(ii x52),(.int .u8 x53),(ii x54),(ii x55),(ii x56),(ii x57),(ii x58),x59,x60,(ii x61),x62,x63,x64,x65,(ii x66),(ii x67),(ii x68),x69]) fun w70 =>
 ∃ res71 res72 res73 res74 res75 res76 res77 res78 : Int,∃ res79 res80 : AV,∃ res81 : Int,∃ res82 res83 res84 res85 : AV,∃ res86 res87 res88 : Int,∃ res89 : AV,ldN 19 w70 b21 0 = some (.agg [(ii res71),(ii res72),(.int .u8 res73),(ii res74),(ii res75),(ii res76),(ii res77),(ii res78),res79,res80,(ii res81),res82,res83,res84,res85,(ii res86),(ii res87),(ii res88),res89]) ∧
 K (.agg [(ii res71),(ii res72),(.int .u8 res73),(ii res74),(ii res75),(ii res76),(ii res77),(ii res78),res79,res80,(ii res81),res82,res83,res84,res85,(ii res86),(ii res87),(ii res88),res89]) w70)))))))))
def adv11 : Adv := (.sq .lf (.sq .lf (.sq .lf (.sq .lf (.sq .lf (.sq .lf (.sq .lf (.sq .lf (.sq .lf (.sq .lf (.sq .lf .lf)))))))))))
set_option maxRecDepth 100000 in
theorem in11 {hk : Hook} {n0 n1 n2 n3 n4 n5 n6 n7 : Int} {n8 n9 : AV} {n10 : Int} {n11 n12 n13 n14 : AV} {n15 n16 n17 : Int} {n18 : AV} {w : AW} {K : AV → AW → Prop} (hn : hk 11 [(.agg [(ii n0),(ii n1),(.int .u8 n2),(ii n3),(ii n4),(ii n5),(ii n6),(ii n7),n8,n9,(ii n10),n11,n12,n13,n14,(ii n15),(ii n16),(ii n17),n18])] w = none) (h : F11 hk n0 n1 n2 n3 n4 n5 n6 n7 n8 n9 n10 n11 n12 n13 n14 n15 n16 n17 n18 w K) : Cl Tryz.prog hk 11 [(.agg [(ii n0),(ii n1),(.int .u8 n2),(ii n3),(ii n4),(ii n5),(ii n6),(ii n7),n8,n9,(ii n10),n11,n12,n13,n14,(ii n15),(ii n16),(ii n17),n18])] w K :=
 fnS_ok (adv := adv11) Tryz.func11 hn (Eq.mpr (by kernel_rfl) h)
def F46 (hk : Hook) (l_0 : AV) (w : AW) (K : AV → AW → Prop) : Prop :=
 onE (appS 1 1 w .nilslice l_0) fun x1 w2 =>
 K x1 w2
def adv46 : Adv := (.sq .lf (.sq .lf (.sq .lf .lf)))
set_option maxRecDepth 100000 in
theorem in46 {hk : Hook} {l_0 : AV} {w : AW} {K : AV → AW → Prop} (hn : hk 46 [l_0] w = none) (h : F46 hk l_0 w K) : Cl Tryz.prog hk 46 [l_0] w K :=
 fnS_ok (adv := adv46) Tryz.func46 hn (Eq.mpr (by kernel_rfl) h)
def F47 (hk : Hook) (l_0 : AV) (w : AW) (K : AV → AW → Prop) : Prop :=
 loopP [.nilslice,(ii 0)] w fun R1 l_2 w3 => ∃ out4 : AV,∃ i5 : Int,l_2 = [out4,(ii i5)] ∧ ∀ _ : Nat → AV,
  ∃ x6 : Int,lenS l_0 = some (ii x6) ∧
  ifT (decide (i5 < x6)) (atP (idxS 2 l_0 (ii i5)) fun b7 o8 =>
  ∃ x9 : Int,ld w3 b7 (o8 + 0) = some (ii x9) ∧
  atP (idxS 2 l_0 (ii i5)) fun b10 o11 =>
  onM (ld w3 b10 (o11 + 1)) fun x12 =>
  Cl Tryz.prog hk 46 [x12] w3 fun r13 w14 =>
  gd (okCell r13) (
  gd (List.all [(ii x9),r13] okCell) (
  new w14 [(ii x9),r13] fun b15 w16 =>
  ld w16 b7 (o8 + 0) = some (ii x9) ∧
  onE (appS 2 32 w16 out4 (.slice b15 0 1 1 none)) fun x17 w18 =>
  R1 [x17,(ii (wi (i5 + 1)))] w18)))
  (K out4 w3)
def adv47 : Adv := (.sq .lf (.sq .lf (.sq (.sq .lf (.bl (.lp [(3,.sc (.opq)),(4,.sc (.int .i64))] (.sq (.sq .lf (.cd .lf .lf)) (.sq (.bl .lf) .lf))))) (.sq .lf .lf))))
set_option maxRecDepth 100000 in
theorem in47 {hk : Hook} {l_0 : AV} {w : AW} {K : AV → AW → Prop} (hn : hk 47 [l_0] w = none) (h : F47 hk l_0 w K) : Cl Tryz.prog hk 47 [l_0] w K :=
 fnS_ok (adv := adv47) Tryz.func47 hn (Eq.mpr (by kernel_rfl) h)
def F48 (hk : Hook) (l_0 : AV) (w : AW) (K : AV → AW → Prop) : Prop :=
 onE (appS 1 8 w .nilslice l_0) fun x1 w2 =>
 K x1 w2
def adv48 : Adv := (.sq .lf (.sq .lf (.sq .lf .lf)))
set_option maxRecDepth 100000 in
theorem in48 {hk : Hook} {l_0 : AV} {w : AW} {K : AV → AW → Prop} (hn : hk 48 [l_0] w = none) (h : F48 hk l_0 w K) : Cl Tryz.prog hk 48 [l_0] w K :=
 fnS_ok (adv := adv48) Tryz.func48 hn (Eq.mpr (by kernel_rfl) h)
end Go.Proofs.YtghoifolghelnaaGreat
/-
 New,of the program and of the reference.
 No condition beyond those that each theorem names.
-/
set_option linter.unusedSimpArgs false
open Go.Sx
set_option linter.unusedVariables false
set_option linter.unusedSimpArgs false
namespace Go.Proofs.YtghoifolghelnaaGreat
def toF (d : Int) : Int := 10 + Int.tmod (Int.tmod d 10 + 10) 10
theorem tmod10 (d : Int) : -10 < Int.tmod d 10 ∧ Int.tmod d 10 < 10 := ⟨Int.lt_tmod_of_pos d (by decide),Int.tmod_lt_of_pos d (by decide)⟩
theorem toF_eq (d : Int) : toF d = if Int.tmod d 10 < 0 then 10 + (Int.tmod d 10 + 10) else 10 + Int.tmod d 10 := by
 have := tmod10 d
 unfold toF
 rw [Int.tmod_eq_emod_of_nonneg (a := Int.tmod d 10 + 10) (by omega)]
 split <;> omega
theorem repl_map {α : Type} {f : α → AV} {x : α} : ∀ k, repl k [f x] = (List.replicate k x).map f
  | 0 => rfl
  | k + 1 => by
    have := repl_map (f := f) (x := x) k
    show [f x] ++ repl k [f x] = _
    rw [this, List.replicate_succ, List.map_cons]; rfl
theorem gds {k c : Nat} (h : k ≤ 9) (hc : c ≤ 8) : (Nat.ble k k && Nat.ble (k * c) (2 ^ 47) && Nat.blt k (2 ^ 63) && true) = true := by
 have : k * c ≤ 9 * 8 := Nat.mul_le_mul h hc
 have h1 : Nat.ble k k = true := by rw [Nat.ble_eq]; exact Nat.le_refl _
 have h2 : Nat.ble (k * c) (2 ^ 47) = true := by rw [Nat.ble_eq]; omega
 have h3 : Nat.blt k (2 ^ 63) = true := by rw [Nat.blt_eq]; omega
 rw [h1,h2,h3]; rfl
def blankN (n : Nd) : Nd := { n with votes := List.replicate n.size.toNat false,next := List.replicate n.size.toNat 0,mtch := List.replicate n.size.toNat 0,seen := List.replicate n.size.toNat 0,round := 0,reads := [] }
def newN (id size d : Int) : Nd := blankN ⟨id,size,1,0,0,0,0,0,[],[],0,[],[],[],[],0,0,toF d,[]⟩
def newE (id size : Int) : Int := if size < 1 then 2 else if 9 < size then 2 else if id < 1 then 2 else if size < id then 2 else 0
def NewR (id size d : Int) (w : AW) (r : AV) : Prop := (newE id size ≠ 0 ∧ r = .tup [.agg (ndC zNd zSl),ii (newE id size)]) ∨
 (newE id size = 0 ∧ ∃ s',r = .tup [.agg (ndC (newN id size d) s'),ii 0] ∧ NR TA w (newN id size d) s')
section
variable {hk : Hook} {A A' B : Nat → Prop} {I : List Nat} {w0 w w' : AW} {K : AV → AW → Prop} {n : Nd} {s : Sl} {v out : AV} {W bs bm bn bv : Nat} {ms : List Msg} {dr : Int} {L : Obs} {U U' : List Nat}
theorem s71 {d : Int} (hh : HK hk) (hK : K (ii (toF d)) w) : Cl Tryz.prog hk 71 [ii d] w K := by
 refine in71 (hh.no _ _ _ (by decide) (by decide)) ?_
 unfold F71 be
 have h1 := tmod10 d
 rw [wi_eq (x := Int.tmod d 10 + 10) (by omega) (by omega)]
 have h2 := tmod10 (Int.tmod d 10 + 10)
 show K (ii (wi (10 + Int.tmod (Int.tmod d 10 + 10) 10))) w
 rw [wi_eq (by omega) (by omega)]
 exact hK
theorem s72 {d : Int} (hh : HK hk) (hK : K (ii (toF d)) w) : Cl Tryz.prog hk 72 [ii d] w K := by
 refine in72 (hh.no _ _ _ (by decide) (by decide)) ?_
 unfold F72 be
 have h1 := tmod10 d
 rw [toF_eq] at hK
 refine ifT_d (fun hc => ?_) fun hc => ?_
 ·rw [if_pos hc] at hK
  show K (ii (wi (10 + wi (Int.tmod d 10 + 10)))) w
  rw [wi_eq (x := Int.tmod d 10 + 10) (by omega) (by omega),wi_eq (by omega) (by omega)]
  exact hK
 ·rw [if_neg hc] at hK
  rw [wi_eq (by omega) (by omega)]
  exact hK
theorem box_bools {b k : Nat} {L : Obs} {i : Nat} (st : Ow TA [] w0 w L) (hA : ∀ c,w0.size ≤ c → A c) (e : nth L i = some (b,.row (repl k [.bool false]))) : (rL rT).rd A w [.slice b 0 k k none] (List.replicate k false) := by
 have hb : Box w b _ := (st.box _ (nth_mem e) rfl).1
 exact Box.sl hb (hA _ ((st.box _ (nth_mem e) rfl).2.1.resolve_right (by simp))) (by rw [List.length_replicate]) (Chk.bools.2 (repl_map (f := AV.bool) (x := false) k)) (Nat.le_refl _)
theorem box_ints {b k : Nat} {L : Obs} {i : Nat} (st : Ow TA [] w0 w L) (hA : ∀ c,w0.size ≤ c → A c) (e : nth L i = some (b,.row (repl k [ii 0]))) : (rL rI).rd A w [.slice b 0 k k none] (List.replicate k 0) := by
 have hb : Box w b _ := (st.box _ (nth_mem e) rfl).1
 exact Box.sl hb (hA _ ((st.box _ (nth_mem e) rfl).2.1.resolve_right (by simp))) (by rw [List.length_replicate]) (Chk.ints.2 (repl_map (f := AV.int .i64) (x := 0) k)) (Nat.le_refl _)
abbrev Fz (B : Nat → Prop) (w : AW) : Nat → Prop := fun c => B c ∨ w.size ≤ c
theorem NR.ar (h : NR B w n s) (hm : Mem w) (st : Ow TA [] w w' L) : NR (fz B (ids L)) w' n s := ⟨st.arg hm h.snap,st.arg hm h.log,st.arg hm h.votes,st.arg hm h.next,st.arg hm h.mtch,st.arg hm h.seen,st.arg hm h.reads⟩
theorem NR.inF {w1 : AW} (h : NR (fz B U) w n s) : NR (Fz B w1) w n s := h.xa ⟨fun _ _ _ a b d => ⟨.inl a.1,.inl b.1,d⟩⟩
theorem NR.ou (st : Ow TA I w0 w L) (h : NR (Fz (fz B (ids L)) w) w' n s) (hB : ∀ c,w.size ≤ c → B c) : NR (fz B (ids L)) w' n s := h.xa ⟨fun c f _ a b d => ⟨a.elim id fun hc => ⟨hB c hc,(st.P.new c hc).2⟩,b.elim id fun hc => ⟨hB f hc,(st.P.new f hc).2⟩,d⟩⟩
theorem Rp.rd.ou {α : Type} {r : Rp α} {cs : List AV} {x : α} (st : Ow TA I w0 w L) (h : r.rd (Fz (fz B (ids L)) w) w' cs x) (hB : ∀ c,w.size ≤ c → B c) : r.rd (fz B (ids L)) w' cs x := h.xa ⟨fun c f _ a b d => ⟨a.elim id fun hc => ⟨hB c hc,(st.P.new c hc).2⟩,b.elim id fun hc => ⟨hB f hc,(st.P.new f hc).2⟩,d⟩⟩
set_option maxRecDepth 20000 in
theorem s25 {id size d : Int} (hh : HK hk) (hm : Mem w) (hpos : 0 < w.size) (hK : ∀ r w',Fr w.size w w' → NewR id size d w' r → K r w') : Cl Tryz.prog hk 25 [ii id,ii size,ii d] w K := by
 refine in25 (hh.no _ _ _ (by decide) (by decide)) ?_
 unfold F25
 have pv : Pv TA w := ⟨hm,hpos,fun _ _ => trivial⟩
 refine pv.st.new' fun b22 w23 st23 x23 => ?_
 have st23 : Ow TA [] w w23 [(b22,.row (ndC zNd zSl))] := st23
 have err : newE id size = 2 → onM (AW.putCells w23 b22 0 (ndC zNd zSl)) fun w_46 =>
  ∃ res_47 res_48 res_49 res_50 res_51 res_52 res_53 res_54 : Int,∃ res_55 res_56 : AV,∃ res_57 : Int,∃ res_58 res_59 res_60 res_61 : AV,∃ res_62 res_63 res_64 : Int,∃ res_65 : AV,ldN 19 w_46 b22 0 = some (.agg [(ii res_47),(ii res_48),(.int .u8 res_49),(ii res_50),(ii res_51),(ii res_52),(ii res_53),(ii res_54),res_55,res_56,(ii res_57),res_58,res_59,res_60,res_61,(ii res_62),(ii res_63),(ii res_64),res_65]) ∧
  K (.tup [(.agg [(ii res_47),(ii res_48),(.int .u8 res_49),(ii res_50),(ii res_51),(ii res_52),(ii res_53),(ii res_54),res_55,res_56,(ii res_57),res_58,res_59,res_60,res_61,(ii res_62),(ii res_63),(ii res_64),res_65]),(ii 2)]) w_46 := by
  intro he
  refine st23.put 0 rfl (Nat.le_of_ble_eq_true rfl) fun w28 st28 x28 => ⟨_,_,_,_,_,_,_,_,_,_,_,_,_,_,_,_,_,_,_,st28.ldN 0 rfl rfl rfl,?_⟩
  exact hK _ _ st28.fr (.inl ⟨by rw [he]; decide,by rw [he]⟩)
 refine ifT_d (fun h => err (by unfold newE; rw [if_pos h])) fun h1 => ifT_d (fun h => err (by unfold newE; rw [if_neg h1,if_pos h])) fun h2 => ifT_d (fun h => err (by unfold newE; rw [if_neg h1,if_neg h2,if_pos h])) fun h3 => ifT_d (fun h => err (by unfold newE; rw [if_neg h1,if_neg h2,if_neg h3,if_pos h])) fun h4 => ?_
 have h0 : newE id size = 0 := by unfold newE; rw [if_neg h1,if_neg h2,if_neg h3,if_neg h4]
 obtain ⟨k,rfl⟩ := Int.eq_ofNat_of_zero_le (a := size) (by omega)
 have hk9 : k ≤ 9 := by omega
 refine onM_s (v := k) rfl (onM_s (v := k) rfl (gd_t (gds hk9 (by decide)) (st23.new' fun b1 w1 st1 x1 => onM_s (v := k) rfl (onM_s (v := k) rfl (gd_t (gds hk9 (by decide)) (st1.new' fun b2 w2 st2 x2 => onM_s (v := k) rfl (onM_s (v := k) rfl (gd_t (gds hk9 (by decide)) (st2.new' fun b3 w3 st3 x3 => onM_s (v := k) rfl (onM_s (v := k) rfl (gd_t (gds hk9 (by decide)) (st3.new' fun b4 w4 st4 x4 => ?_))))))))))))
 refine s71 hh ⟨_,rfl,st4.put 4 rfl (Nat.le_of_ble_eq_true rfl) fun w5 st5 x5 => ⟨_,_,_,_,_,_,_,_,_,_,_,_,_,_,_,_,_,_,_,st5.ldN 4 rfl rfl rfl,?_⟩⟩
 refine hK _ _ st5.fr (.inr ⟨h0,⟨.nilslice,.nilslice,.slice b1 0 k k none,.slice b2 0 k k none,.slice b3 0 k k none,.slice b4 0 k k none,.nilslice⟩,rfl,⟨Rp.rd.nil,Rp.rd.nil,box_bools (i := 3) st5 (fun _ _ => trivial) rfl,box_ints (i := 2) st5 (fun _ _ => trivial) rfl,box_ints (i := 1) st5 (fun _ _ => trivial) rfl,box_ints (i := 0) st5 (fun _ _ => trivial) rfl,Rp.rd.nil⟩⟩)
theorem s73 (hh : HK hk) (hm : Mem w) (hpos : 0 < w.size) (h : NR B w n s) (hsz : 1 ≤ n.size ∧ n.size ≤ 9) (hK : ∀ s' w',Fr w.size w w' → NR (Fz B w) w' (blankN n) s' → K (.agg (ndC (blankN n) s')) w') : Cl Tryz.prog hk 73 [.agg (ndC n s)] w K := by
 refine in73 (hh.no _ _ _ (by decide) (by decide)) ?_
 unfold F73
 have pv : Pv TA w := ⟨hm,hpos,fun _ _ => trivial⟩
 refine gd_t h.ok (pv.st.new' fun b20 w21 st21 x21 => st21.new' fun b22 w23 st23 x23 => ?_)
 have st23 : Ow TA [] w w23 [(b22,.row (ndC zNd zSl)),(b20,.row (ndC n s))] := st23
 obtain ⟨k,hk'⟩ := Int.eq_ofNat_of_zero_le (a := n.size) (by omega)
 have hk9 : k ≤ 9 := by omega
 have ht : n.size.toNat = k := by omega
 refine ⟨n.size,st23.ld 1 rfl rfl,?_⟩
 rw [hk']
 refine onM_s (v := k) rfl (onM_s (v := k) rfl (gd_t (gds hk9 (by decide)) (st23.new' fun b1 w1 st1 x1 => st1.put 2 rfl (Nat.le_of_ble_eq_true rfl) fun w2 st2 x2 => ⟨n.size,st2.ld 2 rfl rfl,?_⟩)))
 rw [hk']
 refine onM_s (v := k) rfl (onM_s (v := k) rfl (gd_t (gds hk9 (by decide)) (st2.new' fun b2 w3 st3 x3 => st3.put 3 rfl (Nat.le_of_ble_eq_true rfl) fun w4 st4 x4 => ⟨n.size,st4.ld 3 rfl rfl,?_⟩)))
 rw [hk']
 refine onM_s (v := k) rfl (onM_s (v := k) rfl (gd_t (gds hk9 (by decide)) (st4.new' fun b3 w5 st5 x5 => st5.put 4 rfl (Nat.le_of_ble_eq_true rfl) fun w6 st6 x6 => ⟨n.size,st6.ld 4 rfl rfl,?_⟩)))
 rw [hk']
 refine onM_s (v := k) rfl (onM_s (v := k) rfl (gd_t (gds hk9 (by decide)) (st6.new' fun b4 w7 st7 x7 => st7.put 5 rfl (Nat.le_of_ble_eq_true rfl) fun w8 st8 x8 => ?_)))
 have st8 : Ow TA [] w w8 [(b4,.row (repl k [ii 0])),(b3,.row (repl k [ii 0])),(b2,.row (repl k [ii 0])),(b1,.row (repl k [.bool false])),(b22,.row (ndC zNd zSl)),(b20,.row (ndC n { s with votes := .slice b1 0 k k none,next := .slice b2 0 k k none,mtch := .slice b3 0 k k none,seen := .slice b4 0 k k none }))] := st8
 refine st8.put 5 rfl (Nat.le_of_ble_eq_true rfl) fun w9 st9 x9 => st9.put 5 rfl (Nat.le_of_ble_eq_true rfl) fun w10 st10 x10 => ?_
 have st10 : Ow TA [] w w10 [(b4,.row (repl k [ii 0])),(b3,.row (repl k [ii 0])),(b2,.row (repl k [ii 0])),(b1,.row (repl k [.bool false])),(b22,.row (ndC zNd zSl)),(b20,.row (ndC (blankN n) { s with votes := .slice b1 0 k k none,next := .slice b2 0 k k none,mtch := .slice b3 0 k k none,seen := .slice b4 0 k k none,reads := .nilslice }))] := st10
 have ok1 := h.snap.ok1
 have ok2 := h.log.ok1
 refine ⟨_,_,_,_,_,_,_,_,_,_,_,_,_,_,_,_,_,_,_,st10.ldN 5 rfl rfl rfl,gd_t (by simp only [List.all_cons,ok1,ok2]; rfl) (st10.put 4 rfl (Nat.le_of_ble_eq_true rfl) fun w11 st11 x11 => ⟨_,_,_,_,_,_,_,_,_,_,_,_,_,_,_,_,_,_,_,st11.ldN 4 rfl rfl rfl,?_⟩)⟩
 refine hK { s with votes := .slice b1 0 k k none,next := .slice b2 0 k k none,mtch := .slice b3 0 k k none,seen := .slice b4 0 k k none,reads := .nilslice } w11 st11.fr ⟨(h.ar hm st11).inF.snap,(h.ar hm st11).inF.log,?_,?_,?_,?_,Rp.rd.nil⟩
 ·show (rL rT).rd (Fz B w) w11 [.slice b1 0 k k none] (List.replicate n.size.toNat false); rw [ht]; exact box_bools (i := 3) st11 (fun _ h => .inr h) rfl
 ·show (rL rI).rd (Fz B w) w11 [.slice b2 0 k k none] (List.replicate n.size.toNat 0); rw [ht]; exact box_ints (i := 2) st11 (fun _ h => .inr h) rfl
 ·show (rL rI).rd (Fz B w) w11 [.slice b3 0 k k none] (List.replicate n.size.toNat 0); rw [ht]; exact box_ints (i := 1) st11 (fun _ h => .inr h) rfl
 ·show (rL rI).rd (Fz B w) w11 [.slice b4 0 k k none] (List.replicate n.size.toNat 0); rw [ht]; exact box_ints (i := 0) st11 (fun _ h => .inr h) rfl
set_option maxRecDepth 20000 in
theorem s26 {id size d : Int} (hh : HK hk) (hm : Mem w) (hpos : 0 < w.size) (hK : ∀ r w',Fr w.size w w' → NewR id size d w' r → K r w') : Cl Tryz.prog hk 26 [ii id,ii size,ii d] w K := by
 refine in26 (hh.no _ _ _ (by decide) (by decide)) ?_
 unfold F26
 have pv : Pv TA w := ⟨hm,hpos,fun _ _ => trivial⟩
 refine pv.st.new' fun b22 w23 st23 x23 => ?_
 have st23 : Ow TA [] w w23 [(b22,.row (ndC zNd zSl))] := st23
 have err : newE id size = 2 → onM (AW.putCells w23 b22 0 (ndC zNd zSl)) fun w_46 =>
  ∃ res_47 res_48 res_49 res_50 res_51 res_52 res_53 res_54 : Int,∃ res_55 res_56 : AV,∃ res_57 : Int,∃ res_58 res_59 res_60 res_61 : AV,∃ res_62 res_63 res_64 : Int,∃ res_65 : AV,ldN 19 w_46 b22 0 = some (.agg [(ii res_47),(ii res_48),(.int .u8 res_49),(ii res_50),(ii res_51),(ii res_52),(ii res_53),(ii res_54),res_55,res_56,(ii res_57),res_58,res_59,res_60,res_61,(ii res_62),(ii res_63),(ii res_64),res_65]) ∧
  K (.tup [(.agg [(ii res_47),(ii res_48),(.int .u8 res_49),(ii res_50),(ii res_51),(ii res_52),(ii res_53),(ii res_54),res_55,res_56,(ii res_57),res_58,res_59,res_60,res_61,(ii res_62),(ii res_63),(ii res_64),res_65]),(ii 2)]) w_46 := by
  intro he
  refine st23.put 0 rfl (Nat.le_of_ble_eq_true rfl) fun w28 st28 x28 => ⟨_,_,_,_,_,_,_,_,_,_,_,_,_,_,_,_,_,_,_,st28.ldN 0 rfl rfl rfl,?_⟩
  exact hK _ _ st28.fr (.inl ⟨by rw [he]; decide,by rw [he]⟩)
 refine ifT_d (fun h => err (by unfold newE; rw [if_pos h])) fun h1 => ifT_d (fun h => err (by unfold newE; rw [if_neg h1,if_pos h])) fun h2 => ifT_d (fun h => err (by unfold newE; rw [if_neg h1,if_neg h2,if_pos h])) fun h3 => ifT_d (fun h => err (by unfold newE; rw [if_neg h1,if_neg h2,if_neg h3,if_pos h])) fun h4 => ?_
 have h0 : newE id size = 0 := by unfold newE; rw [if_neg h1,if_neg h2,if_neg h3,if_neg h4]
 refine s72 hh ⟨_,rfl,st23.new' fun b4 w4 st4 x4 => st4.put 0 rfl (Nat.le_of_ble_eq_true rfl) fun w5 st5 x5 => ⟨_,_,_,_,_,_,_,_,_,_,_,_,_,_,_,_,_,_,_,st5.ldN 0 rfl rfl rfl,?_⟩⟩
 refine s73 (B := fz TA (ids [(b4,.row []),(b22,.row [])])) (n := ⟨id,size,1,0,0,0,0,0,[],[],0,[],[],[],[],0,0,toF d,[]⟩) (s := zSl) hh st5.mem st5.P0.pos ⟨Rp.rd.nil,Rp.rd.nil,Rp.rd.nil,Rp.rd.nil,Rp.rd.nil,Rp.rd.nil,Rp.rd.nil⟩ ⟨by show 1 ≤ size; omega,by show size ≤ 9; omega⟩ fun s6 w6 f6 nr6 => ?_
 obtain ⟨st6,x6⟩ := st5.call f6
 have nr6 : NR (fz TA [b4,b22]) w6 (newN id size d) s6 := NR.ou st5 nr6 fun _ _ => trivial
 refine ⟨_,_,_,_,_,_,_,_,_,_,_,_,_,_,_,_,_,_,_,rfl,gd_t nr6.ok (st6.put 1 rfl (Nat.le_of_ble_eq_true rfl) fun w7 st7 x7 => ⟨_,_,_,_,_,_,_,_,_,_,_,_,_,_,_,_,_,_,_,st7.ldN 1 rfl rfl rfl,?_⟩)⟩
 exact hK _ _ st7.fr (.inr ⟨h0,s6,rfl,(nr6.xa x7.xw.xa).outs⟩)
end
end Go.Proofs.YtghoifolghelnaaGreat
/-
 The reference's copies of nodes.
 No condition beyond those that each theorem names.
-/
set_option linter.unusedSimpArgs false
open Go.Sx
set_option linter.unusedVariables false
set_option linter.unusedSimpArgs false
namespace Go.Proofs.YtghoifolghelnaaGreat
section
variable {hk : Hook} {A A' B : Nat → Prop} {I : List Nat} {w0 w w' : AW} {K : AV → AW → Prop} {n : Nd} {s : Sl} {v out : AV} {W bs bm bn bv : Nat} {ms : List Msg} {dr : Int} {L : Obs} {U U' : List Nat}
abbrev Nw (w : AW) : Nat → Prop := fun c => w.size ≤ c
theorem s46 {l : Byts} (hh : HK hk) (hm : Mem w) (h : (rL rU).rd A w [v] l) (hl : l.length ≤ 140737488351232) (hK : ∀ v' w',Fr w.size w w' → Cln rU A w w' v v' l → K v' w') : Cl Tryz.prog hk 46 [v] w K := by
 refine in46 (hh.no _ _ _ (by decide) (by decide)) ?_
 unfold F46
 exact copy_of hm h rfl (by decide) (by omega) (by decide) hK
theorem s48 {l : List Int} (hh : HK hk) (hm : Mem w) (h : (rL rI).rd A w [v] l) (hl : l.length * 8 ≤ 140737488351232) (hK : ∀ v' w',Fr w.size w w' → Cln rI A w w' v v' l → K v' w') : Cl Tryz.prog hk 48 [v] w K := by
 refine in48 (hh.no _ _ _ (by decide) (by decide)) ?_
 unfold F48
 exact copy_of hm h rfl (by decide) (by omega) (by decide) hK
theorem s47 {l : List Ent} (hh : HK hk) (hm : Mem w) (hpos : 0 < w.size) (h : (rL rE).rd A w [v] l) (hl : l.length < 2 ^ 38) (hd : ∀ e ∈ l,e.2.length ≤ 140737488351232) (hK : ∀ v' w',Fr w.size w w' → Ga rE (Nw w) w w' v' l → K v' w') : Cl Tryz.prog hk 47 [v] w K := by
 refine in47 (hh.no _ _ _ (by decide) (by decide)) ?_
 unfold F47
 have pv : Pv (Nw w) w := ⟨hm,hpos,fun _ h => h⟩
 refine loopP_ind (fun m lv w3 => ∃ (i : Nat) (o : AV),i ≤ l.length ∧ m = l.length - i ∧ lv = [o,ii i] ∧ Ow (Nw w) [] w w3 [] ∧ Ga rE (fz (Nw w) []) w w3 o (l.take i)) ?_ ⟨0,.nilslice,Nat.zero_le _,rfl,rfl,pv.st,by simpa using Ga.nil⟩
 rintro m lv w3 ⟨i,o,hi,rfl,rfl,st3,g3⟩ R ih
 have h3 := h.xa (xa_fr hm st3.fr)
 refine ⟨_,_,rfl,fun _ => ⟨_,h.len',ifT_d (fun hc => ?_) fun hc => ?_⟩⟩
 ·have hil : i < l.length := by omega
  refine ent_at h3 hil fun b7 o7 u _ ho _ _ => ⟨_,ho,ent_at h3 hil fun b8 o8 u hu _ hu2 _ => onM_s hu2 ?_⟩
  refine s46 hh st3.mem hu (hd _ (List.getElem_mem hil)) fun v4 w4 f4 h4 => ?_
  obtain ⟨st4,x4⟩ := st3.call f4
  have hr4 : (rL rU).rd (fz (Nw w) []) w4 [v4] l[i].2 := h4.rd (fun c hc => st3.P.new c hc) Chk.flU
  refine gd_t hr4.ok1 (gd_t (by simp only [List.all_cons,hr4.ok1]; rfl) (new_of st4.mem fun w5 f5 b5 z5 => ⟨ld_fr (ld_fr ho st3.mem f4) f4.mem f5,?_⟩))
  obtain ⟨st5,x5⟩ := st4.call f5
  have hsz5 := st4.fr.size
  have hx : (rL rE).rd (fz (Nw w) []) w5 [.slice w4.size 0 1 1 none] [l[i]] := Box.rd1 b5 ⟨hsz5,by simp⟩ ⟨v4,rfl,hr4.x x5⟩
  have g5 : Ga rE (fz (Nw w) []) w w5 o (l.take i) := Ga.x' (Ga.x' g3 x4 st3) x5 st4
  refine Ow.app (r := rE) st5 g5 hx (by decide) (fun c hc => by have := st5.fr.size; show w.size ≤ c; omega) (by rw [List.length_take]; simp; omega) (by rw [List.length_take]; simp; omega) fun o6 w6 st6 x6 g6 => ?_
  exact ih (l.length - (i + 1)) (by omega) _ _ ⟨i + 1,o6,hil,rfl,by rw [wi_eq (by omega) (by omega)]; rfl,st6,by rw [List.take_succ_eq_append_getElem hil]; exact g6⟩
 ·have : l.take i = l := List.take_of_length_le (by omega)
  rw [this] at g3
  exact hK _ _ st3.fr g3.out
structure Bd (n : Nd) : Prop where
 snap : n.snap.length ≤ 140737488351232
 log : n.log.length < 2 ^ 38
 votes : n.votes.length ≤ 140737488351232
 next : n.next.length * 8 ≤ 140737488351232
 mtch : n.mtch.length * 8 ≤ 140737488351232
 seen : n.seen.length * 8 ≤ 140737488351232
 reads : n.reads.length * 24 ≤ 140737488351232
structure CN (w w' : AW) (n : Nd) (s : Sl) (b : Nat) : Prop where
 le : w.size ≤ b
 box : Box w' b (n.seen.map (AV.int .i64))
 eq : s.seen = .slice b 0 n.seen.length n.seen.length (some 1)
 snap : (rL rU).rd (fz (Nw w) [b]) w' [s.snap] n.snap
 log : (rL rE).rd (fz (Nw w) [b]) w' [s.log] n.log
 votes : (rL rT).rd (fz (Nw w) [b]) w' [s.votes] n.votes
 next : (rL rI).rd (fz (Nw w) [b]) w' [s.next] n.next
 mtch : (rL rI).rd (fz (Nw w) [b]) w' [s.mtch] n.mtch
 reads : Ga rG (fz (Nw w) [b]) w w' s.reads n.reads
theorem Chk.flT {A A' : Nat → Prop} {w w' : AW} {cs : List AV} {l : List Bool} (h : Chk rT A w cs l) : Chk rT A' w' cs l := Chk.fl (fun h => h) h
set_option maxRecDepth 20000 in
theorem s11 (hh : HK hk) (hm : Mem w) (hpos : 0 < w.size) (h : NR B w n s) (sm : Sm n) (hd : ∀ e ∈ n.log,e.2.length ≤ 140737488351232) (hb : Bd n) (hK : ∀ s' w',Fr w.size w w' → NR (Nw w) w' n s' → (0 < n.seen.length → ∃ b,CN w w' n s' b) → K (.agg (ndC n s')) w') : Cl Tryz.prog hk 11 [.agg (ndC n s)] w K := by
 refine in11 (hh.no _ _ _ (by decide) (by decide)) ?_
 unfold F11
 obtain ⟨l1,l2,l3,l4,l5,l6,l7⟩ := hb
 have pv : Pv (Nw w) w := ⟨hm,hpos,fun _ h => h⟩
 refine gd_t h.ok (pv.st.new' fun b20 w21 st21 x21 => st21.new' fun b22 w23 st23 x23 => ?_)
 have st23 : Ow (Nw w) [] w w23 [(b22,.row (ndC zNd zSl)),(b20,.row (ndC n s))] := st23
 refine onM_s (v := s.snap) (st23.ld 1 rfl rfl) (s46 hh st23.mem (st23.arg hm h.snap) l1 fun v1 w1 f1 h1 => ?_)
 obtain ⟨st1,x1⟩ := st23.call f1
 have r1 : (rL rU).rd (fz (Nw w) [b22,b20]) w1 [v1] n.snap := h1.rd (fun c hc => st23.P.new c hc) Chk.flU
 refine gd_t r1.ok1 (st1.put 1 rfl (Nat.le_of_ble_eq_true rfl) fun w2 st2 x2 => ?_)
 have st2 : Ow (Nw w) [] w w2 [(b22,.row (ndC zNd zSl)),(b20,.row (ndC n { s with snap := v1 }))] := st2
 refine onM_s (v := s.log) (st2.ld 1 rfl rfl) (s47 hh st2.mem st2.P0.pos (st2.arg hm h.log) l2 hd fun v3 w3 f3 g3 => ?_)
 obtain ⟨st3,x3⟩ := st2.call f3
 have r3 : (rL rE).rd (fz (Nw w) [b22,b20]) w3 [v3] n.log := (g3.rd (by decide)).le (fun c _ hc => st2.P.new c hc) st3.mem
 refine gd_t r3.ok1 (st3.put 1 rfl (Nat.le_of_ble_eq_true rfl) fun w4 st4 x4 => ?_)
 have st4 : Ow (Nw w) [] w w4 [(b22,.row (ndC zNd zSl)),(b20,.row (ndC n { s with snap := v1,log := v3 }))] := st4
 refine onM_s (v := s.votes) (st4.ld 1 rfl rfl) (copy_of (r := rT) st4.mem (st4.arg hm h.votes) rfl (by decide) (by omega) (by decide) fun v5 w5 f5 h5 => ?_)
 obtain ⟨st5,x5⟩ := st4.call f5
 have r5 : (rL rT).rd (fz (Nw w) [b22,b20]) w5 [v5] n.votes := h5.rd (fun c hc => st4.P.new c hc) Chk.flT
 refine gd_t r5.ok1 (st5.put 1 rfl (Nat.le_of_ble_eq_true rfl) fun w6 st6 x6 => ?_)
 have st6 : Ow (Nw w) [] w w6 [(b22,.row (ndC zNd zSl)),(b20,.row (ndC n { s with snap := v1,log := v3,votes := v5 }))] := st6
 refine onM_s (v := s.next) (st6.ld 1 rfl rfl) (s48 hh st6.mem (st6.arg hm h.next) l4 fun v7 w7 f7 h7 => ?_)
 obtain ⟨st7,x7⟩ := st6.call f7
 have r7 : (rL rI).rd (fz (Nw w) [b22,b20]) w7 [v7] n.next := h7.rd (fun c hc => st6.P.new c hc) Chk.flI
 refine gd_t r7.ok1 (st7.put 1 rfl (Nat.le_of_ble_eq_true rfl) fun w8 st8 x8 => ?_)
 have st8 : Ow (Nw w) [] w w8 [(b22,.row (ndC zNd zSl)),(b20,.row (ndC n { s with snap := v1,log := v3,votes := v5,next := v7 }))] := st8
 refine onM_s (v := s.mtch) (st8.ld 1 rfl rfl) (s48 hh st8.mem (st8.arg hm h.mtch) l5 fun v9 w9 f9 h9 => ?_)
 obtain ⟨st9,x9⟩ := st8.call f9
 have r9 : (rL rI).rd (fz (Nw w) [b22,b20]) w9 [v9] n.mtch := h9.rd (fun c hc => st8.P.new c hc) Chk.flI
 refine gd_t r9.ok1 (st9.put 1 rfl (Nat.le_of_ble_eq_true rfl) fun w10 st10 x10 => ?_)
 have st10 : Ow (Nw w) [] w w10 [(b22,.row (ndC zNd zSl)),(b20,.row (ndC n { s with snap := v1,log := v3,votes := v5,next := v7,mtch := v9 }))] := st10
 refine onM_s (v := s.seen) (st10.ld 1 rfl rfl) (s48 hh st10.mem (st10.arg hm h.seen) l6 fun v11 w11 f11 h11 => ?_)
 have ht1 : okCell v1 = true := r1.ok1
 have ht3 : okCell v3 = true := r3.ok1
 have ht5 : okCell v5 = true := r5.ok1
 have ht7 : okCell v7 = true := r7.ok1
 have ht9 : okCell v9 = true := r9.ok1
 have ht11 : okCell v11 = true := (h11.rd (A' := fun _ => True) (fun _ _ => trivial) Chk.flI).ok1
 obtain ⟨b,o,st11,x11,hcase⟩ : ∃ b o,Ow (Nw w) [] w w11 ((b,o) :: [(b22,.row (ndC zNd zSl)),(b20,.row (ndC n { s with snap := v1,log := v3,votes := v5,next := v7,mtch := v9 }))]) ∧ Xt [b22,b20] w10 (ids ((b,o) :: [(b22,.row (ndC zNd zSl)),(b20,.row [])])) w11 ∧
   ((o = .row (n.seen.map (AV.int .i64)) ∧ v11 = .slice b 0 n.seen.length n.seen.length (some 1)) ∨ (n.seen.length = 0 ∧ o = .none ∧ (rL rI).rd (fz (Nw w) (ids ((b,o) :: [(b22,.row (ndC zNd zSl)),(b20,.row [])]))) w11 [v11] n.seen)) := by
  by_cases hse : 0 < n.seen.length
  ·obtain ⟨b,e,a1,a2⟩ := cln_own (f := AV.int .i64) st10 h11 hse (fun _ h => Chk.ints.1 h) f11
   exact ⟨b,_,a1,a2,.inl ⟨rfl,e⟩⟩
  ·obtain ⟨a1,a2⟩ := st10.call f11
   exact ⟨0,.none,a1.room,a2,.inr ⟨by omega,rfl,h11.rd (fun c hc => st10.P.new c hc) Chk.flI⟩⟩
 refine gd_t ht11 (st11.put 2 rfl (Nat.le_of_ble_eq_true rfl) fun w12 st12 x12 => ?_)
 have st12 : Ow (Nw w) [] w w12 [(b,o),(b22,.row (ndC zNd zSl)),(b20,.row (ndC n { s with snap := v1,log := v3,votes := v5,next := v7,mtch := v9,seen := v11 }))] := st12
 refine onM_s (v := s.reads) (st12.ld 2 rfl rfl) (copy_of (r := rG) st12.mem (st12.arg hm h.reads) rfl (by decide) (by omega) (by decide) fun v13 w13 f13 h13 => ?_)
 obtain ⟨st13,x13⟩ := st12.call f13
 have ht13 : okCell v13 = true := (h13.rd (A' := fun _ => True) (fun _ _ => trivial) Chk.flG).ok1
 refine gd_t ht13 (st13.put 2 rfl (Nat.le_of_ble_eq_true rfl) fun w14 st14 x14 => ?_)
 have st14 : Ow (Nw w) [] w w14 [(b,o),(b22,.row (ndC zNd zSl)),(b20,.row (ndC n ⟨v1,v3,v5,v7,v9,v11,v13⟩))] := st14
 refine ⟨_,_,_,_,_,_,_,_,_,_,_,_,_,_,_,_,_,_,_,st14.ldN 2 rfl rfl rfl,gd_t (by simp only [List.all_cons,ht1,ht3,ht5,ht7,ht9,ht11,ht13]; rfl) (st14.put 1 rfl (Nat.le_of_ble_eq_true rfl) fun w15 st15 x15 => ⟨_,_,_,_,_,_,_,_,_,_,_,_,_,_,_,_,_,_,_,st15.ldN 1 rfl rfl rfl,?_⟩)⟩
 have x1115 : Xt (ids ((b,o) :: [(b22,.row (ndC zNd zSl)),(b20,.row [])])) w11 (ids ((b,o) :: [(b22,.row (ndC zNd zSl)),(b20,.row [])])) w15 := Xt.trans x12 (Xt.trans x13 (Xt.trans x14 x15))
 have x1315 : Xt (ids ((b,o) :: [(b22,.row (ndC zNd zSl)),(b20,.row [])])) w13 (ids ((b,o) :: [(b22,.row (ndC zNd zSl)),(b20,.row [])])) w15 := Xt.trans x14 x15
 have x1015 := x11.trans x1115
 have x915 := Xt.trans x10 x1015
 have x815 := Xt.trans x9 x915
 have x715 := Xt.trans x8 x815
 have x615 := Xt.trans x7 x715
 have x515 := Xt.trans x6 x615
 have x415 := Xt.trans x5 x515
 have x315 := Xt.trans x4 x415
 have x215 := Xt.trans x3 x315
 have x115 := Xt.trans x2 x215
 have q1 := r1.x x115
 have q3 := r3.x x315
 have q5 := r5.x x515
 have q7 := r7.x x715
 have q9 := r9.x x915
 have hz : 0 < w12.size := st12.P0.pos
 have ga13 : Ga rG (fz (Nw w) (ids ((b,o) :: [(b22,.row (ndC zNd zSl)),(b20,.row [])]))) w12 w13 v13 n.reads := h13.ga (fun c hc => st12.P.new c hc) hz Chk.flG
 have ga15 := Ga.x' ga13 x1315 st13
 have ga : Ga rG (fz (Nw w) (ids ((b,o) :: [(b22,.row (ndC zNd zSl)),(b20,.row [])]))) w w15 v13 n.reads := ga15.xa st12.fr.size fun _ h => h
 have q13 := ga.rd (by decide)
 have hseen : (rL rI).rd (Nw w) w15 [v11] n.seen := by
  rcases hcase with ⟨rfl,rfl⟩ | ⟨_,_,hr⟩
  ·have hb : Box w15 b _ := (st15.box _ List.mem_cons_self rfl).1
   exact Box.sl hb ((st15.box _ List.mem_cons_self rfl).2.1.resolve_right (by simp)) rfl (Chk.ints.2 rfl) (Nat.le_refl _) (by simp [okEx,rI])
  ·exact (hr.x x1115).out
 refine hK ⟨v1,v3,v5,v7,v9,v11,v13⟩ w15 st15.fr ⟨q1.out,q3.out,q5.out,q7.out,q9.out,hseen,q13.out⟩ fun hse => ?_
 rcases hcase with ⟨rfl,rfl⟩ | ⟨h0,_⟩
 ·have hsub : ∀ {α : Type} {r : Rp α} {cs : List AV} {x : α},r.rd (fz (Nw w) [b,b22,b20]) w15 cs x → r.rd (fz (Nw w) [b]) w15 cs x := fun h => h.xa ⟨fun c f _ a a' d => ⟨⟨a.1,fun hx => a.2 (by simp at hx ⊢; exact .inl hx)⟩,⟨a'.1,fun hx => a'.2 (by simp at hx ⊢; exact .inl hx)⟩,d⟩⟩
  have hb : Box w15 b _ := (st15.box _ List.mem_cons_self rfl).1
  exact ⟨b,(st15.box _ List.mem_cons_self rfl).2.1.resolve_right (by simp),hb,rfl,hsub q1,hsub q3,hsub q5,hsub q7,hsub q9,ga.xa (Nat.le_refl _) fun c hc => ⟨hc.1,fun hx => hc.2 (by simp at hx; subst hx; exact List.mem_cons_self)⟩⟩
 ·omega
end
end Go.Proofs.YtghoifolghelnaaGreat
