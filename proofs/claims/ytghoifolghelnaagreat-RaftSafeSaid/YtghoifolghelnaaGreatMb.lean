/-
 What the functions of this chapter do.
 No condition beyond those that each theorem names.
-/
import Derived.Test.YtghoifolghelnaaGreatMa
import Derived.Test.YtghoifolghelnaaGreatSxu
import Derived.Test.YtghoifolghelnaaGreatProg
import Derived.KernelRfl
import Derived.Test.YtghoifolghelnaaGreatSxx
set_option linter.unusedSimpArgs false
set_option linter.unusedVariables false
open Go.Sx
namespace Go.Proofs.YtghoifolghelnaaGreat
set_option maxRecDepth 100000 in
def F13(hk:Hook)(n0 n1 n2 n3 n4 n5 n6 n7:Int)(n8 n9:AV)(n10:Int)(n11 n12 n13 n14:AV)(n15 n16 n17:Int)(n18 data19:AV)(w:AW)(K:AV→AW→Prop):Prop:=
 gd (List.all [(ii n0),(ii n1),(.int .u8 n2),(ii n3),(ii n4),(ii n5),(ii n6),(ii n7),n8,n9,(ii n10),n11,n12,n13,n14,(ii n15),(ii n16),(ii n17),n18] qJc) (
 new w [(ii n0),(ii n1),(.int .u8 n2),(ii n3),(ii n4),(ii n5),(ii n6),(ii n7),n8,n9,(ii n10),n11,n12,n13,n14,(ii n15),(ii n16),(ii n17),n18] fun b20 w21=>
 new w21 [(ii 0),(ii 0),(.int .u8 0),(ii 0),(ii 0),(ii 0),(ii 0),(ii 0),.nilslice,.nilslice,(ii 0),.nilslice,.nilslice,.nilslice,.nilslice,(ii 0),(ii 0),(ii 0),.nilslice] fun b22 w23=>
 join (fun l_24 w25=>∃e27:Int,l_24=[(ii e27)]∧∀_:Nat→AV,
  ifT (!decide (e27=0)) (onM (AW.putCells w25 b22 0 [(ii 0),(ii 0),(.int .u8 0),(ii 0),(ii 0),(ii 0),(ii 0),(ii 0),.nilslice,.nilslice,(ii 0),.nilslice,.nilslice,.nilslice,.nilslice,(ii 0),(ii 0),(ii 0),.nilslice]) fun w28=>
  ∃res29 res30 res31 res32 res33 res34 res35 res36:Int,∃res37 res38:AV,∃res39:Int,∃res40 res41 res42 res43:AV,∃res44 res45 res46:Int,∃res47:AV,ldN 19 w28 b22 0=some (.agg [(ii res29),(ii res30),(.int .u8 res31),(ii res32),(ii res33),(ii res34),(ii res35),(ii res36),res37,res38,(ii res39),res40,res41,res42,res43,(ii res44),(ii res45),(ii res46),res47])∧
 K (.tup [(.agg [(ii res29),(ii res30),(.int .u8 res31),(ii res32),(ii res33),(ii res34),(ii res35),(ii res36),res37,res38,(ii res39),res40,res41,res42,res43,(ii res44),(ii res45),(ii res46),res47]),(ii 0),.nilslice,(ii e27)]) w28)
  (∃x48 x49 x50 x51 x52 x53 x54 x55:Int,∃x56 x57:AV,∃x58:Int,∃x59 x60 x61 x62:AV,∃x63 x64 x65:Int,∃x66:AV,ldN 19 w25 b20 0=some (.agg [(ii x48),(ii x49),(.int .u8 x50),(ii x51),(ii x52),(ii x53),(ii x54),(ii x55),x56,x57,(ii x58),x59,x60,x61,x62,(ii x63),(ii x64),(ii x65),x66])∧
  Cl Tryz.prog hk 43 [(.agg [(ii x48),(ii x49),(.int .u8 x50),(ii x51),(ii x52),(ii x53),(ii x54),(ii x55),x56,x57,(ii x58),x59,x60,x61,x62,(ii x63),(ii x64),(ii x65),x66]),(ii 0)] w25 fun r67 w68=>
  Cl Tryz.prog hk 52 [r67,data19] w68 fun r69 w70=>
  r69= .tup []∧
  onP r67 fun b71 o72=>
  ∃x73 x74 x75 x76 x77 x78 x79 x80:Int,∃x81 x82:AV,∃x83:Int,∃x84 x85 x86 x87:AV,∃x88 x89 x90:Int,∃x91:AV,ldN 19 w70 b71 (o72+0)=some (.agg [(ii x73),(ii x74),(.int .u8 x75),(ii x76),(ii x77),(ii x78),(ii x79),(ii x80),x81,x82,(ii x83),x84,x85,x86,x87,(ii x88),(ii x89),(ii x90),x91])∧
  onP r67 fun b92 o93=>
  ∃x94 x95 x96 x97 x98 x99 x100 x101:Int,∃x102 x103:AV,∃x104:Int,∃x105 x106 x107 x108:AV,∃x109 x110 x111:Int,∃x112:AV,ldN 19 w70 b92 (o93+0)=some (.agg [(ii x94),(ii x95),(.int .u8 x96),(ii x97),(ii x98),(ii x99),(ii x100),(ii x101),x102,x103,(ii x104),x105,x106,x107,x108,(ii x109),(ii x110),(ii x111),x112])∧
  onP r67 fun b113 o114=>
  onM (ld w70 b113 (o114+19)) fun x115=>
  Cl Tryz.prog hk 36 [(.agg [(ii x94),(ii x95),(.int .u8 x96),(ii x97),(ii x98),(ii x99),(ii x100),(ii x101),x102,x103,(ii x104),x105,x106,x107,x108,(ii x109),(ii x110),(ii x111),x112])] w70 fun r116 w117=>
  ∃x118:Int,r116=(ii x118)∧
  ld w117 b113 (o114+19)=some x115∧
  ldN 19 w117 b71 (o72+0)=some (.agg [(ii x73),(ii x74),(.int .u8 x75),(ii x76),(ii x77),(ii x78),(ii x79),(ii x80),x81,x82,(ii x83),x84,x85,x86,x87,(ii x88),(ii x89),(ii x90),x91])∧
  gd (List.all [(ii x73),(ii x74),(.int .u8 x75),(ii x76),(ii x77),(ii x78),(ii x79),(ii x80),x81,x82,(ii x83),x84,x85,x86,x87,(ii x88),(ii x89),(ii x90),x91] qJc) (
  onM (AW.putCells w117 b22 0 [(ii x73),(ii x74),(.int .u8 x75),(ii x76),(ii x77),(ii x78),(ii x79),(ii x80),x81,x82,(ii x83),x84,x85,x86,x87,(ii x88),(ii x89),(ii x90),x91]) fun w119=>
  ld w119 b113 (o114+19)=some x115∧
  ∃res120 res121 res122 res123 res124 res125 res126 res127:Int,∃res128 res129:AV,∃res130:Int,∃res131 res132 res133 res134:AV,∃res135 res136 res137:Int,∃res138:AV,ldN 19 w119 b22 0=some (.agg [(ii res120),(ii res121),(.int .u8 res122),(ii res123),(ii res124),(ii res125),(ii res126),(ii res127),res128,res129,(ii res130),res131,res132,res133,res134,(ii res135),(ii res136),(ii res137),res138])∧
 K (.tup [(.agg [(ii res120),(ii res121),(.int .u8 res122),(ii res123),(ii res124),(ii res125),(ii res126),(ii res127),res128,res129,(ii res130),res131,res132,res133,res134,(ii res135),(ii res136),(ii res137),res138]),(ii x118),x115,(ii 0)]) w119))) fun J26=>
 ∃x139 x140 x141 x142 x143 x144 x145 x146:Int,∃x147 x148:AV,∃x149:Int,∃x150 x151 x152 x153:AV,∃x154 x155 x156:Int,∃x157:AV,ldN 19 w23 b20 0=some (.agg [(ii x139),(ii x140),(.int .u8 x141),(ii x142),(ii x143),(ii x144),(ii x145),(ii x146),x147,x148,(ii x149),x150,x151,x152,x153,(ii x154),(ii x155),(ii x156),x157])∧
 Cl Tryz.prog hk 8 [(.agg [(ii x139),(ii x140),(.int .u8 x141),(ii x142),(ii x143),(ii x144),(ii x145),(ii x146),x147,x148,(ii x149),x150,x151,x152,x153,(ii x154),(ii x155),(ii x156),x157])] w23 fun r158 w159=>
 ∃x160:Bool,r158=(.bool x160)∧
 ifT (!x160) (J26 [(ii 2)] w159)
 (∃x161:Int,ld w159 b20 (0+2)=some (.int .u8 x161)∧
  ifT (!decide (x161=3)) (J26 [(ii 220)] w159)
  (∃x162:Int,lenS data19=some (ii x162)∧
  ifT (decide (60000<x162)) (J26 [(ii 3)] w159)
  (onM (ld w159 b20 (0+9)) fun x163=>
   ∃x164:Int,lenS x163=some (ii x164)∧
   ifT (decide (4096≤x164)) (J26 [(ii 5)] w159)
   (J26 [(ii 0)] w159)))))
def adv13:Adv:=(.sq .lf (.sq .lf (.sj [(8,.sc (.int .i64))] (.bl (.sq .lf (.cd .lf (.sq .lf (.cd .lf (.sq .lf (.cd .lf (.sq .lf (.cd .lf .lf))))))))) (.sq (.sq .lf (.cd (.sq .lf .lf) .lf)) (.sq .lf (.sq .lf (.sq .lf .lf)))))))
set_option maxRecDepth 100000 in
theorem in13 {hk:Hook}{n0 n1 n2 n3 n4 n5 n6 n7:Int}{n8 n9:AV}{n10:Int}{n11 n12 n13 n14:AV}{n15 n16 n17:Int}{n18 data19:AV}{w:AW}{K:AV→AW→Prop}(hn:hk 13 [(.agg [(ii n0),(ii n1),(.int .u8 n2),(ii n3),(ii n4),(ii n5),(ii n6),(ii n7),n8,n9,(ii n10),n11,n12,n13,n14,(ii n15),(ii n16),(ii n17),n18]),data19] w=none)(h:F13 hk n0 n1 n2 n3 n4 n5 n6 n7 n8 n9 n10 n11 n12 n13 n14 n15 n16 n17 n18 data19 w K):Cl Tryz.prog hk 13 [(.agg [(ii n0),(ii n1),(.int .u8 n2),(ii n3),(ii n4),(ii n5),(ii n6),(ii n7),n8,n9,(ii n10),n11,n12,n13,n14,(ii n15),(ii n16),(ii n17),n18]),data19] w K:=
 qJm (adv:=adv13) Tryz.func13 hn (Eq.mpr (by kernel_rfl) h)
set_option maxRecDepth 100000 in
def F14(hk:Hook)(n0 n1 n2 n3 n4 n5 n6 n7:Int)(n8 n9:AV)(n10:Int)(n11 n12 n13 n14:AV)(n15 n16 n17:Int)(n18:AV)(id19:Int)(w:AW)(K:AV→AW→Prop):Prop:=
  gd (List.all [(ii n0),(ii n1),(.int .u8 n2),(ii n3),(ii n4),(ii n5),(ii n6),(ii n7),n8,n9,(ii n10),n11,n12,n13,n14,(ii n15),(ii n16),(ii n17),n18] qJc) (
  new w [(ii n0),(ii n1),(.int .u8 n2),(ii n3),(ii n4),(ii n5),(ii n6),(ii n7),n8,n9,(ii n10),n11,n12,n13,n14,(ii n15),(ii n16),(ii n17),n18] fun b20 w21=>
  new w21 [(ii 0),(ii 0),(.int .u8 0),(ii 0),(ii 0),(ii 0),(ii 0),(ii 0), .nilslice, .nilslice,(ii 0), .nilslice, .nilslice, .nilslice, .nilslice,(ii 0),(ii 0),(ii 0), .nilslice] fun b22 w23=>
  ∃x24 x25 x26 x27 x28 x29 x30 x31:Int,∃x32 x33:AV,∃x34:Int,∃x35 x36 x37 x38:AV,∃x39 x40 x41:Int,∃x42:AV,ldN 19 w23 b20 0=some (.agg [(ii x24),(ii x25),(.int .u8 x26),(ii x27),(ii x28),(ii x29),(ii x30),(ii x31),x32,x33,(ii x34),x35,x36,x37,x38,(ii x39),(ii x40),(ii x41),x42])∧
  Cl Tryz.prog hk 8 [(.agg [(ii x24),(ii x25),(.int .u8 x26),(ii x27),(ii x28),(ii x29),(ii x30),(ii x31),x32,x33,(ii x34),x35,x36,x37,x38,(ii x39),(ii x40),(ii x41),x42])] w23 fun r43 w44=>
  ∃x45:Bool,r43=(.bool x45)∧
  ifT (!x45) (onM (AW.putCells w44 b22 0 [(ii 0),(ii 0),(.int .u8 0),(ii 0),(ii 0),(ii 0),(ii 0),(ii 0), .nilslice, .nilslice,(ii 0), .nilslice, .nilslice, .nilslice, .nilslice,(ii 0),(ii 0),(ii 0), .nilslice]) fun w46=>
   ∃res47 res48 res49 res50 res51 res52 res53 res54:Int,∃res55 res56:AV,∃res57:Int,∃res58 res59 res60 res61:AV,∃res62 res63 res64:Int,∃res65:AV,ldN 19 w46 b22 0=some (.agg [(ii res47),(ii res48),(.int .u8 res49),(ii res50),(ii res51),(ii res52),(ii res53),(ii res54),res55,res56,(ii res57),res58,res59,res60,res61,(ii res62),(ii res63),(ii res64),res65])∧
  K (.tup [(.agg [(ii res47),(ii res48),(.int .u8 res49),(ii res50),(ii res51),(ii res52),(ii res53),(ii res54),res55,res56,(ii res57),res58,res59,res60,res61,(ii res62),(ii res63),(ii res64),res65]), .nilslice,(ii 2)]) w46)
  (∃x66 x67 x68 x69 x70 x71 x72 x73:Int,∃x74 x75:AV,∃x76:Int,∃x77 x78 x79 x80:AV,∃x81 x82 x83:Int,∃x84:AV,ldN 19 w44 b20 0=some (.agg [(ii x66),(ii x67),(.int .u8 x68),(ii x69),(ii x70),(ii x71),(ii x72),(ii x73),x74,x75,(ii x76),x77,x78,x79,x80,(ii x81),(ii x82),(ii x83),x84])∧
  ∃x85:Int,ld w44 b20 (0+10)=some (ii x85)∧
  Cl Tryz.prog hk 53 [(.agg [(ii x66),(ii x67),(.int .u8 x68),(ii x69),(ii x70),(ii x71),(ii x72),(ii x73),x74,x75,(ii x76),x77,x78,x79,x80,(ii x81),(ii x82),(ii x83),x84]),(ii x85)] w44 fun r86 w87=>
  ∃x88:Int,∃x89:Bool,r86= .tup [(ii x88),(.bool x89)]∧
  join (fun l_90 w91=>∃x93:Bool,l_90=[(.bool x93)]∧∀_:Nat→AV,
   ifT x93 (onM (AW.putCells w91 b22 0 [(ii 0),(ii 0),(.int .u8 0),(ii 0),(ii 0),(ii 0),(ii 0),(ii 0), .nilslice, .nilslice,(ii 0), .nilslice, .nilslice, .nilslice, .nilslice,(ii 0),(ii 0),(ii 0), .nilslice]) fun w94=>
    ∃res95 res96 res97 res98 res99 res100 res101 res102:Int,∃res103 res104:AV,∃res105:Int,∃res106 res107 res108 res109:AV,∃res110 res111 res112:Int,∃res113:AV,ldN 19 w94 b22 0=some (.agg [(ii res95),(ii res96),(.int .u8 res97),(ii res98),(ii res99),(ii res100),(ii res101),(ii res102),res103,res104,(ii res105),res106,res107,res108,res109,(ii res110),(ii res111),(ii res112),res113])∧
  K (.tup [(.agg [(ii res95),(ii res96),(.int .u8 res97),(ii res98),(ii res99),(ii res100),(ii res101),(ii res102),res103,res104,(ii res105),res106,res107,res108,res109,(ii res110),(ii res111),(ii res112),res113]), .nilslice,(ii 220)]) w94)
   (onM (ld w91 b20 (0+18)) fun x114=>
    ∃x115:Int,lenS x114=some (ii x115)∧
    ifT (decide (64≤x115)) (onM (AW.putCells w91 b22 0 [(ii 0),(ii 0),(.int .u8 0),(ii 0),(ii 0),(ii 0),(ii 0),(ii 0), .nilslice, .nilslice,(ii 0), .nilslice, .nilslice, .nilslice, .nilslice,(ii 0),(ii 0),(ii 0), .nilslice]) fun w116=>
    ∃res117 res118 res119 res120 res121 res122 res123 res124:Int,∃res125 res126:AV,∃res127:Int,∃res128 res129 res130 res131:AV,∃res132 res133 res134:Int,∃res135:AV,ldN 19 w116 b22 0=some (.agg [(ii res117),(ii res118),(.int .u8 res119),(ii res120),(ii res121),(ii res122),(ii res123),(ii res124),res125,res126,(ii res127),res128,res129,res130,res131,(ii res132),(ii res133),(ii res134),res135])∧
  K (.tup [(.agg [(ii res117),(ii res118),(.int .u8 res119),(ii res120),(ii res121),(ii res122),(ii res123),(ii res124),res125,res126,(ii res127),res128,res129,res130,res131,(ii res132),(ii res133),(ii res134),res135]), .nilslice,(ii 5)]) w116)
    (∃x136:Int,ld w91 b20 (0+15)=some (ii x136)∧
    ifT (decide (x136=1099511627776)) (onM (AW.putCells w91 b22 0 [(ii 0),(ii 0),(.int .u8 0),(ii 0),(ii 0),(ii 0),(ii 0),(ii 0), .nilslice, .nilslice,(ii 0), .nilslice, .nilslice, .nilslice, .nilslice,(ii 0),(ii 0),(ii 0), .nilslice]) fun w137=>
     ∃res138 res139 res140 res141 res142 res143 res144 res145:Int,∃res146 res147:AV,∃res148:Int,∃res149 res150 res151 res152:AV,∃res153 res154 res155:Int,∃res156:AV,ldN 19 w137 b22 0=some (.agg [(ii res138),(ii res139),(.int .u8 res140),(ii res141),(ii res142),(ii res143),(ii res144),(ii res145),res146,res147,(ii res148),res149,res150,res151,res152,(ii res153),(ii res154),(ii res155),res156])∧
  K (.tup [(.agg [(ii res138),(ii res139),(.int .u8 res140),(ii res141),(ii res142),(ii res143),(ii res144),(ii res145),res146,res147,(ii res148),res149,res150,res151,res152,(ii res153),(ii res154),(ii res155),res156]), .nilslice,(ii 5)]) w137)
    (∃x157 x158 x159 x160 x161 x162 x163 x164:Int,∃x165 x166:AV,∃x167:Int,∃x168 x169 x170 x171:AV,∃x172 x173 x174:Int,∃x175:AV,ldN 19 w91 b20 0=some (.agg [(ii x157),(ii x158),(.int .u8 x159),(ii x160),(ii x161),(ii x162),(ii x163),(ii x164),x165,x166,(ii x167),x168,x169,x170,x171,(ii x172),(ii x173),(ii x174),x175])∧
  Cl Tryz.prog hk 43 [(.agg [(ii x157),(ii x158),(.int .u8 x159),(ii x160),(ii x161),(ii x162),(ii x163),(ii x164),x165,x166,(ii x167),x168,x169,x170,x171,(ii x172),(ii x173),(ii x174),x175]),(ii 0)] w91 fun r176 w177=>
  onP r176 fun b178 o179=>
  ∃x180:Int,ld w177 b178 ((o179+0)+15)=some (ii x180)∧
  onP r176 fun b181 o182=>
  onM (AW.putCells w177 b181 ((o182+0)+15) [(ii (wi (x180+1)))]) fun w183=>
  onP r176 fun b184 o185=>
  onM (ld w183 b184 ((o185+0)+14)) fun x186=>
  ∃x187:Int,ld w183 b20 (0+0)=some (ii x187)∧
  onP r176 fun b188 o189=>
  ∃x190:Int,ld w183 b188 ((o189+0)+15)=some (ii x190)∧
  atP (idxS 1 x186 (ii (wi (x187 - 1)))) fun b191 o192=>
  onM (AW.putCells w183 b191 o192 [(ii x190)]) fun w193=>
  onP r176 fun b194 o195=>
  onM (ld w193 b194 ((o195+0)+18)) fun x196=>
  ∃x197:Int,ld w193 b20 (0+10)=some (ii x197)∧
  onP r176 fun b198 o199=>
  ∃x200:Int,ld w193 b198 ((o199+0)+15)=some (ii x200)∧
  new w193 [(ii id19),(ii x197),(ii x200)] fun b201 w202=>
  gd (qJc x196) (
  new w202 [x196,(.slice b201 0 1 1 none)] fun b203 w204=>
  ld w204 b198 ((o199+0)+15)=some (ii x200)∧
  ld w204 b20 (0+10)=some (ii x197)∧
  ld w204 b194 ((o195+0)+18)=some x196∧
  Cl Tryz.prog hk 54 [(.slice b203 0 2 2 none)] w204 fun r205 w206=>
  onP r176 fun b207 o208=>
  gd (qJc r205) (
  onM (AW.putCells w206 b207 ((o208+0)+18) [r205]) fun w209=>
  Cl Tryz.prog hk 49 [r176,(.func 50 [r176] [])] w209 fun r210 w211=>
  r210= .tup []∧
  onP r176 fun b212 o213=>
  ∃x214 x215 x216 x217 x218 x219 x220 x221:Int,∃x222 x223:AV,∃x224:Int,∃x225 x226 x227 x228:AV,∃x229 x230 x231:Int,∃x232:AV,ldN 19 w211 b212 (o213+0)=some (.agg [(ii x214),(ii x215),(.int .u8 x216),(ii x217),(ii x218),(ii x219),(ii x220),(ii x221),x222,x223,(ii x224),x225,x226,x227,x228,(ii x229),(ii x230),(ii x231),x232])∧
  onP r176 fun b233 o234=>
  onM (ld w211 b233 (o234+19)) fun x235=>
  gd (List.all [(ii x214),(ii x215),(.int .u8 x216),(ii x217),(ii x218),(ii x219),(ii x220),(ii x221),x222,x223,(ii x224),x225,x226,x227,x228,(ii x229),(ii x230),(ii x231),x232] qJc) (
  onM (AW.putCells w211 b22 0 [(ii x214),(ii x215),(.int .u8 x216),(ii x217),(ii x218),(ii x219),(ii x220),(ii x221),x222,x223,(ii x224),x225,x226,x227,x228,(ii x229),(ii x230),(ii x231),x232]) fun w236=>
  ld w236 b233 (o234+19)=some x235∧
  ∃res237 res238 res239 res240 res241 res242 res243 res244:Int,∃res245 res246:AV,∃res247:Int,∃res248 res249 res250 res251:AV,∃res252 res253 res254:Int,∃res255:AV,ldN 19 w236 b22 0=some (.agg [(ii res237),(ii res238),(.int .u8 res239),(ii res240),(ii res241),(ii res242),(ii res243),(ii res244),res245,res246,(ii res247),res248,res249,res250,res251,(ii res252),(ii res253),(ii res254),res255])∧
  K (.tup [(.agg [(ii res237),(ii res238),(.int .u8 res239),(ii res240),(ii res241),(ii res242),(ii res243),(ii res244),res245,res246,(ii res247),res248,res249,res250,res251,(ii res252),(ii res253),(ii res254),res255]),x235,(ii 0)]) w236))))))) fun J92=>
  ∃x256:Int,ld w87 b20 (0+2)=some (.int .u8 x256)∧
  ifT (!decide (x256=3)) (J92 [(.bool true)] w87)
  (∃x257:Int,ld w87 b20 (0+3)=some (ii x257)∧
  J92 [(.bool (!decide (x88=x257)))] w87)))
def adv14:Adv:=(.sq .lf (.sq (.sq .lf (.cd (.sq .lf .lf) .lf)) (.sq .lf (.sq (.bl (.sj [(21,.sc (.bool))] .lf (.cd (.sq .lf .lf) (.sq .lf (.cd (.sq .lf .lf) .lf))))) (.sq .lf (.sq .lf (.sq .lf (.sq .lf (.sq .lf (.sq .lf .lf))))))))))
set_option maxRecDepth 100000 in
theorem in14 {hk:Hook}{n0 n1 n2 n3 n4 n5 n6 n7:Int}{n8 n9:AV}{n10:Int}{n11 n12 n13 n14:AV}{n15 n16 n17:Int}{n18:AV}{id19:Int}{w:AW}{K:AV→AW→Prop}(hn:hk 14 [(.agg [(ii n0),(ii n1),(.int .u8 n2),(ii n3),(ii n4),(ii n5),(ii n6),(ii n7),n8,n9,(ii n10),n11,n12,n13,n14,(ii n15),(ii n16),(ii n17),n18]),(ii id19)] w=none)(h:F14 hk n0 n1 n2 n3 n4 n5 n6 n7 n8 n9 n10 n11 n12 n13 n14 n15 n16 n17 n18 id19 w K):Cl Tryz.prog hk 14 [(.agg [(ii n0),(ii n1),(.int .u8 n2),(ii n3),(ii n4),(ii n5),(ii n6),(ii n7),n8,n9,(ii n10),n11,n12,n13,n14,(ii n15),(ii n16),(ii n17),n18]),(ii id19)] w K:=
 qJm (adv:=adv14) Tryz.func14 hn (Eq.mpr (by kernel_rfl) h)
set_option maxRecDepth 100000 in
def F15(hk:Hook)(n0 n1 n2 n3 n4 n5 n6 n7:Int)(n8 n9:AV)(n10:Int)(n11 n12 n13 n14:AV)(n15 n16 n17:Int)(n18:AV)(index19:Int)(snap20:AV)(w:AW)(K:AV→AW→Prop):Prop:=
 gd (List.all [(ii n0),(ii n1),(.int .u8 n2),(ii n3),(ii n4),(ii n5),(ii n6),(ii n7),n8,n9,(ii n10),n11,n12,n13,n14,(ii n15),(ii n16),(ii n17),n18] qJc) (
 new w [(ii n0),(ii n1),(.int .u8 n2),(ii n3),(ii n4),(ii n5),(ii n6),(ii n7),n8,n9,(ii n10),n11,n12,n13,n14,(ii n15),(ii n16),(ii n17),n18] fun b21 w22=>
 new w22 [(ii 0),(ii 0),(.int .u8 0),(ii 0),(ii 0),(ii 0),(ii 0),(ii 0),.nilslice,.nilslice,(ii 0),.nilslice,.nilslice,.nilslice,.nilslice,(ii 0),(ii 0),(ii 0),.nilslice] fun b23 w24=>
 ∃x25 x26 x27 x28 x29 x30 x31 x32:Int,∃x33 x34:AV,∃x35:Int,∃x36 x37 x38 x39:AV,∃x40 x41 x42:Int,∃x43:AV,ldN 19 w24 b21 0=some (.agg [(ii x25),(ii x26),(.int .u8 x27),(ii x28),(ii x29),(ii x30),(ii x31),(ii x32),x33,x34,(ii x35),x36,x37,x38,x39,(ii x40),(ii x41),(ii x42),x43])∧
 Cl Tryz.prog hk 8 [(.agg [(ii x25),(ii x26),(.int .u8 x27),(ii x28),(ii x29),(ii x30),(ii x31),(ii x32),x33,x34,(ii x35),x36,x37,x38,x39,(ii x40),(ii x41),(ii x42),x43])] w24 fun r44 w45=>
 ∃x46:Bool,r44=(.bool x46)∧
 ifT (!x46) (onM (AW.putCells w45 b23 0 [(ii 0),(ii 0),(.int .u8 0),(ii 0),(ii 0),(ii 0),(ii 0),(ii 0),.nilslice,.nilslice,(ii 0),.nilslice,.nilslice,.nilslice,.nilslice,(ii 0),(ii 0),(ii 0),.nilslice]) fun w47=>
 ∃res48 res49 res50 res51 res52 res53 res54 res55:Int,∃res56 res57:AV,∃res58:Int,∃res59 res60 res61 res62:AV,∃res63 res64 res65:Int,∃res66:AV,ldN 19 w47 b23 0=some (.agg [(ii res48),(ii res49),(.int .u8 res50),(ii res51),(ii res52),(ii res53),(ii res54),(ii res55),res56,res57,(ii res58),res59,res60,res61,res62,(ii res63),(ii res64),(ii res65),res66])∧
 K (.tup [(.agg [(ii res48),(ii res49),(.int .u8 res50),(ii res51),(ii res52),(ii res53),(ii res54),(ii res55),res56,res57,(ii res58),res59,res60,res61,res62,(ii res63),(ii res64),(ii res65),res66]),(ii 2)]) w47)
 (∃x67:Int,ld w45 b21 (0+6)=some (ii x67)∧
 ifT (decide (index19≤x67)) (onM (AW.putCells w45 b23 0 [(ii 0),(ii 0),(.int .u8 0),(ii 0),(ii 0),(ii 0),(ii 0),(ii 0),.nilslice,.nilslice,(ii 0),.nilslice,.nilslice,.nilslice,.nilslice,(ii 0),(ii 0),(ii 0),.nilslice]) fun w68=>
 ∃res69 res70 res71 res72 res73 res74 res75 res76:Int,∃res77 res78:AV,∃res79:Int,∃res80 res81 res82 res83:AV,∃res84 res85 res86:Int,∃res87:AV,ldN 19 w68 b23 0=some (.agg [(ii res69),(ii res70),(.int .u8 res71),(ii res72),(ii res73),(ii res74),(ii res75),(ii res76),res77,res78,(ii res79),res80,res81,res82,res83,(ii res84),(ii res85),(ii res86),res87])∧
 K (.tup [(.agg [(ii res69),(ii res70),(.int .u8 res71),(ii res72),(ii res73),(ii res74),(ii res75),(ii res76),res77,res78,(ii res79),res80,res81,res82,res83,(ii res84),(ii res85),(ii res86),res87]),(ii 2)]) w68)
 (∃x88:Int,ld w45 b21 (0+10)=some (ii x88)∧
 ifT (decide ((imin x88 1099511627776)<index19)) (onM (AW.putCells w45 b23 0 [(ii 0),(ii 0),(.int .u8 0),(ii 0),(ii 0),(ii 0),(ii 0),(ii 0),.nilslice,.nilslice,(ii 0),.nilslice,.nilslice,.nilslice,.nilslice,(ii 0),(ii 0),(ii 0),.nilslice]) fun w89=>
  ∃res90 res91 res92 res93 res94 res95 res96 res97:Int,∃res98 res99:AV,∃res100:Int,∃res101 res102 res103 res104:AV,∃res105 res106 res107:Int,∃res108:AV,ldN 19 w89 b23 0=some (.agg [(ii res90),(ii res91),(.int .u8 res92),(ii res93),(ii res94),(ii res95),(ii res96),(ii res97),res98,res99,(ii res100),res101,res102,res103,res104,(ii res105),(ii res106),(ii res107),res108])∧
 K (.tup [(.agg [(ii res90),(ii res91),(.int .u8 res92),(ii res93),(ii res94),(ii res95),(ii res96),(ii res97),res98,res99,(ii res100),res101,res102,res103,res104,(ii res105),(ii res106),(ii res107),res108]),(ii 2)]) w89)
 (∃x109:Int,lenS snap20=some (ii x109)∧
  ifT (decide (60000<x109)) (onM (AW.putCells w45 b23 0 [(ii 0),(ii 0),(.int .u8 0),(ii 0),(ii 0),(ii 0),(ii 0),(ii 0),.nilslice,.nilslice,(ii 0),.nilslice,.nilslice,.nilslice,.nilslice,(ii 0),(ii 0),(ii 0),.nilslice]) fun w110=>
  ∃res111 res112 res113 res114 res115 res116 res117 res118:Int,∃res119 res120:AV,∃res121:Int,∃res122 res123 res124 res125:AV,∃res126 res127 res128:Int,∃res129:AV,ldN 19 w110 b23 0=some (.agg [(ii res111),(ii res112),(.int .u8 res113),(ii res114),(ii res115),(ii res116),(ii res117),(ii res118),res119,res120,(ii res121),res122,res123,res124,res125,(ii res126),(ii res127),(ii res128),res129])∧
 K (.tup [(.agg [(ii res111),(ii res112),(.int .u8 res113),(ii res114),(ii res115),(ii res116),(ii res117),(ii res118),res119,res120,(ii res121),res122,res123,res124,res125,(ii res126),(ii res127),(ii res128),res129]),(ii 3)]) w110)
  (∃x130 x131 x132 x133 x134 x135 x136 x137:Int,∃x138 x139:AV,∃x140:Int,∃x141 x142 x143 x144:AV,∃x145 x146 x147:Int,∃x148:AV,ldN 19 w45 b21 0=some (.agg [(ii x130),(ii x131),(.int .u8 x132),(ii x133),(ii x134),(ii x135),(ii x136),(ii x137),x138,x139,(ii x140),x141,x142,x143,x144,(ii x145),(ii x146),(ii x147),x148])∧
 Cl Tryz.prog hk 43 [(.agg [(ii x130),(ii x131),(.int .u8 x132),(ii x133),(ii x134),(ii x135),(ii x136),(ii x137),x138,x139,(ii x140),x141,x142,x143,x144,(ii x145),(ii x146),(ii x147),x148]),(ii 0)] w45 fun r149 w150=>
 ∃x151 x152 x153 x154 x155 x156 x157 x158:Int,∃x159 x160:AV,∃x161:Int,∃x162 x163 x164 x165:AV,∃x166 x167 x168:Int,∃x169:AV,ldN 19 w150 b21 0=some (.agg [(ii x151),(ii x152),(.int .u8 x153),(ii x154),(ii x155),(ii x156),(ii x157),(ii x158),x159,x160,(ii x161),x162,x163,x164,x165,(ii x166),(ii x167),(ii x168),x169])∧
 Cl Tryz.prog hk 53 [(.agg [(ii x151),(ii x152),(.int .u8 x153),(ii x154),(ii x155),(ii x156),(ii x157),(ii x158),x159,x160,(ii x161),x162,x163,x164,x165,(ii x166),(ii x167),(ii x168),x169]),(ii index19)] w150 fun r170 w171=>
 ∃x172:Int,∃x173:Bool,r170= .tup [(ii x172),(.bool x173)]∧
 onP r149 fun b174 o175=>
 onM (AW.putCells w171 b174 ((o175+0)+7) [(ii x172)]) fun w176=>
 onP r149 fun b177 o178=>
 onM (ld w176 b177 ((o178+0)+9)) fun x179=>
 ∃x180:Int,ld w176 b21 (0+6)=some (ii x180)∧
 onM (slS 2 x179 (some (ii (wi (index19 - x180)))) none none) fun x181=>
 Cl Tryz.prog hk 55 [snap20] w176 fun r182 w183=>
 ld w183 b21 (0+6)=some (ii x180)∧
 ld w183 b177 ((o178+0)+9)=some x179∧
 onP r149 fun b184 o185=>
 gd (qJc x181) (
 onM (AW.putCells w183 b184 ((o185+0)+9) [x181]) fun w186=>
 onP r149 fun b187 o188=>
 onM (AW.putCells w186 b187 ((o188+0)+6) [(ii index19)]) fun w189=>
 onP r149 fun b190 o191=>
 gd (qJc r182) (
 onM (AW.putCells w189 b190 ((o191+0)+8) [r182]) fun w192=>
 onP r149 fun b193 o194=>
 ∃x195 x196 x197 x198 x199 x200 x201 x202:Int,∃x203 x204:AV,∃x205:Int,∃x206 x207 x208 x209:AV,∃x210 x211 x212:Int,∃x213:AV,ldN 19 w192 b193 (o194+0)=some (.agg [(ii x195),(ii x196),(.int .u8 x197),(ii x198),(ii x199),(ii x200),(ii x201),(ii x202),x203,x204,(ii x205),x206,x207,x208,x209,(ii x210),(ii x211),(ii x212),x213])∧
 gd (List.all [(ii x195),(ii x196),(.int .u8 x197),(ii x198),(ii x199),(ii x200),(ii x201),(ii x202),x203,x204,(ii x205),x206,x207,x208,x209,(ii x210),(ii x211),(ii x212),x213] qJc) (
 onM (AW.putCells w192 b23 0 [(ii x195),(ii x196),(.int .u8 x197),(ii x198),(ii x199),(ii x200),(ii x201),(ii x202),x203,x204,(ii x205),x206,x207,x208,x209,(ii x210),(ii x211),(ii x212),x213]) fun w214=>
 ∃res215 res216 res217 res218 res219 res220 res221 res222:Int,∃res223 res224:AV,∃res225:Int,∃res226 res227 res228 res229:AV,∃res230 res231 res232:Int,∃res233:AV,ldN 19 w214 b23 0=some (.agg [(ii res215),(ii res216),(.int .u8 res217),(ii res218),(ii res219),(ii res220),(ii res221),(ii res222),res223,res224,(ii res225),res226,res227,res228,res229,(ii res230),(ii res231),(ii res232),res233])∧
 K (.tup [(.agg [(ii res215),(ii res216),(.int .u8 res217),(ii res218),(ii res219),(ii res220),(ii res221),(ii res222),res223,res224,(ii res225),res226,res227,res228,res229,(ii res230),(ii res231),(ii res232),res233]),(ii 0)]) w214))))))))
def adv15:Adv:=(.sq .lf (.sq (.bl (.sq .lf (.cd (.sq .lf .lf) (.sq .lf (.cd (.sq .lf .lf) .lf))))) (.sq .lf (.sq .lf (.sq .lf (.sq .lf .lf))))))
set_option maxRecDepth 100000 in
theorem in15 {hk:Hook}{n0 n1 n2 n3 n4 n5 n6 n7:Int}{n8 n9:AV}{n10:Int}{n11 n12 n13 n14:AV}{n15 n16 n17:Int}{n18:AV}{index19:Int}{snap20:AV}{w:AW}{K:AV→AW→Prop}(hn:hk 15 [(.agg [(ii n0),(ii n1),(.int .u8 n2),(ii n3),(ii n4),(ii n5),(ii n6),(ii n7),n8,n9,(ii n10),n11,n12,n13,n14,(ii n15),(ii n16),(ii n17),n18]),(ii index19),snap20] w=none)(h:F15 hk n0 n1 n2 n3 n4 n5 n6 n7 n8 n9 n10 n11 n12 n13 n14 n15 n16 n17 n18 index19 snap20 w K):Cl Tryz.prog hk 15 [(.agg [(ii n0),(ii n1),(.int .u8 n2),(ii n3),(ii n4),(ii n5),(ii n6),(ii n7),n8,n9,(ii n10),n11,n12,n13,n14,(ii n15),(ii n16),(ii n17),n18]),(ii index19),snap20] w K:=
 qJm (adv:=adv15) Tryz.func15 hn (Eq.mpr (by kernel_rfl) h)
set_option maxRecDepth 100000 in
def F21(hk:Hook)(n0 n1 n2 n3 n4 n5 n6 n7:Int)(n8 n9:AV)(n10:Int)(n11 n12 n13 n14:AV)(n15 n16 n17:Int)(n18:AV)(w:AW)(K:AV→AW→Prop):Prop:=
 gd (List.all [(ii n0),(ii n1),(.int .u8 n2),(ii n3),(ii n4),(ii n5),(ii n6),(ii n7),n8,n9,(ii n10),n11,n12,n13,n14,(ii n15),(ii n16),(ii n17),n18] qJc) (
 new w [(ii n0),(ii n1),(.int .u8 n2),(ii n3),(ii n4),(ii n5),(ii n6),(ii n7),n8,n9,(ii n10),n11,n12,n13,n14,(ii n15),(ii n16),(ii n17),n18] fun b19 w20=>
 new w20 [(ii 0),(ii 0),(.int .u8 0),(ii 0),(ii 0),(ii 0),(ii 0),(ii 0),.nilslice,.nilslice,(ii 0),.nilslice,.nilslice,.nilslice,.nilslice,(ii 0),(ii 0),(ii 0),.nilslice] fun b21 w22=>
 ∃x23 x24 x25 x26 x27 x28 x29 x30:Int,∃x31 x32:AV,∃x33:Int,∃x34 x35 x36 x37:AV,∃x38 x39 x40:Int,∃x41:AV,ldN 19 w22 b19 0=some (.agg [(ii x23),(ii x24),(.int .u8 x25),(ii x26),(ii x27),(ii x28),(ii x29),(ii x30),x31,x32,(ii x33),x34,x35,x36,x37,(ii x38),(ii x39),(ii x40),x41])∧
 Cl Tryz.prog hk 8 [(.agg [(ii x23),(ii x24),(.int .u8 x25),(ii x26),(ii x27),(ii x28),(ii x29),(ii x30),x31,x32,(ii x33),x34,x35,x36,x37,(ii x38),(ii x39),(ii x40),x41])] w22 fun r42 w43=>
 ∃x44:Bool,r42=(.bool x44)∧
 ifT (!x44) (onM (AW.putCells w43 b21 0 [(ii 0),(ii 0),(.int .u8 0),(ii 0),(ii 0),(ii 0),(ii 0),(ii 0),.nilslice,.nilslice,(ii 0),.nilslice,.nilslice,.nilslice,.nilslice,(ii 0),(ii 0),(ii 0),.nilslice]) fun w45=>
  ∃res46 res47 res48 res49 res50 res51 res52 res53:Int,∃res54 res55:AV,∃res56:Int,∃res57 res58 res59 res60:AV,∃res61 res62 res63:Int,∃res64:AV,ldN 19 w45 b21 0=some (.agg [(ii res46),(ii res47),(.int .u8 res48),(ii res49),(ii res50),(ii res51),(ii res52),(ii res53),res54,res55,(ii res56),res57,res58,res59,res60,(ii res61),(ii res62),(ii res63),res64])∧
 K (.tup [(.agg [(ii res46),(ii res47),(.int .u8 res48),(ii res49),(ii res50),(ii res51),(ii res52),(ii res53),res54,res55,(ii res56),res57,res58,res59,res60,(ii res61),(ii res62),(ii res63),res64]),.nilslice,(ii 2)]) w45)
 (∃x65 x66 x67 x68 x69 x70 x71 x72:Int,∃x73 x74:AV,∃x75:Int,∃x76 x77 x78 x79:AV,∃x80 x81 x82:Int,∃x83:AV,ldN 19 w43 b19 0=some (.agg [(ii x65),(ii x66),(.int .u8 x67),(ii x68),(ii x69),(ii x70),(ii x71),(ii x72),x73,x74,(ii x75),x76,x77,x78,x79,(ii x80),(ii x81),(ii x82),x83])∧
 Cl Tryz.prog hk 43 [(.agg [(ii x65),(ii x66),(.int .u8 x67),(ii x68),(ii x69),(ii x70),(ii x71),(ii x72),x73,x74,(ii x75),x76,x77,x78,x79,(ii x80),(ii x81),(ii x82),x83]),(ii 0)] w43 fun r84 w85=>
 onM (ld w85 b19 (0+14)) fun x86=>
 Cl Tryz.prog hk 66 [x86] w85 fun r87 w88=>
 ∃x89:Int,r87=(ii x89)∧
 new w88 [(ii 0)] fun b90 w91=>
 onM (AW.putCells w91 b90 0 [(ii x89)]) fun w92=>
 onP r84 fun b93 o94=>
 onM (ld w92 b93 ((o94+0)+18)) fun x95=>
 Cl Tryz.prog hk 67 [x95,(.func 68 [] [(.ptr b90 0)])] w92 fun r96 w97=>
 ∃i98:Int,r96=(ii i98)∧
 join (fun l_99 w100=>∃i102:Int,l_99=[(ii i102)]∧∀_:Nat→AV,
  onP r84 fun b103 o104=>
  onM (ld w100 b103 ((o104+0)+18)) fun x105=>
  onM (slS 3 x105 none (some (ii i102)) none) fun x106=>
  Cl Tryz.prog hk 69 [x106] w100 fun r107 w108=>
  onP r84 fun b109 o110=>
  onM (ld w108 b109 ((o110+0)+18)) fun x111=>
  onM (slS 3 x111 (some (ii i102)) none none) fun x112=>
  Cl Tryz.prog hk 69 [x112] w108 fun r113 w114=>
  onP r84 fun b115 o116=>
  gd (qJc r113) (
  onM (AW.putCells w114 b115 ((o116+0)+18) [r113]) fun w117=>
  onP r84 fun b118 o119=>
  ∃x120 x121 x122 x123 x124 x125 x126 x127:Int,∃x128 x129:AV,∃x130:Int,∃x131 x132 x133 x134:AV,∃x135 x136 x137:Int,∃x138:AV,ldN 19 w117 b118 (o119+0)=some (.agg [(ii x120),(ii x121),(.int .u8 x122),(ii x123),(ii x124),(ii x125),(ii x126),(ii x127),x128,x129,(ii x130),x131,x132,x133,x134,(ii x135),(ii x136),(ii x137),x138])∧
  gd (List.all [(ii x120),(ii x121),(.int .u8 x122),(ii x123),(ii x124),(ii x125),(ii x126),(ii x127),x128,x129,(ii x130),x131,x132,x133,x134,(ii x135),(ii x136),(ii x137),x138] qJc) (
  onM (AW.putCells w117 b21 0 [(ii x120),(ii x121),(.int .u8 x122),(ii x123),(ii x124),(ii x125),(ii x126),(ii x127),x128,x129,(ii x130),x131,x132,x133,x134,(ii x135),(ii x136),(ii x137),x138]) fun w139=>
  ∃res140 res141 res142 res143 res144 res145 res146 res147:Int,∃res148 res149:AV,∃res150:Int,∃res151 res152 res153 res154:AV,∃res155 res156 res157:Int,∃res158:AV,ldN 19 w139 b21 0=some (.agg [(ii res140),(ii res141),(.int .u8 res142),(ii res143),(ii res144),(ii res145),(ii res146),(ii res147),res148,res149,(ii res150),res151,res152,res153,res154,(ii res155),(ii res156),(ii res157),res158])∧
 K (.tup [(.agg [(ii res140),(ii res141),(.int .u8 res142),(ii res143),(ii res144),(ii res145),(ii res146),(ii res147),res148,res149,(ii res150),res151,res152,res153,res154,(ii res155),(ii res156),(ii res157),res158]),r107,(ii 0)]) w139))) fun J101=>
 ifT (decide (i98<0)) (onP r84 fun b159 o160=>
  onM (ld w97 b159 ((o160+0)+18)) fun x161=>
  ∃i162:Int,lenS x161=some (ii i162)∧
  J101 [(ii i162)] w97)
 (J101 [(ii i98)] w97)))
def adv21:Adv:=(.sq .lf (.sq (.sq .lf (.cd (.sq .lf .lf) .lf)) (.sq .lf (.sq .lf (.sq .lf (.sj [(7,.sc (.int .i64))] (.sq .lf (.cd .lf .lf)) (.sq .lf (.sq .lf (.sq .lf .lf)))))))))
set_option maxRecDepth 100000 in
theorem in21 {hk:Hook}{n0 n1 n2 n3 n4 n5 n6 n7:Int}{n8 n9:AV}{n10:Int}{n11 n12 n13 n14:AV}{n15 n16 n17:Int}{n18:AV}{w:AW}{K:AV→AW→Prop}(hn:hk 21 [(.agg [(ii n0),(ii n1),(.int .u8 n2),(ii n3),(ii n4),(ii n5),(ii n6),(ii n7),n8,n9,(ii n10),n11,n12,n13,n14,(ii n15),(ii n16),(ii n17),n18])] w=none)(h:F21 hk n0 n1 n2 n3 n4 n5 n6 n7 n8 n9 n10 n11 n12 n13 n14 n15 n16 n17 n18 w K):Cl Tryz.prog hk 21 [(.agg [(ii n0),(ii n1),(.int .u8 n2),(ii n3),(ii n4),(ii n5),(ii n6),(ii n7),n8,n9,(ii n10),n11,n12,n13,n14,(ii n15),(ii n16),(ii n17),n18])] w K:=
 qJm (adv:=adv21) Tryz.func21 hn (Eq.mpr (by kernel_rfl) h)
set_option maxRecDepth 100000 in
def F25(hk:Hook)(id0 size1 draw2:Int)(w:AW)(K:AV→AW→Prop):Prop:=
 new w [(ii 0),(ii 0),(.int .u8 0),(ii 0),(ii 0),(ii 0),(ii 0),(ii 0),.nilslice,.nilslice,(ii 0),.nilslice,.nilslice,.nilslice,.nilslice,(ii 0),(ii 0),(ii 0),.nilslice] fun b3 w4=>
 ifT (decide (size1<1)) (onM (AW.putCells w4 b3 0 [(ii 0),(ii 0),(.int .u8 0),(ii 0),(ii 0),(ii 0),(ii 0),(ii 0),.nilslice,.nilslice,(ii 0),.nilslice,.nilslice,.nilslice,.nilslice,(ii 0),(ii 0),(ii 0),.nilslice]) fun w5=>
 ∃res6 res7 res8 res9 res10 res11 res12 res13:Int,∃res14 res15:AV,∃res16:Int,∃res17 res18 res19 res20:AV,∃res21 res22 res23:Int,∃res24:AV,ldN 19 w5 b3 0=some (.agg [(ii res6),(ii res7),(.int .u8 res8),(ii res9),(ii res10),(ii res11),(ii res12),(ii res13),res14,res15,(ii res16),res17,res18,res19,res20,(ii res21),(ii res22),(ii res23),res24])∧
 K (.tup [(.agg [(ii res6),(ii res7),(.int .u8 res8),(ii res9),(ii res10),(ii res11),(ii res12),(ii res13),res14,res15,(ii res16),res17,res18,res19,res20,(ii res21),(ii res22),(ii res23),res24]),(ii 2)]) w5)
 (ifT (decide (9<size1)) (onM (AW.putCells w4 b3 0 [(ii 0),(ii 0),(.int .u8 0),(ii 0),(ii 0),(ii 0),(ii 0),(ii 0),.nilslice,.nilslice,(ii 0),.nilslice,.nilslice,.nilslice,.nilslice,(ii 0),(ii 0),(ii 0),.nilslice]) fun w25=>
 ∃res26 res27 res28 res29 res30 res31 res32 res33:Int,∃res34 res35:AV,∃res36:Int,∃res37 res38 res39 res40:AV,∃res41 res42 res43:Int,∃res44:AV,ldN 19 w25 b3 0=some (.agg [(ii res26),(ii res27),(.int .u8 res28),(ii res29),(ii res30),(ii res31),(ii res32),(ii res33),res34,res35,(ii res36),res37,res38,res39,res40,(ii res41),(ii res42),(ii res43),res44])∧
 K (.tup [(.agg [(ii res26),(ii res27),(.int .u8 res28),(ii res29),(ii res30),(ii res31),(ii res32),(ii res33),res34,res35,(ii res36),res37,res38,res39,res40,(ii res41),(ii res42),(ii res43),res44]),(ii 2)]) w25)
 (ifT (decide (id0<1)) (onM (AW.putCells w4 b3 0 [(ii 0),(ii 0),(.int .u8 0),(ii 0),(ii 0),(ii 0),(ii 0),(ii 0),.nilslice,.nilslice,(ii 0),.nilslice,.nilslice,.nilslice,.nilslice,(ii 0),(ii 0),(ii 0),.nilslice]) fun w45=>
 ∃res46 res47 res48 res49 res50 res51 res52 res53:Int,∃res54 res55:AV,∃res56:Int,∃res57 res58 res59 res60:AV,∃res61 res62 res63:Int,∃res64:AV,ldN 19 w45 b3 0=some (.agg [(ii res46),(ii res47),(.int .u8 res48),(ii res49),(ii res50),(ii res51),(ii res52),(ii res53),res54,res55,(ii res56),res57,res58,res59,res60,(ii res61),(ii res62),(ii res63),res64])∧
 K (.tup [(.agg [(ii res46),(ii res47),(.int .u8 res48),(ii res49),(ii res50),(ii res51),(ii res52),(ii res53),res54,res55,(ii res56),res57,res58,res59,res60,(ii res61),(ii res62),(ii res63),res64]),(ii 2)]) w45)
 (ifT (decide (size1<id0)) (onM (AW.putCells w4 b3 0 [(ii 0),(ii 0),(.int .u8 0),(ii 0),(ii 0),(ii 0),(ii 0),(ii 0),.nilslice,.nilslice,(ii 0),.nilslice,.nilslice,.nilslice,.nilslice,(ii 0),(ii 0),(ii 0),.nilslice]) fun w65=>
  ∃res66 res67 res68 res69 res70 res71 res72 res73:Int,∃res74 res75:AV,∃res76:Int,∃res77 res78 res79 res80:AV,∃res81 res82 res83:Int,∃res84:AV,ldN 19 w65 b3 0=some (.agg [(ii res66),(ii res67),(.int .u8 res68),(ii res69),(ii res70),(ii res71),(ii res72),(ii res73),res74,res75,(ii res76),res77,res78,res79,res80,(ii res81),(ii res82),(ii res83),res84])∧
 K (.tup [(.agg [(ii res66),(ii res67),(.int .u8 res68),(ii res69),(ii res70),(ii res71),(ii res72),(ii res73),res74,res75,(ii res76),res77,res78,res79,res80,(ii res81),(ii res82),(ii res83),res84]),(ii 2)]) w65)
 (onM (asN (ii size1)) fun n85=>
 onM (asN (ii size1)) fun n86=>
 gd (Nat.ble n85 n86&&Nat.ble (n86 * 1) (2^47)&&Nat.blt n86 (2^63)&&true) (new w4 (repl n86 [(.bool false)]) fun b87 w88=>
 onM (asN (ii size1)) fun n89=>
 onM (asN (ii size1)) fun n90=>
 gd (Nat.ble n89 n90&&Nat.ble (n90 * 8) (2^47)&&Nat.blt n90 (2^63)&&true) (new w88 (repl n90 [(ii 0)]) fun b91 w92=>
 onM (asN (ii size1)) fun n93=>
 onM (asN (ii size1)) fun n94=>
 gd (Nat.ble n93 n94&&Nat.ble (n94 * 8) (2^47)&&Nat.blt n94 (2^63)&&true) (new w92 (repl n94 [(ii 0)]) fun b95 w96=>
 onM (asN (ii size1)) fun n97=>
 onM (asN (ii size1)) fun n98=>
 gd (Nat.ble n97 n98&&Nat.ble (n98 * 8) (2^47)&&Nat.blt n98 (2^63)&&true) (new w96 (repl n98 [(ii 0)]) fun b99 w100=>
 Cl Tryz.prog hk 71 [(ii draw2)] w100 fun r101 w102=>
 ∃x103:Int,r101=(ii x103)∧
 onM (AW.putCells w102 b3 0 [(ii id0),(ii size1),(.int .u8 1),(ii 0),(ii 0),(ii 0),(ii 0),(ii 0),.nilslice,.nilslice,(ii 0),(.slice b87 0 n85 n86 none),(.slice b91 0 n89 n90 none),(.slice b95 0 n93 n94 none),(.slice b99 0 n97 n98 none),(ii 0),(ii 0),(ii x103),.nilslice]) fun w104=>
 ∃res105 res106 res107 res108 res109 res110 res111 res112:Int,∃res113 res114:AV,∃res115:Int,∃res116 res117 res118 res119:AV,∃res120 res121 res122:Int,∃res123:AV,ldN 19 w104 b3 0=some (.agg [(ii res105),(ii res106),(.int .u8 res107),(ii res108),(ii res109),(ii res110),(ii res111),(ii res112),res113,res114,(ii res115),res116,res117,res118,res119,(ii res120),(ii res121),(ii res122),res123])∧
 K (.tup [(.agg [(ii res105),(ii res106),(.int .u8 res107),(ii res108),(ii res109),(ii res110),(ii res111),(ii res112),res113,res114,(ii res115),res116,res117,res118,res119,(ii res120),(ii res121),(ii res122),res123]),(ii 0)]) w104))))))))
def adv25:Adv:=(.sq .lf (.sq (.sq .lf (.cd (.sq .lf .lf) .lf)) (.sq .lf .lf)))
set_option maxRecDepth 100000 in
theorem in25 {hk:Hook}{id0 size1 draw2:Int}{w:AW}{K:AV→AW→Prop}(hn:hk 25 [(ii id0),(ii size1),(ii draw2)] w=none)(h:F25 hk id0 size1 draw2 w K):Cl Tryz.prog hk 25 [(ii id0),(ii size1),(ii draw2)] w K:=
 qJm (adv:=adv25) Tryz.func25 hn (Eq.mpr (by kernel_rfl) h)
def F43(hk:Hook)(n0 n1 n2 n3 n4 n5 n6 n7:Int)(n8 n9:AV)(n10:Int)(n11 n12 n13 n14:AV)(n15 n16 n17:Int)(n18:AV)(draw19:Int)(w:AW)(K:AV→AW→Prop):Prop:=
 gd (List.all [(ii n0),(ii n1),(.int .u8 n2),(ii n3),(ii n4),(ii n5),(ii n6),(ii n7),n8,n9,(ii n10),n11,n12,n13,n14,(ii n15),(ii n16),(ii n17),n18] qJc) (
 new w [(ii n0),(ii n1),(.int .u8 n2),(ii n3),(ii n4),(ii n5),(ii n6),(ii n7),n8,n9,(ii n10),n11,n12,n13,n14,(ii n15),(ii n16),(ii n17),n18] fun b20 w21=>
 onM (ld w21 b20 (0+9)) fun x22=>
 onM (ld w21 b20 (0+8)) fun x23=>
 Cl Tryz.prog hk 83 [x22] w21 fun r24 w25=>
 ld w25 b20 (0+8)=some x23∧
 Cl Tryz.prog hk 55 [x23] w25 fun r26 w27=>
 gd (qJc r24) (
 onM (AW.putCells w27 b20 (0+9) [r24]) fun w28=>
 gd (qJc r26) (
 onM (AW.putCells w28 b20 (0+8) [r26]) fun w29=>
 onM (ld w29 b20 (0+11)) fun x30=>
 onM (ld w29 b20 (0+12)) fun x31=>
 onM (ld w29 b20 (0+13)) fun x32=>
 onM (ld w29 b20 (0+14)) fun x33=>
 onM (ld w29 b20 (0+18)) fun x34=>
 Cl Tryz.prog hk 84 [x30] w29 fun r35 w36=>
 ld w36 b20 (0+18)=some x34∧
 ld w36 b20 (0+14)=some x33∧
 ld w36 b20 (0+13)=some x32∧
 ld w36 b20 (0+12)=some x31∧
 Cl Tryz.prog hk 85 [x31] w36 fun r37 w38=>
 ld w38 b20 (0+18)=some x34∧
 ld w38 b20 (0+14)=some x33∧
 ld w38 b20 (0+13)=some x32∧
 Cl Tryz.prog hk 85 [x32] w38 fun r39 w40=>
 ld w40 b20 (0+18)=some x34∧
 ld w40 b20 (0+14)=some x33∧
 Cl Tryz.prog hk 85 [x33] w40 fun r41 w42=>
 ld w42 b20 (0+18)=some x34∧
 Cl Tryz.prog hk 69 [x34] w42 fun r43 w44=>
 gd (qJc r35) (
 onM (AW.putCells w44 b20 (0+11) [r35]) fun w45=>
 gd (qJc r37) (
 onM (AW.putCells w45 b20 (0+12) [r37]) fun w46=>
 gd (qJc r39) (
 onM (AW.putCells w46 b20 (0+13) [r39]) fun w47=>
 gd (qJc r41) (
 onM (AW.putCells w47 b20 (0+14) [r41]) fun w48=>
 gd (qJc r43) (
 onM (AW.putCells w48 b20 (0+18) [r43]) fun w49=>
 ∃x50 x51 x52 x53 x54 x55 x56 x57:Int,∃x58 x59:AV,∃x60:Int,∃x61 x62 x63 x64:AV,∃x65 x66 x67:Int,∃x68:AV,ldN 19 w49 b20 0=some (.agg [(ii x50),(ii x51),(.int .u8 x52),(ii x53),(ii x54),(ii x55),(ii x56),(ii x57),x58,x59,(ii x60),x61,x62,x63,x64,(ii x65),(ii x66),(ii x67),x68])∧
 gd (List.all [(ii x50),(ii x51),(.int .u8 x52),(ii x53),(ii x54),(ii x55),(ii x56),(ii x57),x58,x59,(ii x60),x61,x62,x63,x64,(ii x65),(ii x66),(ii x67),x68,.nilslice,(ii draw19)] qJc) (
 new w49 [(ii x50),(ii x51),(.int .u8 x52),(ii x53),(ii x54),(ii x55),(ii x56),(ii x57),x58,x59,(ii x60),x61,x62,x63,x64,(ii x65),(ii x66),(ii x67),x68,.nilslice,(ii draw19)] fun b69 w70=>
 K (.ptr b69 0) w70)))))))))
def adv43:Adv:=(.sq .lf (.sq .lf (.sq .lf (.sq .lf .lf))))
set_option maxRecDepth 100000 in
theorem in43 {hk:Hook}{n0 n1 n2 n3 n4 n5 n6 n7:Int}{n8 n9:AV}{n10:Int}{n11 n12 n13 n14:AV}{n15 n16 n17:Int}{n18:AV}{draw19:Int}{w:AW}{K:AV→AW→Prop}(hn:hk 43 [(.agg [(ii n0),(ii n1),(.int .u8 n2),(ii n3),(ii n4),(ii n5),(ii n6),(ii n7),n8,n9,(ii n10),n11,n12,n13,n14,(ii n15),(ii n16),(ii n17),n18]),(ii draw19)] w=none)(h:F43 hk n0 n1 n2 n3 n4 n5 n6 n7 n8 n9 n10 n11 n12 n13 n14 n15 n16 n17 n18 draw19 w K):Cl Tryz.prog hk 43 [(.agg [(ii n0),(ii n1),(.int .u8 n2),(ii n3),(ii n4),(ii n5),(ii n6),(ii n7),n8,n9,(ii n10),n11,n12,n13,n14,(ii n15),(ii n16),(ii n17),n18]),(ii draw19)] w K:=
 qJm (adv:=adv43) Tryz.func43 hn (Eq.mpr (by kernel_rfl) h)
def F49(hk:Hook)(w0 do1:AV)(w:AW)(K:AV→AW→Prop):Prop:=
 zJ9 [(ii 1)] w fun R2 l_3 w4=>∃to5:Int,l_3=[(ii to5)]∧∀_:Nat→AV,
  onP w0 fun b6 o7=>
  ∃x8:Int,ld w4 b6 ((o7+0)+1)=some (ii x8)∧
  ifT (decide (to5≤x8)) (onP w0 fun b9 o10=>
  ∃x11:Int,ld w4 b9 ((o10+0)+0)=some (ii x11)∧
  ifT (!decide (to5=x11)) (Cv Tryz.prog hk do1 [(ii to5)] w4 fun r12 w13=>
  r12= .tup []∧
  R2 [(ii (wi (to5+1)))] w13)
  (R2 [(ii (wi (to5+1)))] w4))
  (K (.tup []) w4)
def adv49:Adv:=(.sq .lf (.bl (.lp [(4,.sc (.int .i64))] (.sq (.sq .lf (.cd .lf .lf)) (.sq (.bl (.sq .lf (.cd .lf .lf))) .lf)))))
set_option maxRecDepth 100000 in
theorem in49 {hk:Hook}{w0 do1:AV}{w:AW}{K:AV→AW→Prop}(hn:hk 49 [w0,do1] w=none)(h:F49 hk w0 do1 w K):Cl Tryz.prog hk 49 [w0,do1] w K:=
 qJm (adv:=adv49) Tryz.func49 hn (Eq.mpr (by kernel_rfl) h)
set_option maxRecDepth 100000 in
def F50(hk:Hook)(w0:AV)(to1:Int)(w:AW)(K:AV→AW→Prop):Prop:=
 onP w0 fun b2 o3=>
 ∃x4 x5 x6 x7 x8 x9 x10 x11:Int,∃x12 x13:AV,∃x14:Int,∃x15 x16 x17 x18:AV,∃x19 x20 x21:Int,∃x22:AV,ldN 19 w b2 (o3+0)=some (.agg [(ii x4),(ii x5),(.int .u8 x6),(ii x7),(ii x8),(ii x9),(ii x10),(ii x11),x12,x13,(ii x14),x15,x16,x17,x18,(ii x19),(ii x20),(ii x21),x22])∧
 new w [(ii 0),(ii 0),(.int .u8 0),(ii 0),(ii 0),(ii 0),(ii 0),(ii 0),.nilslice,.nilslice,(ii 0),.nilslice,.nilslice,.nilslice,.nilslice,(ii 0),(ii 0),(ii 0),.nilslice] fun b23 w24=>
 gd (List.all [(ii x4),(ii x5),(.int .u8 x6),(ii x7),(ii x8),(ii x9),(ii x10),(ii x11),x12,x13,(ii x14),x15,x16,x17,x18,(ii x19),(ii x20),(ii x21),x22] qJc) (
 onM (AW.putCells w24 b23 0 [(ii x4),(ii x5),(.int .u8 x6),(ii x7),(ii x8),(ii x9),(ii x10),(ii x11),x12,x13,(ii x14),x15,x16,x17,x18,(ii x19),(ii x20),(ii x21),x22]) fun w25=>
 onM (ld w25 b23 (0+12)) fun x26=>
 atP (idxS 1 x26 (ii (wi (to1 - 1)))) fun b27 o28=>
 ∃next29:Int,ld w25 b27 o28=some (ii next29)∧
 ∃x30:Int,ld w25 b23 (0+6)=some (ii x30)∧
 ifT (decide (next29≤x30)) (∃x31:Int,ld w25 b23 (0+6)=some (ii x31)∧
  ∃x32:Int,ld w25 b23 (0+7)=some (ii x32)∧
  ∃x33:Int,ld w25 b23 (0+15)=some (ii x33)∧
  onM (ld w25 b23 (0+8)) fun x34=>
  Cl Tryz.prog hk 55 [x34] w25 fun r35 w36=>
  ld w36 b23 (0+15)=some (ii x33)∧
  ld w36 b23 (0+7)=some (ii x32)∧
  ld w36 b23 (0+6)=some (ii x31)∧
  gd (qJc r35) (
  Cl Tryz.prog hk 92 [w0,(ii to1),(.agg [(.str []),(.int .u8 5),(ii 0),(ii 0),(ii 0),(ii x31),(ii x32),(ii 0),(ii x33),(.bool false),.nilslice,r35])] w36 fun r37 w38=>
  r37= .tup []∧
  K (.tup []) w38))
 (onM (ld w25 b23 (0+9)) fun x39=>
 ∃x40:Int,ld w25 b23 (0+6)=some (ii x40)∧
 be (wi ((wi (next29 - x40)) - 1)) fun x41=>
 onM (slS 2 x39 (some (ii x41)) none none) fun l_42=>
 join (fun l_43 w44=>∃l_46:AV,l_43=[l_46]∧∀_:Nat→AV,
  ∃x47 x48 x49 x50 x51 x52 x53 x54:Int,∃x55 x56:AV,∃x57:Int,∃x58 x59 x60 x61:AV,∃x62 x63 x64:Int,∃x65:AV,ldN 19 w44 b23 0=some (.agg [(ii x47),(ii x48),(.int .u8 x49),(ii x50),(ii x51),(ii x52),(ii x53),(ii x54),x55,x56,(ii x57),x58,x59,x60,x61,(ii x62),(ii x63),(ii x64),x65])∧
  Cl Tryz.prog hk 53 [(.agg [(ii x47),(ii x48),(.int .u8 x49),(ii x50),(ii x51),(ii x52),(ii x53),(ii x54),x55,x56,(ii x57),x58,x59,x60,x61,(ii x62),(ii x63),(ii x64),x65]),(ii (wi (next29 - 1)))] w44 fun r66 w67=>
  ∃x68:Int,∃x69:Bool,r66= .tup [(ii x68),(.bool x69)]∧
  ∃x70:Int,ld w67 b23 (0+10)=some (ii x70)∧
  ∃x71:Int,ld w67 b23 (0+15)=some (ii x71)∧
  Cl Tryz.prog hk 83 [l_46] w67 fun r72 w73=>
  ld w73 b23 (0+15)=some (ii x71)∧
  ld w73 b23 (0+10)=some (ii x70)∧
  gd (qJc r72) (
  Cl Tryz.prog hk 92 [w0,(ii to1),(.agg [(.str []),(.int .u8 3),(ii 0),(ii 0),(ii 0),(ii (wi (next29 - 1))),(ii x68),(ii x70),(ii x71),(.bool false),r72,.nilslice])] w73 fun r74 w75=>
  r74= .tup []∧
  K (.tup []) w75)) fun J45=>
 ∃x76:Int,lenS l_42=some (ii x76)∧
 zJ9 [l_42,(ii 0),(ii 0)] w25 fun R77 l_78 w79=>∃l_80:AV,∃size81 x82:Int,l_78=[l_80,(ii size81),(ii x82)]∧∀_:Nat→AV,
  ifT (decide (x82<x76)) (atP (idxS 2 l_42 (ii x82)) fun b83 o84=>
  ∃x85:Int,∃x86:AV,ldN 2 w79 b83 o84=some (.agg [(ii x85),x86])∧
  new w79 [(ii 0),.nilslice] fun b87 w88=>
  gd (List.all [(ii x85),x86] qJc) (
  onM (AW.putCells w88 b87 0 [(ii x85),x86]) fun w89=>
  onM (ld w89 b87 (0+1)) fun x90=>
  ∃x91:Int,lenS x90=some (ii x91)∧
  ifT (decide (x82=8)) (onM (slS 2 l_80 none (some (ii x82)) none) fun l_92=>
  J45 [l_92] w89)
  (ifT (decide (60000<(wi (size81+x91)))) (onM (slS 2 l_80 none (some (ii x82)) none) fun l_93=>
  J45 [l_93] w89)
  (R77 [l_80,(ii (wi (size81+x91))),(ii (wi (x82+1)))] w89))))
  (J45 [l_80] w79)))
def adv50:Adv:=(.sq .lf (.sq .lf (.sq (.sq .lf (.cd (.sq .lf .lf) .lf)) (.sq .lf (.sq .lf (.sj [(6,.sc (.opq))] (.sq .lf (.bl (.lp [(6,.sc (.opq)),(7,.sc (.int .i64)),(49,.sc (.int .i64))] (.sq .lf (.sq (.cd .lf .lf) (.sq (.bl (.sq .lf (.sq .lf (.sq .lf (.cd (.sq .lf .lf) .lf))))) .lf)))))) (.sq .lf .lf)))))))
set_option maxRecDepth 100000 in
theorem in50 {hk:Hook}{w0:AV}{to1:Int}{w:AW}{K:AV→AW→Prop}(hn:hk 50 [w0,(ii to1)] w=none)(h:F50 hk w0 to1 w K):Cl Tryz.prog hk 50 [w0,(ii to1)] w K:=
 qJm (adv:=adv50) Tryz.func50 hn (Eq.mpr (by kernel_rfl) h)
def F52(hk:Hook)(w0 data1:AV)(w:AW)(K:AV→AW→Prop):Prop:=
 onP w0 fun b2 o3=>
 onM (ld w b2 ((o3+0)+9)) fun x4=>
 ∃x5:Int,ld w b2 ((o3+0)+3)=some (ii x5)∧
 Cl Tryz.prog hk 55 [data1] w fun r6 w7=>
 gd (qJc r6) (
 gd (List.all [(ii x5),r6] qJc) (
 new w7 [(ii x5),r6] fun b8 w9=>
 gd (qJc x4) (
 new w9 [x4,(.slice b8 0 1 1 none)] fun b10 w11=>
 ld w11 b2 ((o3+0)+3)=some (ii x5)∧
 ld w11 b2 ((o3+0)+9)=some x4∧
 Cl Tryz.prog hk 95 [(.slice b10 0 2 2 none)] w11 fun r12 w13=>
 gd (qJc r12) (
 onM (AW.putCells w13 b2 ((o3+0)+9) [r12]) fun w14=>
 onM (ld w14 b2 ((o3+0)+13)) fun x15=>
 ∃x16:Int,ld w14 b2 ((o3+0)+0)=some (ii x16)∧
 onM (ld w14 b2 ((o3+0)+12)) fun x17=>
 ∃x18:Int,ld w14 b2 ((o3+0)+0)=some (ii x18)∧
 ∃x19 x20 x21 x22 x23 x24 x25 x26:Int,∃x27 x28:AV,∃x29:Int,∃x30 x31 x32 x33:AV,∃x34 x35 x36:Int,∃x37:AV,ldN 19 w14 b2 (o3+0)=some (.agg [(ii x19),(ii x20),(.int .u8 x21),(ii x22),(ii x23),(ii x24),(ii x25),(ii x26),x27,x28,(ii x29),x30,x31,x32,x33,(ii x34),(ii x35),(ii x36),x37])∧
 ∃x38 x39 x40 x41 x42 x43 x44 x45:Int,∃x46 x47:AV,∃x48:Int,∃x49 x50 x51 x52:AV,∃x53 x54 x55:Int,∃x56:AV,ldN 19 w14 b2 (o3+0)=some (.agg [(ii x38),(ii x39),(.int .u8 x40),(ii x41),(ii x42),(ii x43),(ii x44),(ii x45),x46,x47,(ii x48),x49,x50,x51,x52,(ii x53),(ii x54),(ii x55),x56])∧
 Cl Tryz.prog hk 36 [(.agg [(ii x19),(ii x20),(.int .u8 x21),(ii x22),(ii x23),(ii x24),(ii x25),(ii x26),x27,x28,(ii x29),x30,x31,x32,x33,(ii x34),(ii x35),(ii x36),x37])] w14 fun r57 w58=>
 ∃x59:Int,r57=(ii x59)∧
 ldN 19 w58 b2 (o3+0)=some (.agg [(ii x38),(ii x39),(.int .u8 x40),(ii x41),(ii x42),(ii x43),(ii x44),(ii x45),x46,x47,(ii x48),x49,x50,x51,x52,(ii x53),(ii x54),(ii x55),x56])∧
 ld w58 b2 ((o3+0)+0)=some (ii x18)∧
 ld w58 b2 ((o3+0)+12)=some x17∧
 ld w58 b2 ((o3+0)+0)=some (ii x16)∧
 ld w58 b2 ((o3+0)+13)=some x15∧
 Cl Tryz.prog hk 36 [(.agg [(ii x38),(ii x39),(.int .u8 x40),(ii x41),(ii x42),(ii x43),(ii x44),(ii x45),x46,x47,(ii x48),x49,x50,x51,x52,(ii x53),(ii x54),(ii x55),x56])] w58 fun r60 w61=>
 ∃x62:Int,r60=(ii x62)∧
 ld w61 b2 ((o3+0)+0)=some (ii x18)∧
 ld w61 b2 ((o3+0)+12)=some x17∧
 ld w61 b2 ((o3+0)+0)=some (ii x16)∧
 ld w61 b2 ((o3+0)+13)=some x15∧
 atP (idxS 1 x15 (ii (wi (x16 - 1)))) fun b63 o64=>
 onM (AW.putCells w61 b63 o64 [(ii x59)]) fun w65=>
 atP (idxS 1 x17 (ii (wi (x18 - 1)))) fun b66 o67=>
 onM (AW.putCells w65 b66 o67 [(ii (wi (x62+1)))]) fun w68=>
 Cl Tryz.prog hk 96 [w0] w68 fun r69 w70=>
 r69= .tup []∧
 Cl Tryz.prog hk 49 [w0,(.func 50 [w0] [])] w70 fun r71 w72=>
 r71= .tup []∧
 K (.tup []) w72))))
def adv52:Adv:=(.sq .lf (.sq .lf (.sq .lf (.sq .lf .lf))))
set_option maxRecDepth 100000 in
theorem in52 {hk:Hook}{w0 data1:AV}{w:AW}{K:AV→AW→Prop}(hn:hk 52 [w0,data1] w=none)(h:F52 hk w0 data1 w K):Cl Tryz.prog hk 52 [w0,data1] w K:=
 qJm (adv:=adv52) Tryz.func52 hn (Eq.mpr (by kernel_rfl) h)
def F54(hk:Hook)(slices0:AV)(w:AW)(K:AV→AW→Prop):Prop:=
 ∃x1:Int,lenS slices0=some (ii x1)∧
 zJ9 [(ii 0),(ii 0)] w fun R2 l_3 w4=>∃size5 x6:Int,l_3=[(ii size5),(ii x6)]∧∀_:Nat→AV,
  ifT (decide (x6<x1)) (atP (idxS 1 slices0 (ii x6)) fun b7 o8=>
  onM (ld w4 b7 o8) fun s9=>
  ∃x10:Int,lenS s9=some (ii x10)∧
  ifT (decide ((wi (size5+x10))<0)) (False)
  (R2 [(ii (wi (size5+x10))),(ii (wi (x6+1)))] w4))
  (Cl Tryz.prog hk 98 [.nilslice,(ii size5)] w4 fun r11 w12=>
 ∃x13:Int,lenS slices0=some (ii x13)∧
 zJ9 [r11,(ii 0)] w12 fun R14 l_15 w16=>∃newslice17:AV,∃x18:Int,l_15=[newslice17,(ii x18)]∧∀_:Nat→AV,
  ifT (decide (x18<x13)) (atP (idxS 1 slices0 (ii x18)) fun b19 o20=>
  onM (ld w16 b19 o20) fun s21=>
  onE (appS 3 24 w16 newslice17 s21) fun newslice22 w23=>
  R14 [newslice22,(ii (wi (x18+1)))] w23)
  (K newslice17 w16))
def adv54:Adv:=(.sq .lf (.sq .lf (.sq (.sq .lf (.bl (.lp [(3,.sc (.int .i64)),(11,.sc (.int .i64))] (.sq .lf (.sq (.cd .lf .lf) (.sq (.bl (.sq .lf (.sq .lf (.sq .lf (.cd .lf .lf))))) .lf)))))) (.sq .lf (.sq (.sq .lf (.bl (.lp [(6,.sc (.opq)),(27,.sc (.int .i64))] (.sq .lf (.sq (.cd .lf .lf) (.sq (.bl (.sq .lf .lf)) .lf)))))) (.sq .lf .lf))))))
set_option maxRecDepth 100000 in
theorem in54 {hk:Hook}{slices0:AV}{w:AW}{K:AV→AW→Prop}(hn:hk 54 [slices0] w=none)(h:F54 hk slices0 w K):Cl Tryz.prog hk 54 [slices0] w K:=
 qJm (adv:=adv54) Tryz.func54 hn (Eq.mpr (by kernel_rfl) h)
def F55(hk:Hook)(s0:AV)(w:AW)(K:AV→AW→Prop):Prop:=
 ∃x1:Bool,jJ6 Tryz.prog .eql 23 true s0 .nilslice=some (.bool x1)∧
 ifT x1 (K .nilslice w)
 (new w [] fun b2 w3=>
 onE (appS 1 1 w3 (.slice b2 0 0 0 none) s0) fun x4 w5=>
 K x4 w5)
def adv55:Adv:=(.sq .lf (.sq (.sq .lf (.cd (.sq .lf .lf) .lf)) (.sq .lf .lf)))
set_option maxRecDepth 100000 in
theorem in55 {hk:Hook}{s0:AV}{w:AW}{K:AV→AW→Prop}(hn:hk 55 [s0] w=none)(h:F55 hk s0 w K):Cl Tryz.prog hk 55 [s0] w K:=
 qJm (adv:=adv55) Tryz.func55 hn (Eq.mpr (by kernel_rfl) h)
def F67(hk:Hook)(s0 f1:AV)(w:AW)(K:AV→AW→Prop):Prop:=
 ∃x2:Int,lenS s0=some (ii x2)∧
 zJ9 [(ii 0)] w fun R3 l_4 w5=>∃x6:Int,l_4=[(ii x6)]∧∀_:Nat→AV,
  ifT (decide (x6<x2)) (atP (idxS 3 s0 (ii x6)) fun b7 o8=>
  ∃x9 x10 x11:Int,ldN 3 w5 b7 o8=some (.agg [(ii x9),(ii x10),(ii x11)])∧
  Cv Tryz.prog hk f1 [(.agg [(ii x9),(ii x10),(ii x11)])] w5 fun r12 w13=>
  ∃x14:Bool,r12=(.bool x14)∧
  ifT x14 (K (ii x6) w13)
  (R3 [(ii (wi (x6+1)))] w13))
  (K (ii (-1)) w5)
def adv67:Adv:=(.sq .lf (.sq (.sq .lf (.bl (.lp [(8,.sc (.int .i64))] (.sq .lf (.sq (.cd .lf .lf) (.sq (.bl (.sq .lf (.sq .lf (.cd (.sq .lf .lf) .lf)))) .lf)))))) (.sq .lf .lf)))
set_option maxRecDepth 100000 in
theorem in67 {hk:Hook}{s0 f1:AV}{w:AW}{K:AV→AW→Prop}(hn:hk 67 [s0,f1] w=none)(h:F67 hk s0 f1 w K):Cl Tryz.prog hk 67 [s0,f1] w K:=
 qJm (adv:=adv67) Tryz.func67 hn (Eq.mpr (by kernel_rfl) h)
def F68(hk:Hook)(r0 r1 r2:Int)(cap3:AV)(w:AW)(K:AV→AW→Prop):Prop:=
 new w [(ii r0),(ii r1),(ii r2)] fun b4 w5=>
 ∃x6:Int,ld w5 b4 (0+2)=some (ii x6)∧
 onP cap3 fun b7 o8=>
 ∃x9:Int,ld w5 b7 o8=some (ii x9)∧
 K (.bool (decide (x9<x6))) w5
def adv68:Adv:=(.sq .lf (.sq .lf .lf))
set_option maxRecDepth 100000 in
theorem in68 {hk:Hook}{r0 r1 r2:Int}{cap3:AV}{w:AW}{K:AV→AW→Prop}(hn:hk 68 [(.agg [(ii r0),(ii r1),(ii r2)]),cap3] w=none)(h:F68 hk r0 r1 r2 cap3 w K):Cl Tryz.prog hk 68 [(.agg [(ii r0),(ii r1),(ii r2)]),cap3] w K:=
 qJm (adv:=adv68) Tryz.func68 hn (Eq.mpr (by kernel_rfl) h)
def F69(hk:Hook)(s0:AV)(w:AW)(K:AV→AW→Prop):Prop:=
 ∃x1:Bool,jJ6 Tryz.prog .eql 27 true s0 .nilslice=some (.bool x1)∧
 ifT x1 (K .nilslice w)
 (new w [] fun b2 w3=>
 onE (appS 3 24 w3 (.slice b2 0 0 0 none) s0) fun x4 w5=>
 K x4 w5)
def adv69:Adv:=(.sq .lf (.sq (.sq .lf (.cd (.sq .lf .lf) .lf)) (.sq .lf .lf)))
set_option maxRecDepth 100000 in
theorem in69 {hk:Hook}{s0:AV}{w:AW}{K:AV→AW→Prop}(hn:hk 69 [s0] w=none)(h:F69 hk s0 w K):Cl Tryz.prog hk 69 [s0] w K:=
 qJm (adv:=adv69) Tryz.func69 hn (Eq.mpr (by kernel_rfl) h)
def F71(hk:Hook)(draw0:Int)(w:AW)(K:AV→AW→Prop):Prop:=
 be (wi ((Int.tmod draw0 10)+10)) fun x1=>
 K (ii (wi (10+(Int.tmod x1 10)))) w
def adv71:Adv:=(.sq .lf (.sq .lf .lf))
set_option maxRecDepth 100000 in
theorem in71 {hk:Hook}{draw0:Int}{w:AW}{K:AV→AW→Prop}(hn:hk 71 [(ii draw0)] w=none)(h:F71 hk draw0 w K):Cl Tryz.prog hk 71 [(ii draw0)] w K:=
 qJm (adv:=adv71) Tryz.func71 hn (Eq.mpr (by kernel_rfl) h)
def F83(hk:Hook)(l_0:AV)(w:AW)(K:AV→AW→Prop):Prop:=
 Cl Tryz.prog hk 112 [l_0] w fun r1 w2=>
 ∃x3:Int,lenS r1=some (ii x3)∧
 zJ9 [(ii 0)] w2 fun R4 l_5 w6=>∃x7:Int,l_5=[(ii x7)]∧∀_:Nat→AV,
  ifT (decide (x7<x3)) (atP (idxS 2 r1 (ii x7)) fun b8 o9=>
  onM (ld w6 b8 (o9+1)) fun x10=>
  Cl Tryz.prog hk 55 [x10] w6 fun r11 w12=>
  atP (idxS 2 r1 (ii x7)) fun b13 o14=>
  gd (qJc r11) (
  onM (AW.putCells w12 b13 (o14+1) [r11]) fun w15=>
  R4 [(ii (wi (x7+1)))] w15))
  (K r1 w6)
def adv83:Adv:=(.sq .lf (.sq .lf (.sq (.sq .lf (.bl (.lp [(9,.sc (.int .i64))] (.sq .lf (.sq (.cd .lf .lf) (.sq (.bl (.sq .lf .lf)) .lf)))))) (.sq .lf .lf))))
set_option maxRecDepth 100000 in
theorem in83 {hk:Hook}{l_0:AV}{w:AW}{K:AV→AW→Prop}(hn:hk 83 [l_0] w=none)(h:F83 hk l_0 w K):Cl Tryz.prog hk 83 [l_0] w K:=
 qJm (adv:=adv83) Tryz.func83 hn (Eq.mpr (by kernel_rfl) h)
def F84(hk:Hook)(s0:AV)(w:AW)(K:AV→AW→Prop):Prop:=
 ∃x1:Bool,jJ6 Tryz.prog .eql 25 true s0 .nilslice=some (.bool x1)∧
 ifT x1 (K .nilslice w)
 (new w [] fun b2 w3=>
 onE (appS 1 1 w3 (.slice b2 0 0 0 none) s0) fun x4 w5=>
 K x4 w5)
def adv84:Adv:=(.sq .lf (.sq (.sq .lf (.cd (.sq .lf .lf) .lf)) (.sq .lf .lf)))
set_option maxRecDepth 100000 in
theorem in84 {hk:Hook}{s0:AV}{w:AW}{K:AV→AW→Prop}(hn:hk 84 [s0] w=none)(h:F84 hk s0 w K):Cl Tryz.prog hk 84 [s0] w K:=
 qJm (adv:=adv84) Tryz.func84 hn (Eq.mpr (by kernel_rfl) h)
def F85(hk:Hook)(s0:AV)(w:AW)(K:AV→AW→Prop):Prop:=
 ∃x1:Bool,jJ6 Tryz.prog .eql 26 true s0 .nilslice=some (.bool x1)∧
 ifT x1 (K .nilslice w)
 (new w [] fun b2 w3=>
 onE (appS 1 8 w3 (.slice b2 0 0 0 none) s0) fun x4 w5=>
 K x4 w5)
def adv85:Adv:=(.sq .lf (.sq (.sq .lf (.cd (.sq .lf .lf) .lf)) (.sq .lf .lf)))
set_option maxRecDepth 100000 in
theorem in85 {hk:Hook}{s0:AV}{w:AW}{K:AV→AW→Prop}(hn:hk 85 [s0] w=none)(h:F85 hk s0 w K):Cl Tryz.prog hk 85 [s0] w K:=
 qJm (adv:=adv85) Tryz.func85 hn (Eq.mpr (by kernel_rfl) h)
def F92(hk:Hook)(w0:AV)(to1:Int)(m2:List UInt8)(m3 m4 m5 m6 m7 m8 m9 m10:Int)(m11:Bool)(m12 m13:AV)(w:AW)(K:AV→AW→Prop):Prop:=
 gd (List.all [(.str m2),(.int .u8 m3),(ii m4),(ii m5),(ii m6),(ii m7),(ii m8),(ii m9),(ii m10),(.bool m11),m12,m13] qJc) (
 new w [(.str m2),(.int .u8 m3),(ii m4),(ii m5),(ii m6),(ii m7),(ii m8),(ii m9),(ii m10),(.bool m11),m12,m13] fun b14 w15=>
 onP w0 fun b16 o17=>
 ∃x18:Int,ld w15 b16 ((o17+0)+0)=some (ii x18)∧
 onP w0 fun b19 o20=>
 ∃x21:Int,ld w15 b19 ((o20+0)+3)=some (ii x21)∧
 onM (AW.putCells w15 b14 (0+2) [(ii x18)]) fun w22=>
 ld w22 b19 ((o20+0)+3)=some (ii x21)∧
 onM (AW.putCells w22 b14 (0+3) [(ii to1)]) fun w23=>
 ld w23 b19 ((o20+0)+3)=some (ii x21)∧
 onM (AW.putCells w23 b14 (0+4) [(ii x21)]) fun w24=>
 onP w0 fun b25 o26=>
 onM (ld w24 b25 (o26+19)) fun x27=>
 ∃x28:List UInt8,∃x29 x30 x31 x32 x33 x34 x35 x36:Int,∃x37:Bool,∃x38 x39:AV,ldN 12 w24 b14 0=some (.agg [(.str x28),(.int .u8 x29),(ii x30),(ii x31),(ii x32),(ii x33),(ii x34),(ii x35),(ii x36),(.bool x37),x38,x39])∧
 gd (List.all [(.str x28),(.int .u8 x29),(ii x30),(ii x31),(ii x32),(ii x33),(ii x34),(ii x35),(ii x36),(.bool x37),x38,x39] qJc) (
 new w24 [(.str x28),(.int .u8 x29),(ii x30),(ii x31),(ii x32),(ii x33),(ii x34),(ii x35),(ii x36),(.bool x37),x38,x39] fun b40 w41=>
 gd (qJc x27) (
 new w41 [x27,(.slice b40 0 1 1 none)] fun b42 w43=>
 ldN 12 w43 b14 0=some (.agg [(.str x28),(.int .u8 x29),(ii x30),(ii x31),(ii x32),(ii x33),(ii x34),(ii x35),(ii x36),(.bool x37),x38,x39])∧
 ld w43 b25 (o26+19)=some x27∧
 Cl Tryz.prog hk 117 [(.slice b42 0 2 2 none)] w43 fun r44 w45=>
 onP w0 fun b46 o47=>
 gd (qJc r44) (
 onM (AW.putCells w45 b46 (o47+19) [r44]) fun w48=>
 K (.tup []) w48))))
def adv92:Adv:=(.sq .lf (.sq .lf .lf))
set_option maxRecDepth 100000 in
theorem in92 {hk:Hook}{w0:AV}{to1:Int}{m2:List UInt8}{m3 m4 m5 m6 m7 m8 m9 m10:Int}{m11:Bool}{m12 m13:AV}{w:AW}{K:AV→AW→Prop}(hn:hk 92 [w0,(ii to1),(.agg [(.str m2),(.int .u8 m3),(ii m4),(ii m5),(ii m6),(ii m7),(ii m8),(ii m9),(ii m10),(.bool m11),m12,m13])] w=none)(h:F92 hk w0 to1 m2 m3 m4 m5 m6 m7 m8 m9 m10 m11 m12 m13 w K):Cl Tryz.prog hk 92 [w0,(ii to1),(.agg [(.str m2),(.int .u8 m3),(ii m4),(ii m5),(ii m6),(ii m7),(ii m8),(ii m9),(ii m10),(.bool m11),m12,m13])] w K:=
 qJm (adv:=adv92) Tryz.func92 hn (Eq.mpr (by kernel_rfl) h)
def F95(hk:Hook)(slices0:AV)(w:AW)(K:AV→AW→Prop):Prop:=
 ∃x1:Int,lenS slices0=some (ii x1)∧
 zJ9 [(ii 0),(ii 0)] w fun R2 l_3 w4=>∃size5 x6:Int,l_3=[(ii size5),(ii x6)]∧∀_:Nat→AV,
  ifT (decide (x6<x1)) (atP (idxS 1 slices0 (ii x6)) fun b7 o8=>
  onM (ld w4 b7 o8) fun s9=>
  ∃x10:Int,lenS s9=some (ii x10)∧
  ifT (decide ((wi (size5+x10))<0)) (False)
  (R2 [(ii (wi (size5+x10))),(ii (wi (x6+1)))] w4))
  (Cl Tryz.prog hk 118 [.nilslice,(ii size5)] w4 fun r11 w12=>
 ∃x13:Int,lenS slices0=some (ii x13)∧
 zJ9 [r11,(ii 0)] w12 fun R14 l_15 w16=>∃newslice17:AV,∃x18:Int,l_15=[newslice17,(ii x18)]∧∀_:Nat→AV,
  ifT (decide (x18<x13)) (atP (idxS 1 slices0 (ii x18)) fun b19 o20=>
  onM (ld w16 b19 o20) fun s21=>
  onE (appS 2 32 w16 newslice17 s21) fun newslice22 w23=>
  R14 [newslice22,(ii (wi (x18+1)))] w23)
  (K newslice17 w16))
def adv95:Adv:=(.sq .lf (.sq .lf (.sq (.sq .lf (.bl (.lp [(3,.sc (.int .i64)),(11,.sc (.int .i64))] (.sq .lf (.sq (.cd .lf .lf) (.sq (.bl (.sq .lf (.sq .lf (.sq .lf (.cd .lf .lf))))) .lf)))))) (.sq .lf (.sq (.sq .lf (.bl (.lp [(6,.sc (.opq)),(27,.sc (.int .i64))] (.sq .lf (.sq (.cd .lf .lf) (.sq (.bl (.sq .lf .lf)) .lf)))))) (.sq .lf .lf))))))
set_option maxRecDepth 100000 in
theorem in95 {hk:Hook}{slices0:AV}{w:AW}{K:AV→AW→Prop}(hn:hk 95 [slices0] w=none)(h:F95 hk slices0 w K):Cl Tryz.prog hk 95 [slices0] w K:=
 qJm (adv:=adv95) Tryz.func95 hn (Eq.mpr (by kernel_rfl) h)
def F96(hk:Hook)(w0:AV)(w:AW)(K:AV→AW→Prop):Prop:=
 onP w0 fun b1 o2=>
 ∃x3:Int,ld w b1 ((o2+0)+10)=some (ii x3)∧
 ∃x4:Int,ld w b1 ((o2+0)+3)=some (ii x4)∧
 ∃x5:Int,ld w b1 ((o2+0)+6)=some (ii x5)∧
 ∃x6:Int,ld w b1 ((o2+0)+7)=some (ii x6)∧
 onM (ld w b1 ((o2+0)+9)) fun x7=>
 onM (ld w b1 ((o2+0)+13)) fun x8=>
 Cl Tryz.prog hk 119 [(ii x3),(ii x4),(ii x5),(ii x6),x7,x8] w fun r9 w10=>
 ∃x11:Int,r9=(ii x11)∧
 onM (AW.putCells w10 b1 ((o2+0)+10) [(ii x11)]) fun w12=>
 K (.tup []) w12
def adv96:Adv:=(.sq .lf .lf)
set_option maxRecDepth 100000 in
theorem in96 {hk:Hook}{w0:AV}{w:AW}{K:AV→AW→Prop}(hn:hk 96 [w0] w=none)(h:F96 hk w0 w K):Cl Tryz.prog hk 96 [w0] w K:=
 qJm (adv:=adv96) Tryz.func96 hn (Eq.mpr (by kernel_rfl) h)
def F98(hk:Hook)(s0:AV)(n1:Int)(w:AW)(K:AV→AW→Prop):Prop:=
 ifT (decide (n1<0)) (False)
 (∃x2:Int,capA Tryz.prog 27 s0=some (ii x2)∧
 ∃x3:Int,lenS s0=some (ii x3)∧
 ifT (decide (0<(wi (n1 - (wi (x2 - x3)))))) (∃x4:Int,capA Tryz.prog 27 s0=some (ii x4)∧
  onM (slS 3 s0 none (some (ii x4)) none) fun x5=>
  onE (vJj Tryz.prog w 27 (some 3) x5 (ii (wi (n1 - (wi (x2 - x3)))))) fun x6 w7=>
  ∃x8:Int,lenS s0=some (ii x8)∧
  onM (slS 3 x6 none (some (ii x8)) none) fun s9=>
  K s9 w7)
 (K s0 w))
def adv98:Adv:=(.sq .lf (.sq (.sq .lf (.cd .lf .lf)) (.sq (.sq .lf (.sq .lf (.cd .lf .lf))) (.sq .lf .lf))))
set_option maxRecDepth 100000 in
theorem in98 {hk:Hook}{s0:AV}{n1:Int}{w:AW}{K:AV→AW→Prop}(hn:hk 98 [s0,(ii n1)] w=none)(h:F98 hk s0 n1 w K):Cl Tryz.prog hk 98 [s0,(ii n1)] w K:=
 qJm (adv:=adv98) Tryz.func98 hn (Eq.mpr (by kernel_rfl) h)
def F112(hk:Hook)(s0:AV)(w:AW)(K:AV→AW→Prop):Prop:=
 ∃x1:Bool,jJ6 Tryz.prog .eql 24 true s0 .nilslice=some (.bool x1)∧
 ifT x1 (K .nilslice w)
 (new w [] fun b2 w3=>
 onE (appS 2 32 w3 (.slice b2 0 0 0 none) s0) fun x4 w5=>
 K x4 w5)
def adv112:Adv:=(.sq .lf (.sq (.sq .lf (.cd (.sq .lf .lf) .lf)) (.sq .lf .lf)))
set_option maxRecDepth 100000 in
theorem in112 {hk:Hook}{s0:AV}{w:AW}{K:AV→AW→Prop}(hn:hk 112 [s0] w=none)(h:F112 hk s0 w K):Cl Tryz.prog hk 112 [s0] w K:=
 qJm (adv:=adv112) Tryz.func112 hn (Eq.mpr (by kernel_rfl) h)
def F117(hk:Hook)(slices0:AV)(w:AW)(K:AV→AW→Prop):Prop:=
 ∃x1:Int,lenS slices0=some (ii x1)∧
 zJ9 [(ii 0),(ii 0)] w fun R2 l_3 w4=>∃size5 x6:Int,l_3=[(ii size5),(ii x6)]∧∀_:Nat→AV,
  ifT (decide (x6<x1)) (atP (idxS 1 slices0 (ii x6)) fun b7 o8=>
  onM (ld w4 b7 o8) fun s9=>
  ∃x10:Int,lenS s9=some (ii x10)∧
  ifT (decide ((wi (size5+x10))<0)) (False)
  (R2 [(ii (wi (size5+x10))),(ii (wi (x6+1)))] w4))
  (Cl Tryz.prog hk 127 [.nilslice,(ii size5)] w4 fun r11 w12=>
 ∃x13:Int,lenS slices0=some (ii x13)∧
 zJ9 [r11,(ii 0)] w12 fun R14 l_15 w16=>∃newslice17:AV,∃x18:Int,l_15=[newslice17,(ii x18)]∧∀_:Nat→AV,
  ifT (decide (x18<x13)) (atP (idxS 1 slices0 (ii x18)) fun b19 o20=>
  onM (ld w16 b19 o20) fun s21=>
  onE (appS 12 136 w16 newslice17 s21) fun newslice22 w23=>
  R14 [newslice22,(ii (wi (x18+1)))] w23)
  (K newslice17 w16))
def adv117:Adv:=(.sq .lf (.sq .lf (.sq (.sq .lf (.bl (.lp [(3,.sc (.int .i64)),(11,.sc (.int .i64))] (.sq .lf (.sq (.cd .lf .lf) (.sq (.bl (.sq .lf (.sq .lf (.sq .lf (.cd .lf .lf))))) .lf)))))) (.sq .lf (.sq (.sq .lf (.bl (.lp [(6,.sc (.opq)),(27,.sc (.int .i64))] (.sq .lf (.sq (.cd .lf .lf) (.sq (.bl (.sq .lf .lf)) .lf)))))) (.sq .lf .lf))))))
set_option maxRecDepth 100000 in
theorem in117 {hk:Hook}{slices0:AV}{w:AW}{K:AV→AW→Prop}(hn:hk 117 [slices0] w=none)(h:F117 hk slices0 w K):Cl Tryz.prog hk 117 [slices0] w K:=
 qJm (adv:=adv117) Tryz.func117 hn (Eq.mpr (by kernel_rfl) h)
def F118(hk:Hook)(s0:AV)(n1:Int)(w:AW)(K:AV→AW→Prop):Prop:=
 ifT (decide (n1<0)) (False)
 (∃x2:Int,capA Tryz.prog 24 s0=some (ii x2)∧
 ∃x3:Int,lenS s0=some (ii x3)∧
 ifT (decide (0<(wi (n1 - (wi (x2 - x3)))))) (∃x4:Int,capA Tryz.prog 24 s0=some (ii x4)∧
  onM (slS 2 s0 none (some (ii x4)) none) fun x5=>
  onE (vJj Tryz.prog w 24 (some 3) x5 (ii (wi (n1 - (wi (x2 - x3)))))) fun x6 w7=>
  ∃x8:Int,lenS s0=some (ii x8)∧
  onM (slS 2 x6 none (some (ii x8)) none) fun s9=>
  K s9 w7)
 (K s0 w))
def adv118:Adv:=(.sq .lf (.sq (.sq .lf (.cd .lf .lf)) (.sq (.sq .lf (.sq .lf (.cd .lf .lf))) (.sq .lf .lf))))
set_option maxRecDepth 100000 in
theorem in118 {hk:Hook}{s0:AV}{n1:Int}{w:AW}{K:AV→AW→Prop}(hn:hk 118 [s0,(ii n1)] w=none)(h:F118 hk s0 n1 w K):Cl Tryz.prog hk 118 [s0,(ii n1)] w K:=
 qJm (adv:=adv118) Tryz.func118 hn (Eq.mpr (by kernel_rfl) h)
def F127(hk:Hook)(s0:AV)(n1:Int)(w:AW)(K:AV→AW→Prop):Prop:=
 ifT (decide (n1<0)) (False)
 (∃x2:Int,capA Tryz.prog 36 s0=some (ii x2)∧
 ∃x3:Int,lenS s0=some (ii x3)∧
 ifT (decide (0<(wi (n1 - (wi (x2 - x3)))))) (∃x4:Int,capA Tryz.prog 36 s0=some (ii x4)∧
  onM (slS 12 s0 none (some (ii x4)) none) fun x5=>
  onE (vJj Tryz.prog w 36 (some 3) x5 (ii (wi (n1 - (wi (x2 - x3)))))) fun x6 w7=>
  ∃x8:Int,lenS s0=some (ii x8)∧
  onM (slS 12 x6 none (some (ii x8)) none) fun s9=>
  K s9 w7)
 (K s0 w))
def adv127:Adv:=(.sq .lf (.sq (.sq .lf (.cd .lf .lf)) (.sq (.sq .lf (.sq .lf (.cd .lf .lf))) (.sq .lf .lf))))
set_option maxRecDepth 100000 in
theorem in127 {hk:Hook}{s0:AV}{n1:Int}{w:AW}{K:AV→AW→Prop}(hn:hk 127 [s0,(ii n1)] w=none)(h:F127 hk s0 n1 w K):Cl Tryz.prog hk 127 [s0,(ii n1)] w K:=
 qJm (adv:=adv127) Tryz.func127 hn (Eq.mpr (by kernel_rfl) h)
end Go.Proofs.YtghoifolghelnaaGreat
/-
 Copies of a node's lists,messages,lists put together.
 No condition beyond those that each theorem names.
-/
open Go.Sx
namespace Go.Proofs.YtghoifolghelnaaGreat
abbrev TA:Nat→Prop:=TAny
abbrev Nw(w:AW):Nat→Prop:=fun c=>w.size≤c
theorem Chk.bools {A:Nat→Prop}{w:AW}:∀{cs:List AV} {s:List Bool},Chk rT A w cs s↔cs=s.map AV.bool
  | cs,[]=>Iff.rfl
  | cs,x::s=>by
    constructor
    · rintro⟨a,b,h1,h2,h3⟩
      have h2:a=[.bool x]:=h2;rw[h1,h2,Chk.bools.1 h3];rfl
    · intro h
      exact⟨[.bool x],s.map AV.bool,h,rfl,Chk.bools.2 rfl⟩
theorem Chk.fl {α:Type}{r:Rp α}(hf:∀{A A':Nat→Prop} {w w':AW} {cs:List AV} {x:α},r.rd A w cs x→r.rd A' w' cs x){A A':Nat→Prop}{w w':AW}:∀{cs:List AV} {l:List α},Chk r A w cs l→Chk r A' w' cs l
 | _,[],h=>h
 | _,_::_,⟨a,b,h1,h2,h3⟩=>⟨a,b,h1,hf h2,Chk.fl hf h3⟩
theorem Chk.flU {A A':Nat→Prop}{w w':AW}{cs:List AV}{l:Byts}(h:Chk rU A w cs l):Chk rU A' w' cs l:=Chk.fl (fun h=>h) h
theorem Chk.flG {A A':Nat→Prop}{w w':AW}{cs:List AV}{l:List Rdg}(h:Chk rG A w cs l):Chk rG A' w' cs l:=Chk.fl (fun h=>h) h
structure Msg where
 grp:Byts
 kind:Int
 src:Int
 dst:Int
 term:Int
 index:Int
 lt:Int
 commit:Int
 round:Int
 ok:Bool
 ents:List Ent
 snap:Byts
abbrev mC(m:Msg)(e s:AV):List AV:=[.str m.grp,.int .u8 m.kind,.int .i64 m.src,.int .i64 m.dst,.int .i64 m.term,.int .i64 m.index,.int .i64 m.lt,.int .i64 m.commit,.int .i64 m.round,.bool m.ok,e,s]
def rM:Rp Msg:=⟨12,fun A w cs m=>∃e s,cs=mC m e s∧(rL rE).rd A w [e] m.ents∧(rL rU).rd A w [s] m.snap,fun⟨_,_,h,_⟩=>by rw[h];rfl,fun⟨_,_,h,h1,h2⟩=>by
 rw[h];have:=h1.ok1;have:=h2.ok1;simp only[List.all_cons, *];rfl,fun e ⟨_,_,h,h1,h2⟩=>⟨_,_,h,h1.xa e,h2.xa e⟩⟩
section
variable {hk:Hook}{A A' B:Nat→Prop}{w w':AW}{K:AV→AW→Prop}{n:Nd}{s:Sl}{v:AV}
theorem s55 {l:Byts}(hh:HK hk)(hm:Mem w)(h:(rL rU).rd A w [v] l)(hl:l.length<2^38)(hK:∀v' w',Fr w.size w w'→Cln rU A w w' v v' l→K v' w'):Cl Tryz.prog hk 55 [v] w K:=by
 refine in55 (hh.no _ _ _ (by decide) (by decide)) ?_;unfold F55;exact gJv (X:=fun v=>jJ6 Tryz.prog .eql 23 true v .nilslice) hm h rfl (by decide) hl (by decide) (by kernel_rfl) (fun _ _ _ _ _=>by kernel_rfl) hK
theorem s84 {l:List Bool}(hh:HK hk)(hm:Mem w)(h:(rL rT).rd A w [v] l)(hl:l.length<2^38)(hK:∀v' w',Fr w.size w w'→Cln rT A w w' v v' l→K v' w'):Cl Tryz.prog hk 84 [v] w K:=by
 refine in84 (hh.no _ _ _ (by decide) (by decide)) ?_;unfold F84;exact gJv (X:=fun v=>jJ6 Tryz.prog .eql 25 true v .nilslice) hm h rfl (by decide) hl (by decide) (by kernel_rfl) (fun _ _ _ _ _=>by kernel_rfl) hK
theorem s85 {l:List Int}(hh:HK hk)(hm:Mem w)(h:(rL rI).rd A w [v] l)(hl:l.length<2^38)(hK:∀v' w',Fr w.size w w'→Cln rI A w w' v v' l→K v' w'):Cl Tryz.prog hk 85 [v] w K:=by
 refine in85 (hh.no _ _ _ (by decide) (by decide)) ?_;unfold F85;exact gJv (X:=fun v=>jJ6 Tryz.prog .eql 26 true v .nilslice) hm h rfl (by decide) hl (by decide) (by kernel_rfl) (fun _ _ _ _ _=>by kernel_rfl) hK
theorem s69 {l:List Rdg}(hh:HK hk)(hm:Mem w)(h:(rL rG).rd A w [v] l)(hl:l.length<2^38)(hK:∀v' w',Fr w.size w w'→Cln rG A w w' v v' l→K v' w'):Cl Tryz.prog hk 69 [v] w K:=by
 refine in69 (hh.no _ _ _ (by decide) (by decide)) ?_;unfold F69;exact gJv (X:=fun v=>jJ6 Tryz.prog .eql 27 true v .nilslice) hm h rfl (by decide) hl (by decide) (by kernel_rfl) (fun _ _ _ _ _=>by kernel_rfl) hK
theorem s112 {l:List Ent}(hh:HK hk)(hm:Mem w)(h:(rL rE).rd A w [v] l)(hl:l.length<2^38)(hK:∀v' w',Fr w.size w w'→Cln rE A w w' v v' l→K v' w'):Cl Tryz.prog hk 112 [v] w K:=by
 refine in112 (hh.no _ _ _ (by decide) (by decide)) ?_;unfold F112;exact gJv (X:=fun v=>jJ6 Tryz.prog .eql 24 true v .nilslice) hm h rfl (by decide) hl (by decide) (by kernel_rfl) (fun _ _ _ _ _=>by kernel_rfl) hK
theorem s118 {m:Nat}(hh:HK hk)(hm:Mem w)(hn:0<m)(hl:m<2^38)(hK:∀w' cs,Fr w.size w w'→Box w' w.size cs→cs.length=m * 2→K (.slice w.size 0 0 m (some 2)) w'):Cl Tryz.prog hk 118 [.nilslice,.int .i64 (m:Int)] w K:=by
 refine in118 (hh.no _ _ _ (by decide) (by decide)) ?_;unfold F118;exact sJ6 (e:=110) (bytes:=32) (z:= .agg [.int .i64 0,.nilslice]) (by kernel_rfl) (by kernel_rfl) (by kernel_rfl) (by kernel_rfl) (by kernel_rfl) (by kernel_rfl) rfl rfl (by decide) hm hn hl (by decide) hK
theorem s98 {m:Nat}(hh:HK hk)(hm:Mem w)(hn:0<m)(hl:m<2^38)(hK:∀w' cs,Fr w.size w w'→Box w' w.size cs→cs.length=m * 3→K (.slice w.size 0 0 m (some 3)) w'):Cl Tryz.prog hk 98 [.nilslice,.int .i64 (m:Int)] w K:=by
 refine in98 (hh.no _ _ _ (by decide) (by decide)) ?_;unfold F98;exact sJ6 (e:=74) (bytes:=24) (z:= .agg [.int .i64 0,.int .i64 0,.int .i64 0]) (by kernel_rfl) (by kernel_rfl) (by kernel_rfl) (by kernel_rfl) (by kernel_rfl) (by kernel_rfl) rfl rfl (by decide) hm hn hl (by decide) hK
theorem s127 {m:Nat}(hh:HK hk)(hm:Mem w)(hn:0<m)(hl:m<2^38)(hK:∀w' cs,Fr w.size w w'→Box w' w.size cs→cs.length=m * 12→K (.slice w.size 0 0 m (some 12)) w'):Cl Tryz.prog hk 127 [.nilslice,.int .i64 (m:Int)] w K:=by
 refine in127 (hh.no _ _ _ (by decide) (by decide)) ?_;unfold F127;exact sJ6 (e:=32) (bytes:=136) (z:= .agg [.str [],.int .u8 0,.int .i64 0,.int .i64 0,.int .i64 0,.int .i64 0,.int .i64 0,.int .i64 0,.int .i64 0,.bool false,.nilslice,.nilslice]) (by kernel_rfl) (by kernel_rfl) (by kernel_rfl) (by kernel_rfl) (by kernel_rfl) (by kernel_rfl) rfl rfl (by decide) hm hn hl (by decide) hK
theorem s95 {c:Nat}{v1 v2:AV}{l1 l2:List Ent}(hh:HK hk)(hm:Mem w)(hpos:0<w.size)(hc:Box w c [v1,v2])(h1:(rL rE).rd A w [v1] l1)(h2:(rL rE).rd A w [v2] l2)(hn:0<l1.length+l2.length)(hl:l1.length+l2.length<2^38)
  (hK:∀v' w',Fr w.size w w'→(∀A',(∀b,w.size≤b→A' b)→(∀(cs:List AV) (l:List Ent),Chk rE A w' cs l→Chk rE A' w' cs l)→(rL rE).rd A' w' [v'] (l1++l2))→K v' w'):Cl Tryz.prog hk 95 [.slice c 0 2 2 none] w K:=by
 refine in95 (hh.no _ _ _ (by decide) (by decide)) ?_;unfold F95;exact bJ2 (r:=rE) hm hpos hc rfl (by decide) h1 h2 hn hl (fun w m K hm hn hl hK=>s118 hh hm hn hl hK) fun w'=>hK _ w'
theorem s54 {c:Nat}{v1 v2:AV}{l1 l2:List Rdg}(hh:HK hk)(hm:Mem w)(hpos:0<w.size)(hc:Box w c [v1,v2])(h1:(rL rG).rd A w [v1] l1)(h2:(rL rG).rd A w [v2] l2)(hn:0<l1.length+l2.length)(hl:l1.length+l2.length<2^38)
  (hK:∀v' w',Fr w.size w w'→(∀A',(∀b,w.size≤b→A' b)→(∀(cs:List AV) (l:List Rdg),Chk rG A w' cs l→Chk rG A' w' cs l)→(rL rG).rd A' w' [v'] (l1++l2))→K v' w'):Cl Tryz.prog hk 54 [.slice c 0 2 2 none] w K:=by
 refine in54 (hh.no _ _ _ (by decide) (by decide)) ?_;unfold F54;exact bJ2 (r:=rG) hm hpos hc rfl (by decide) h1 h2 hn hl (fun w m K hm hn hl hK=>s98 hh hm hn hl hK) fun w'=>hK _ w'
theorem s117 {c:Nat}{v1 v2:AV}{l1 l2:List Msg}(hh:HK hk)(hm:Mem w)(hpos:0<w.size)(hc:Box w c [v1,v2])(h1:(rL rM).rd A w [v1] l1)(h2:(rL rM).rd A w [v2] l2)(hn:0<l1.length+l2.length)(hl:l1.length+l2.length<2^38)
  (hK:∀v' w',Fr w.size w w'→(∀A',(∀b,w.size≤b→A' b)→(∀(cs:List AV) (l:List Msg),Chk rM A w' cs l→Chk rM A' w' cs l)→(rL rM).rd A' w' [v'] (l1++l2))→K v' w'):Cl Tryz.prog hk 117 [.slice c 0 2 2 none] w K:=by
 refine in117 (hh.no _ _ _ (by decide) (by decide)) ?_;unfold F117;exact bJ2 (r:=rM) hm hpos hc rfl (by decide) h1 h2 hn hl (fun w m K hm hn hl hK=>s127 hh hm hn hl hK) fun w'=>hK _ w'
theorem s83 {l:List Ent}(hh:HK hk)(hm:Mem w)(hpos:0<w.size)(h:(rL rE).rd A w [v] l)(hl:l.length<2^38)(hd:∀e∈l,e.2.length<2^38)(hK:∀v' w',Fr w.size w w'→(rL rE).rd (fun c=>w.size≤c) w' [v'] l→K v' w'):Cl Tryz.prog hk 83 [v] w K:=by
 refine in83 (hh.no _ _ _ (by decide) (by decide)) ?_;unfold F83;refine s112 hh hm h hl fun v1 w2 f2 hc=>?_;rcases hc with⟨rfl,rfl⟩ | ⟨b,ex,cs,rfl,hex,hb,hx,hc,_⟩
 ·refine⟨0,rfl,fun R hR=>hR _ _ ⟨_,rfl,fun _=>qJh (fun hc=>absurd hc (by decide)) fun _=>hK _ _ f2 Rp.rd.nil⟩⟩
 ·refine⟨_,rfl,?_⟩;have pv:Pv (fun c=>w.size≤c) w:=⟨hm,hpos,fun _ h=>h⟩;obtain⟨st2,x2⟩:=pv.st.push (p:=(b,.row cs)) rfl f2 hb hx;refine qJr (fun m lv w6=>∃(i:Nat) (c1 c2:List AV),i≤l.length∧m=l.length - i∧lv=[.int .i64 i]∧Ow (fun c=>w.size≤c) [] w w6 [(b,.row (c1++c2))]∧c1.length=i * 2∧Chk rE (fz (fun c=>w.size≤c) [b]) w6 c1 (l.take i)∧Chk rE A w c2 (l.drop i)) ?_ ⟨0,[],cs,yQz _,rfl,rfl,st2,rfl,rfl,by simpa using hc⟩;rintro m lv w6 ⟨i,c1,c2,hi,rfl,rfl,st6,hc1,k1,k2⟩ R ih;refine⟨_,rfl,fun _=>qJh (fun hc=>?_) fun hc=>?_⟩
  ·have hil:i<l.length:=by omega
   have hdr:l.drop i=l[i]::l.drop (i+1):=gQq hil;rw[hdr]at k2;obtain⟨a,c3,rfl,⟨u,rfl,hu⟩,k3⟩:=k2;have g1:(c1++([.int .i64 l[i].1,u]++c3))[i * 2+1]? =some u:=by
    rw[gQg (by omega),show i * 2+1 - c1.length=1 by omega];rfl
   refine idxk hil (qJd (st6.ld 0 rfl g1) (s55 hh st6.mem (hu.xa (oJ4 hm st6.fr)) (hd _ (gQp hil)) fun v7 w7 f7 h7=>idxk hil ?_));obtain⟨st7,x7⟩:=st6.call f7;have hr7:(rL rU).rd (fz (fun c=>w.size≤c) [b]) w7 [v7] l[i].2:=h7.rd (fun c hc=>st6.P.new c hc) Chk.flU;refine gd_t hr7.ok1 (st7.put 0 rfl ?_ fun w8 st8 x8=>?_)
   ·simp only[yQs,gQd,gQw];omega
   ·have e8:qJg (c1++([.int .i64 l[i].1,u]++c3)) (i * 2+1) [v7]=(c1++[.int .i64 l[i].1,v7])++c3:=by
     have h1:c1++([.int .i64 l[i].1,u]++c3)=(c1++[.int .i64 l[i].1])++([u]++c3):=by simp
     rw[h1];simp only[qJg];rw[List.take_left' (by simp;omega),List.drop_append,gQ1 (by simp;omega)];simp only[yQs,gQd,gQw];rw[show i * 2+1+(0+1) - (c1.length+(0+1))=1 by omega];simp
    have st8:Ow (fun c=>w.size≤c) [] w w8 [(b,.row ((c1++[.int .i64 l[i].1,v7])++c3))]:=by
     have:=st8;simp only[stN,e8]at this;exact this
    refine ih (l.length - (i+1)) (by omega) _ _ ⟨i+1,_,_,hil,rfl,by rw[qJq (by omega) (by omega)];rfl,st8,by simp;omega,?_,k3⟩;rw[List.take_succ_eq_append_getElem hil];have y7:Xt [b] w6 [b] w7:=x7;have y8:Xt [b] w7 [b] w8:=x8;exact(k1.xa (y7.trans y8).xw.xa).app (Chk.one ⟨v7,rfl,hr7.x y8⟩)
  ·have hil:i=l.length:=by omega
   subst hil;rw[gQi]at k1;have h2:c2=[]:=by
    have:=k2.len;rw[List.drop_length]at this;simpa using this
   subst h2;have hb6:Box w6 b (c1++[]):=(st6.box _ yQu rfl).1;rw[gQc]at hb6;exact hK _ _ st6.fr (Box.sl hb6 hb rfl (k1.xa ⟨fun _ _ _ a b d=>⟨a.1,b.1,d⟩⟩) (yQm _) (by rcases hex with⟨rfl,_⟩ | rfl<;>simp[okEx]))
end
end Go.Proofs.YtghoifolghelnaaGreat
/-
 A node at work: what is told,what is put,how far it is settled.
 No condition beyond those that each theorem names.
-/
open Go.Sx
namespace Go.Proofs.YtghoifolghelnaaGreat
open Classical in
noncomputable def dJ0(l:List Int):Int:=if h:∃r,kJh l r then Classical.choose h else 0
theorem fJj {l:List Int}{r:Int}(h:kJh l r):r=dJ0 l:=by
 unfold dJ0;rw[dif_pos ⟨r,h⟩];exact h.uniq (Classical.choose_spec (⟨r,h⟩:∃r,kJh l r))
open Classical in
noncomputable def advF(c t b bt:Int)(ts l:List Int):Int:=if h:∃x,cJt c t b bt ts (dJ0 l) x then Classical.choose h else 0
theorem qQ5 {c t b bt:Int}{ts l:List Int}{r x:Int}(hr:kJh l r)(h:cJt c t b bt ts r x):x=advF c t b bt ts l:=by
 have e:=fJj hr;subst e;unfold advF;rw[dif_pos ⟨x,h⟩];exact h.uniq (Classical.choose_spec (⟨x,h⟩:∃x,cJt c t b bt ts (dJ0 l) x))
def batch:Nat→Nat→List Ent→List Ent
 | _,_,[]=>[]
 | k,sz,e::l=>if k=8 then []else if 60000<sz+e.2.length then []else e::batch (k+1) (sz+e.2.length) l
def xJr(n:Nd)(to:Nat):Int:=n.next.getD (to - 1) 0
def gJh(n:Nd)(to:Nat):Msg:=
 if xJr n to≤n.base then⟨[],5,n.id,to,n.term,n.base,n.bt,0,n.round,false,[],n.snap⟩
 else⟨[],3,n.id,to,n.term,xJr n to - 1,(termAt n.base n.bt (n.log.map (·.1)) (xJr n to - 1)).1,n.commit,n.round,false,batch 0 0 (n.log.drop (xJr n to - n.base - 1).toNat),[]⟩
def xJt(n:Nd):Nat→List Msg
 | 0=>[]
 | k+1=>xJt n k++(if((k+1:Nat):Int)=n.id then []else [gJh n (k+1)])
theorem kJg(n:Nd):∀k,(xJt n k).length≤k
  | 0=>yQm _
  | k+1=>by
    have:=kJg n k;unfold xJt;rw[yQs];split<;>simp<;>omega
structure We(bs bm bn bv:Nat)(n:Nd)(s:Sl):Prop where
 seen:s.seen= .slice bs 0 n.seen.length n.seen.length (some 1)
 mtch:s.mtch= .slice bm 0 n.mtch.length n.mtch.length (some 1)
 next:s.next= .slice bn 0 n.next.length n.next.length (some 1)
 votes:s.votes= .slice bv 0 n.votes.length n.votes.length (some 1)
structure Wr(T:Nat→Prop)(U:List Nat)(w:AW)(n:Nd)(s:Sl)(out:AV)(ms:List Msg):Prop where
 snap:(rL rU).rd (fz T U) w [s.snap] n.snap
 log:(rL rE).rd (fz T U) w [s.log] n.log
 reads:(rL rG).rd (fz T U) w [s.reads] n.reads
 out:(rL rM).rd (fz T U) w [out] ms
abbrev wkL(W bs bm bn bv:Nat)(n:Nd)(s:Sl)(out:AV)(dr:Int)(L:Obs):Obs:=
 (W,.row [.int .i64 n.id,.int .i64 n.size,.int .u8 n.role,.int .i64 n.term,.int .i64 n.vote,.int .i64 n.leads,.int .i64 n.base,.int .i64 n.bt,s.snap,s.log,.int .i64 n.commit,s.votes,s.next,s.mtch,s.seen,.int .i64 n.round,.int .i64 n.elapsed,.int .i64 n.timeout,s.reads,out,.int .i64 dr])::
 (bs,.row (n.seen.map (AV.int .i64)))::(bm,.row (n.mtch.map (AV.int .i64)))::(bn,.row (n.next.map (AV.int .i64)))::(bv,.row (n.votes.map AV.bool))::L
structure Wk(T:Nat→Prop)(I:List Nat)(w0 w:AW)(W bs bm bn bv:Nat)(n:Nd)(s:Sl)(out:AV)(ms:List Msg)(dr:Int)(L:Obs):Prop where
 st:Ow T I w0 w (wkL W bs bm bn bv n s out dr L)
 wr:Wr T (W::bs::bm::bn::bv::ids L) w n s out ms
 we:We bs bm bn bv n s
section
variable {hk:Hook}{T A A' B:Nat→Prop}{I:List Nat}{w0 w w':AW}{K:AV→AW→Prop}{n:Nd}{s:Sl}{v out:AV}{W bs bm bn bv:Nat}{ms:List Msg}{dr:Int}{L:Obs}{U U':List Nat}
theorem Wr.x(h:Wr T U w n s out ms)(e:Xt U w U' w'):Wr T U' w' n s out ms:=⟨h.snap.x e,h.log.x e,h.reads.x e,h.out.x e⟩
theorem We.ok(h:We bs bm bn bv n s):qJc s.seen=true∧qJc s.mtch=true∧qJc s.next=true∧qJc s.votes=true:=by
 rw[h.seen,h.mtch,h.next,h.votes];exact⟨rfl,rfl,rfl,rfl⟩
theorem Wr.okN(h:Wr T U w n s out ms)(e:We bs bm bn bv n s):(ndC n s).all qJc=true:=by
 obtain⟨h1,h2,h3,h4⟩:=e.ok;simp only[List.all_cons,h.snap.ok1,h.log.ok1,h.reads.ok1,h1,h2,h3,h4];rfl
theorem rJ0(i1 i2 i3 i4:Nat){L:Obs}(st:Ow T I w0 w L)(wr:Wr T U w n s out ms)(we:We bs bm bn bv n s)(e1:nth L i1=some (bs,.row (n.seen.map (AV.int .i64))))(e2:nth L i2=some (bm,.row (n.mtch.map (AV.int .i64))))(e3:nth L i3=some (bn,.row (n.next.map (AV.int .i64))))(e4:nth L i4=some (bv,.row (n.votes.map AV.bool))):NR T w n s:=by
 have b1:Box w bs _:=(st.box _ (qJw e1) rfl).1;have b2:Box w bm _:=(st.box _ (qJw e2) rfl).1;have b3:Box w bn _:=(st.box _ (qJw e3) rfl).1;have b4:Box w bv _:=(st.box _ (qJw e4) rfl).1;exact⟨wr.snap.out,wr.log.out,by rw[we.votes];exact Box.sl b4 (st.box _ (qJw e4) rfl).2.2.1 rfl (Chk.bools.2 rfl),by rw[we.next];exact Box.sl b3 (st.box _ (qJw e3) rfl).2.2.1 rfl (Chk.ints.2 rfl),by rw[we.mtch];exact Box.sl b2 (st.box _ (qJw e2) rfl).2.2.1 rfl (Chk.ints.2 rfl),by rw[we.seen];exact Box.sl b1 (st.box _ (qJw e1) rfl).2.2.1 rfl (Chk.ints.2 rfl),wr.reads.out⟩
theorem Wk.nr(wk:Wk T I w0 w W bs bm bn bv n s out ms dr L):NR T w n s:=rJ0 1 2 3 4 wk.st wk.wr wk.we rfl rfl rfl rfl
theorem s92 {m:Msg}{e sv:AV}{to:Int}(hh:HK hk)(wk:Wk T I w0 w W bs bm bn bv n s out ms dr L)(he:(rL rE).rd (fz T (W::bs::bm::bn::bv::ids L)) w [e] m.ents)(hs:(rL rU).rd (fz T (W::bs::bm::bn::bv::ids L)) w [sv] m.snap)(hl:ms.length<2^20)
  (hK:∀out' w',Wk T I w0 w' W bs bm bn bv n s out' (ms++[{m with src:=n.id,dst:=to,term:=n.term}]) dr L→Xt (W::bs::bm::bn::bv::ids L) w (W::bs::bm::bn::bv::ids L) w'→K (.tup []) w'):Cl Tryz.prog hk 92 [.ptr W 0,.int .i64 to,.agg (mC m e sv)] w K:=by
 refine in92 (hh.no _ _ _ (by decide) (by decide)) ?_;unfold F92;obtain⟨st,wr,we⟩:=wk;refine gd_t (by simp only[List.all_cons,he.ok1,hs.ok1];rfl) (st.new' fun b14 w15 st15 x15=>?_);simp only[onP];refine⟨_,st15.ld 1 rfl rfl,_,st15.ld 1 rfl rfl,?_⟩;refine st15.put 0 rfl (yQk rfl) fun w22 st22 x22=>⟨st22.ld 1 rfl rfl,st22.put 0 rfl (yQk rfl) fun w23 st23 x23=>⟨st23.ld 1 rfl rfl,st23.put 0 rfl (yQk rfl) fun w24 st24 x24=>?_⟩⟩;refine qJd (st24.ld 1 rfl rfl) ⟨_,_,_,_,_,_,_,_,_,_,_,_,st24.ldN 0 rfl rfl rfl,gd_t (by simp only[List.all_cons,he.ok1,hs.ok1];rfl) (st24.new' fun b40 w41 st41 x41=>gd_t wr.out.ok1 (st41.new' fun b42 w43 st43 x43=>⟨st43.ldN 2 rfl rfl rfl,st43.ld 3 rfl rfl,?_⟩))⟩;obtain⟨st44,x44,_,hb42⟩:=st43.drop;obtain⟨st45,x45,hA40,hb40⟩:=st44.drop;have xx:Xt (W::bs::bm::bn::bv::ids L) w (b14::W::bs::bm::bn::bv::ids L) w43:=(((((x15.trans x22).trans x23).trans x24).trans x41).trans x43).trans (x44.trans x45);have wr43:=wr.x xx;have hm':rM.rd (fz T (b14::W::bs::bm::bn::bv::ids L)) w43 (mC {m with src:=n.id,dst:=to,term:=n.term} e sv) {m with src:=n.id,dst:=to,term:=n.term}:=⟨e,sv,rfl,he.x xx,hs.x xx⟩;refine s117 hh st45.mem st45.P0.pos hb42 wr43.out (Box.rd1 hb40 hA40 hm') (by simp) (by simp;omega) fun v' w46 f46 hv=>?_;obtain⟨st46,x46⟩:=st45.call f46;have hv':(rL rM).rd (fz T (b14::W::bs::bm::bn::bv::ids L)) w46 [v'] (ms++[{m with src:=n.id,dst:=to,term:=n.term}]):=hv _ (fun b hb=>st45.P.new b hb) fun _ _ h=>h.xa (Xa.refl);refine gd_t hv'.ok1 (st46.put 1 rfl (yQk rfl) fun w47 st47 x47=>?_);obtain⟨st48,x48,_⟩:=st47.drop;have x4:Xt (b14::W::bs::bm::bn::bv::ids L) w46 (W::bs::bm::bn::bv::ids L) w47:=Xt.trans x47 x48;have xall:Xt (W::bs::bm::bn::bv::ids L) w (W::bs::bm::bn::bv::ids L) w47:=xx.trans (Xt.trans x46 x4);have wra:=wr.x xall;exact hK v' w47 ⟨st48,⟨wra.snap,wra.log,wra.reads,hv'.x x4⟩,we⟩ xall
end
end Go.Proofs.YtghoifolghelnaaGreat
/-
 A node at work: what is sent.
 No condition beyond those that each theorem names.
-/
open Go.Sx
namespace Go.Proofs.YtghoifolghelnaaGreat
structure SC(n:Nd):Prop where
 size:n.size≤9
 base:0≤n.base∧n.base≤G40
 log:n.log.length<2^30
 data:∀e∈n.log,e.2.length≤60000
 snap:n.snap.length≤60000
 len:(n.next.length:Int)=n.size
 next:∀to:Nat,1≤to→(to:Int)≤n.size→1≤xJr n to∧xJr n to≤qJi n+1
theorem kJo {l:List Int}{k:Nat}(h:k<l.length):(l.map (AV.int .i64))[k]? =some (.int .i64 (l.getD k 0)):=by
 rw[gQn,yQj,yQn h];rfl
def Bt(l:List Ent)(i sz:Nat):Prop:=batch 0 0 l=l.take i++batch i sz (l.drop i)
theorem Bt.step {l:List Ent}{i sz:Nat}(h:Bt l i sz)(hi:i<l.length)(h8:i≠8)(hs:¬ 60000<sz+l[i].2.length):Bt l (i+1) (sz+l[i].2.length):=by
 unfold Bt at h ⊢;rw[h,gQq hi,List.take_succ_eq_append_getElem hi];simp only[batch];rw[if_neg h8,if_neg hs,yQy];rfl
theorem Bt.stop {l:List Ent}{i sz:Nat}(h:Bt l i sz)(hi:i<l.length)(hs:i=8∨60000<sz+l[i].2.length):batch 0 0 l=l.take i:=by
 unfold Bt at h;rw[h,gQq hi];simp only[batch];rcases hs with hs | hs
 ·rw[if_pos hs,gQc]
 ·rw[if_pos hs,ite_self,gQc]
theorem Bt.all {l:List Ent}{i sz:Nat}(h:Bt l i sz)(hi:l.length≤i):batch 0 0 l=l:=by
 unfold Bt at h;rw[h,gQ1 hi,yQ5 hi];simp[batch]
theorem lJ8:∀{l:List Ent} {k sz:Nat},(∀e∈batch k sz l,e∈l)∧(batch k sz l).length≤l.length
  | [],_,_=>⟨fun e h=>by simp[batch]at h,by simp[batch]⟩
  | x::l,k,sz=>by
    have ih:=lJ8 (l:=l) (k:=k+1) (sz:=sz+x.2.length);unfold batch;split
    · exact⟨(fun e h=>by cases h),by simp⟩
    · split
      · exact⟨(fun e h=>by cases h),by simp⟩
      · exact⟨fun e h=>by
          rcases yQw.1 h with rfl | h
          · exact yQu
          · exact yQq _ (ih.1 e h),by simp;exact ih.2⟩
section
variable {hk:Hook}{T A A' B:Nat→Prop}{I:List Nat}{w0 w w':AW}{K:AV→AW→Prop}{n:Nd}{s:Sl}{v out:AV}{W bs bm bn bv:Nat}{ms:List Msg}{dr:Int}{L:Obs}{U U':List Nat}
set_option maxRecDepth 20000 in
theorem s50 {to:Nat}(hh:HK hk)(wk:Wk T I w0 w W bs bm bn bv n s out ms dr L)(sc:SC n)(h1:1≤to)(h2:(to:Int)≤n.size)(hl:ms.length<2^20)
    (hK:∀out' w',Wk T I w0 w' W bs bm bn bv n s out' (ms++[gJh n to]) dr L→Xt (W::bs::bm::bn::bv::ids L) w (W::bs::bm::bn::bv::ids L) w'→K (.tup []) w'):Cl Tryz.prog hk 50 [.ptr W 0, .int .i64 (to:Int)] w K:=by
  refine in50 (hh.no _ _ _ (by decide) (by decide)) ?_;unfold F50;obtain⟨st,wr,we⟩:=id wk;obtain⟨c1,c2,c3,c4,c5,c6,c7⟩:=sc;obtain⟨c7a,c7b⟩:=c7 to h1 h2;have c22:=c2.2;unfold G40 at c22;unfold qJi at c7b;have hn19:=wr.okN we;simp only[onP];refine⟨_,_,_,_,_,_,_,_,_,_,_,_,_,_,_,_,_,_,_,st.ldN 0 rfl rfl rfl,?_⟩;refine st.new' fun b23 w24 st24 x24=>gd_t hn19 (st24.put 0 rfl (yQk rfl) fun w25 st25 x25=>?_);have x05:Xt (W::bs::bm::bn::bv::ids L) w (b23::W::bs::bm::bn::bv::ids L) w25:=Xt.trans x24 x25;have wr25:=wr.x x05;refine qJd (v:=s.next) (st25.ld 0 rfl rfl) ?_;rw[we.next,qJq (by omega) (by omega),show((to:Int) - 1)=((to - 1:Nat):Int)by omega];refine idx0 (by omega) ⟨xJr n to,st25.ld 4 rfl (kJo (by omega)),_,st25.ld 0 rfl rfl,qJh (fun hc=>?_) fun hc=>?_⟩
  · refine⟨_,st25.ld 0 rfl rfl,_,st25.ld 0 rfl rfl,_,st25.ld 0 rfl rfl,qJd (v:=s.snap) (st25.ld 0 rfl rfl) (s55 hh st25.mem wr25.snap (by omega) fun v6 w6 f6 h6=>?_)⟩
    obtain⟨st6,x6⟩:=st25.call f6;refine⟨st6.ld 0 rfl rfl,st6.ld 0 rfl rfl,st6.ld 0 rfl rfl,?_⟩;have hr6:(rL rU).rd (fz T (b23::W::bs::bm::bn::bv::ids L)) w6 [v6] n.snap:=h6.rd (fun c hc=>st25.P.new c hc) Chk.flU;obtain⟨st7,x7,_⟩:=st6.drop;have x07:Xt (W::bs::bm::bn::bv::ids L) w (W::bs::bm::bn::bv::ids L) w6:=(x05.trans x6).trans x7;refine gd_t hr6.ok1 (s92 (m:=⟨[],5,0,0,0,n.base,n.bt,0,n.round,false,[],n.snap⟩) hh ⟨st7,wr.x x07,we⟩ Rp.rd.nil (hr6.x x7) hl fun out' w8 wk8 x8=>⟨rfl,?_⟩);have e:gJh n to=⟨[],5,n.id,to,n.term,n.base,n.bt,0,n.round,false,[],n.snap⟩:=by unfold gJh;rw[if_pos hc]
    exact hK out' w8 (by rw[e];exact wk8) (x07.trans x8)
  · refine qJd (v:=s.log) (st25.ld 0 rfl rfl) ⟨_,st25.ld 0 rfl rfl,?_⟩
    obtain⟨k,hkk⟩:∃k:Nat,xJr n to - n.base - 1=(k:Int):=yQ8 (by omega);unfold be;rw[qJq (x:=xJr n to - n.base) (by omega) (by omega),qJq (x:=xJr n to - n.base - 1) (by omega) (by omega),hkk];have hkl:k≤n.log.length:=by omega
    obtain⟨part,hsl,hpart⟩:=wr25.log.cut (i:=k) (j:=n.log.length) hkl (yQm _) (.inl rfl) (.inr ⟨rfl,rfl⟩);rw[gQi]at hpart;refine qJd hsl ?_;generalize hrest:n.log.drop k=rest at hpart;have hrl:rest.length≤n.log.length:=by rw[←hrest,yQ3];omega
    have hrd:∀e∈rest,e.2.length≤60000:=fun e he=>c4 e (List.mem_of_mem_drop (hrest▸he));have hbatch:gJh n to=⟨[],3,n.id,to,n.term,xJr n to - 1,(termAt n.base n.bt (n.log.map (·.1)) (xJr n to - 1)).1,n.commit,n.round,false,batch 0 0 rest,[]⟩:=by
      unfold gJh;rw[if_neg hc,hkk,Int.toNat_natCast,hrest]
    have fin:∀(l:AV) w',Ow T I w0 w' ((b23, .row (ndC n s))::wkL W bs bm bn bv n s out dr L)→Xt (W::bs::bm::bn::bv::ids L) w (b23::W::bs::bm::bn::bv::ids L) w'→(rL rE).rd (fz T (b23::W::bs::bm::bn::bv::ids L)) w' [l] (batch 0 0 rest)→
      ∃x_47 x_48 x_49 x_50 x_51 x_52 x_53 x_54:Int,∃x_55 x_56:AV,∃x_57:Int,∃x_58 x_59 x_60 x_61:AV,∃x_62 x_63 x_64:Int,∃x_65:AV,ldN 19 w' b23 0=some (.agg [(.int .i64 x_47),(.int .i64 x_48),(.int .u8 x_49),(.int .i64 x_50),(.int .i64 x_51),(.int .i64 x_52),(.int .i64 x_53),(.int .i64 x_54),x_55,x_56,(.int .i64 x_57),x_58,x_59,x_60,x_61,(.int .i64 x_62),(.int .i64 x_63),(.int .i64 x_64),x_65])∧
   Cl Tryz.prog hk 53 [(.agg [(.int .i64 x_47),(.int .i64 x_48),(.int .u8 x_49),(.int .i64 x_50),(.int .i64 x_51),(.int .i64 x_52),(.int .i64 x_53),(.int .i64 x_54),x_55,x_56,(.int .i64 x_57),x_58,x_59,x_60,x_61,(.int .i64 x_62),(.int .i64 x_63),(.int .i64 x_64),x_65]),(.int .i64 (wi (xJr n to - 1)))] w' fun r_66 w_67=>
   ∃x_68:Int,∃x_69:Bool,r_66= .tup [(.int .i64 x_68),(.bool x_69)]∧
   ∃x_70:Int,ld w_67 b23 (0+10)=some (.int .i64 x_70)∧
   ∃x_71:Int,ld w_67 b23 (0+15)=some (.int .i64 x_71)∧
   Cl Tryz.prog hk 83 [l] w_67 fun r_72 w_73=>
   ld w_73 b23 (0+15)=some (.int .i64 x_71)∧
   ld w_73 b23 (0+10)=some (.int .i64 x_70)∧
   gd (qJc r_72) (
   Cl Tryz.prog hk 92 [.ptr W 0,(.int .i64 to),(.agg [(.str []),(.int .u8 3),(.int .i64 0),(.int .i64 0),(.int .i64 0),(.int .i64 (wi (xJr n to - 1))),(.int .i64 x_68),(.int .i64 x_70),(.int .i64 x_71),(.bool false),r_72, .nilslice])] w_73 fun r_74 w_75=>
   r_74= .tup []∧
   K (.tup []) w_75):=by
      intro l w' st9 x9 hl9;have wr9:=wr.x x9;refine⟨_,_,_,_,_,_,_,_,_,_,_,_,_,_,_,_,_,_,_,st9.ldN 0 rfl rfl rfl,?_⟩;rw[qJq (by omega) (by omega)];refine s53 hh st9.mem (rJ0 2 3 4 5 st9 wr9 we rfl rfl rfl rfl) c2.1 (by omega) (by omega) fun w10 f10=>⟨_,_,rfl,?_⟩;obtain⟨st10,x10⟩:=st9.call f10;refine⟨_,st10.ld 0 rfl rfl,_,st10.ld 0 rfl rfl,?_⟩;have hbs:=lJ8 (l:=rest) (k:=0) (sz:=0);refine s83 hh st10.mem st10.P0.pos (hl9.x x10) (by omega) (fun e he=>by have:=hrd e (hbs.1 e he);omega) fun v11 w11 f11 h11=>?_;obtain⟨st11,x11⟩:=st10.call f11;have hr11:(rL rE).rd (fz T (b23::W::bs::bm::bn::bv::ids L)) w11 [v11] (batch 0 0 rest):=h11.le (fun c _ hc=>st10.P.new c hc) st11.mem;obtain⟨st12,x12,_⟩:=st11.drop;have x012:Xt (W::bs::bm::bn::bv::ids L) w (W::bs::bm::bn::bv::ids L) w11:=((x9.trans x10).trans x11).trans x12;refine⟨st11.ld 0 rfl rfl,st11.ld 0 rfl rfl,gd_t hr11.ok1 (s92 (m:=⟨[],3,0,0,0,xJr n to - 1,(termAt n.base n.bt (n.log.map (·.1)) (xJr n to - 1)).1,n.commit,n.round,false,batch 0 0 rest,[]⟩) hh ⟨st12,wr.x x012,we⟩ (hr11.x x12) Rp.rd.nil hl fun out' w13 wk13 x13=>⟨rfl,?_⟩)⟩;exact hK out' w13 (by rw[hbatch];exact wk13) (x012.trans x13)
    refine zJm (fun l w'=>∃v:AV,l=[v]∧Ow T I w0 w' ((b23, .row (ndC n s))::wkL W bs bm bn bv n s out dr L)∧Xt (W::bs::bm::bn::bv::ids L) w (b23::W::bs::bm::bn::bv::ids L) w'∧(rL rE).rd (fz T (b23::W::bs::bm::bn::bv::ids L)) w' [v] (batch 0 0 rest)) ?_ fun J hJ=>?_
    · rintro l w' ⟨v,rfl,a,b,c⟩
      exact⟨_,rfl,fun _=>fin v w' a b c⟩
    · refine⟨_,hpart.len',?_⟩
      refine qJr (fun m lv w9=>∃i sz:Nat,m=rest.length - i∧i≤rest.length∧i≤8∧sz≤60000∧lv=[part, .int .i64 sz, .int .i64 i]∧Bt rest i sz∧Ow T I w0 w9 ((b23, .row (ndC n s))::wkL W bs bm bn bv n s out dr L)∧Xt (b23::W::bs::bm::bn::bv::ids L) w25 (b23::W::bs::bm::bn::bv::ids L) w9) ?_ ⟨0,0,rfl,yQz _,yQz _,yQz _,rfl,rfl,st25,Xt.refl⟩;rintro m lv w9 ⟨i,sz,rfl,hi,hi8,hsz,rfl,hbt,st9,x9⟩ R ih;have hp9:=hpart.x x9;refine⟨_,_,_,rfl,fun _=>qJh (fun hc2=>?_) fun hc2=>?_⟩
      · have hil:i<rest.length:=by omega
        have hdl:=hrd _ (gQp hil);refine lJz hp9 hil fun b o u hu _ _ hn=>⟨_,_,hn,st9.new' fun b87 w88 st88 x88=>gd_t (by simp only[List.all_cons,hu.ok1];rfl) (st88.put 0 rfl (yQk rfl) fun w89 st89 x89=>qJd (v:=u) (st89.ld 0 rfl rfl) ?_)⟩;have x99:Xt (b23::W::bs::bm::bn::bv::ids L) w9 (b87::b23::W::bs::bm::bn::bv::ids L) w89:=Xt.trans x88 x89;obtain⟨st90,x90,_⟩:=st89.drop;have x95:Xt (b23::W::bs::bm::bn::bv::ids L) w9 (b23::W::bs::bm::bn::bv::ids L) w89:=x99.trans x90;have x25':=x9.trans x95;have hp90:=hp9.x x95;refine⟨_,(hu.x x99).len',?_⟩;rw[qJq (by omega) (by omega)];have stop:(i=8∨60000<sz+rest[i].2.length)→onM (slS 2 part none (some (.int .i64 (i:Int))) none) fun l=>J [l] w89:=fun hs=>by
          obtain⟨p2,hs2,hp2⟩:=hp90.cut (i:=0) (j:=i) (yQz _) hi (.inr ⟨rfl,rfl⟩) (.inl rfl);rw[List.drop_zero,←hbt.stop hil hs]at hp2;exact qJd hs2 (hJ _ _ ⟨p2,rfl,st90,x05.trans x25',hp2⟩)
        refine qJh (fun h8=>stop (.inl (by omega))) fun h8=>qJh (fun h9=>stop (.inr (by omega))) fun h9=>?_;refine ih (rest.length - (i+1)) (by omega) _ _ ⟨i+1,sz+rest[i].2.length,rfl,hil,by omega,by omega,?_,hbt.step hil (by omega) (by omega),st90,x25'⟩;rw[qJq (x:=(i:Int)+1) (by omega) (by omega)];rfl
      · exact hJ _ _ ⟨part,rfl,st9,x05.trans x9,by rw[hbt.all (by omega)];exact hp9⟩
end
end Go.Proofs.YtghoifolghelnaaGreat
/-
 A node at work: begun,all that is sent,an entry put.
 No condition beyond those that each theorem names.
-/
open Go.Sx
namespace Go.Proofs.YtghoifolghelnaaGreat
section
variable {hk:Hook}{T A A' B:Nat→Prop}{I:List Nat}{w0 w w':AW}{K:AV→AW→Prop}{n:Nd}{s:Sl}{v out:AV}{W bs bm bn bv:Nat}{ms:List Msg}{dr:Int}{L:Obs}{U U':List Nat}
theorem s49(hh:HK hk)(wk:Wk T I w0 w W bs bm bn bv n s out ms dr L)(sc:SC n)(hl:ms.length<2^19)
  (hK:∀out' w',Wk T I w0 w' W bs bm bn bv n s out' (ms++xJt n n.size.toNat) dr L→Xt (W::bs::bm::bn::bv::ids L) w (W::bs::bm::bn::bv::ids L) w'→K (.tup []) w'):Cl Tryz.prog hk 49 [.ptr W 0,.func 50 [.ptr W 0] []] w K:=by
 refine in49 (hh.no _ _ _ (by decide) (by decide)) ?_;unfold F49;have hsz:=sc.size;refine qJr (fun m lv w4=>∃(k:Nat) (out':AV),m=n.size.toNat - k∧k≤n.size.toNat∧lv=[.int .i64 ((k+1:Nat):Int)]∧Wk T I w0 w4 W bs bm bn bv n s out' (ms++xJt n k) dr L∧Xt (W::bs::bm::bn::bv::ids L) w (W::bs::bm::bn::bv::ids L) w4) ?_ ⟨0,out,rfl,yQz _,rfl,by simpa [xJt]using wk,Xt.refl⟩;rintro m lv w4 ⟨k,out',rfl,hk',rfl,wk4,x4⟩ R ih;refine⟨_,rfl,fun _=>?_⟩;simp only[onP];refine⟨_,wk4.st.ld 0 rfl rfl,qJh (fun hc=>?_) fun hc=>?_⟩
 ·refine⟨_,wk4.st.ld 0 rfl rfl,?_⟩;have hlen:=kJg n k;rw[qJq (by omega) (by omega)];refine vJv (fun hid=>?_) fun hid=>?_
  ·show Cl Tryz.prog hk 50 [.ptr W 0,.int .i64 ((k+1:Nat):Int)] w4 _;refine s50 hh wk4 sc (by omega) hc (by rw[yQs];omega) fun out2 w5 wk5 x5=>⟨rfl,ih (n.size.toNat - (k+1)) (by omega) _ _ ⟨k+1,out2,rfl,by omega,rfl,?_,x4.trans x5⟩⟩;rw[xJt,if_neg hid,←yQy];exact wk5
  ·exact ih (n.size.toNat - (k+1)) (by omega) _ _ ⟨k+1,out',rfl,by omega,rfl,by rw[xJt,if_pos hid,gQc];exact wk4,x4⟩
 ·have e:k=n.size.toNat:=by omega
  subst e;exact hK _ _ wk4 x4
theorem vJ2 {α:Type}{f:α→AV}{l:List α}{k:Nat}{x:α}(h:k<l.length):qJg (l.map f) k [f x]=(l.set k x).map f:=by
 simp only[qJg,gQv];rw[List.set_eq_take_append_cons_drop,if_pos h,List.map_append,List.map_cons,List.map_take,List.map_drop,yQy];rfl
noncomputable def vJr(n:Nd):Nd:={n with commit:=advF n.commit n.term n.base n.bt (n.log.map (·.1)) n.mtch}
theorem s96(hh:HK hk)(wk:Wk T I w0 w W bs bm bn bv n s out ms dr L)(hb:0≤n.base∧n.base≤G40)(hl:n.log.length<2^31)(hc:0≤n.commit)(hm:∀x∈n.mtch,0≤x∧x≤2^50)(hml:n.mtch.length<2^30)
  (hK:∀w',Wk T I w0 w' W bs bm bn bv (vJr n) s out ms dr L→Xt (W::bs::bm::bn::bv::ids L) w (W::bs::bm::bn::bv::ids L) w'→K (.tup []) w'):Cl Tryz.prog hk 96 [.ptr W 0] w K:=by
 refine in96 (hh.no _ _ _ (by decide) (by decide)) ?_;unfold F96;obtain⟨st,wr,we⟩:=id wk;have hb2:=hb.2;unfold G40 at hb2;have nr:=wk.nr;simp only[onP];refine⟨_,st.ld 0 rfl rfl,_,st.ld 0 rfl rfl,_,st.ld 0 rfl rfl,_,st.ld 0 rfl rfl,qJd (v:=s.log) (st.ld 0 rfl rfl) (qJd (v:=s.mtch) (st.ld 0 rfl rfl) ?_)⟩;refine s119 hh st.mem (uJz nr.log) nr.mtch.rsI hb.1 (by omega) (by rw[yQr];omega) (by omega) (by omega) (fun x hx=>by have:=hm x hx;omega) fun r x w9 hr hx f9=>⟨_,rfl,?_⟩;obtain⟨st9,x9⟩:=st.call f9;refine st9.put 0 rfl (yQk rfl) fun w12 st12 x12=>?_;have xx:Xt (W::bs::bm::bn::bv::ids L) w (W::bs::bm::bn::bv::ids L) w12:=Xt.trans x9 x12;have e:=qQ5 hr hx;subst e;have wr':=wr.x xx;exact hK w12 ⟨st12,⟨wr'.snap,wr'.log,wr'.reads,wr'.out⟩,⟨we.seen,we.mtch,we.next,we.votes⟩⟩ xx
noncomputable def putN(n:Nd)(d:Byts):Nd:=
 vJr {n with log:=n.log++[(n.term,d)],mtch:=n.mtch.set (n.id - 1).toNat (qJi n+1),next:=n.next.set (n.id - 1).toNat (qJi n+1+1)}
structure PC(n:Nd):Prop where
 size:n.size≤9
 id:1≤n.id∧n.id≤n.size
 base:0≤n.base∧n.base≤G40
 commit:0≤n.commit
 log:n.log.length<2^29
 data:∀e∈n.log,e.2.length≤60000
 snap:n.snap.length≤60000
 next:(n.next.length:Int)=n.size
 mtch:(n.mtch.length:Int)=n.size
 nx:∀x∈n.next,1≤x∧x≤qJi n+1
 mt:∀x∈n.mtch,0≤x∧x≤qJi n
theorem PC.sc {n:Nd}{d:Byts}(h:PC n)(hd:d.length≤60000):SC (putN n d):=by
 obtain⟨h1,h2,h3,h4,h5,h6,h7,h8,h9,h10,h11⟩:=h;refine⟨h1,h3,by show(n.log++[(n.term,d)]).length<_;simp;omega,fun e he=>?_,h7,by show((n.next.set _ _).length:Int)=_;rw[yQ0];exact h8,fun to t1 t2=>?_⟩
 ·rcases yQ1.1 (show e∈n.log++[(n.term,d)]from he)with he | he
  ·exact h6 e he
  ·simp at he;rw[he];exact hd
 ·show 1≤(n.next.set (n.id - 1).toNat (qJi n+1+1)).getD (to - 1) 0∧(n.next.set (n.id - 1).toNat (qJi n+1+1)).getD (to - 1) 0≤n.base+((n.log++[(n.term,d)]).length:Int)+1;have t2:(to:Int)≤n.size:=t2;have hlast:qJi n=n.base+n.log.length:=rfl;have hm:(n.next.set (n.id - 1).toNat (qJi n+1+1)).getD (to - 1) 0∈n.next.set (n.id - 1).toNat (qJi n+1+1):=by
   rw[yQj,yQn (by rw[yQ0];omega)];exact gQp _
  generalize(n.next.set (n.id - 1).toNat (qJi n+1+1)).getD (to - 1) 0=z at hm ⊢;rw[yQs,gQv];rcases List.mem_or_eq_of_mem_set hm with h | h
  ·have:=h10 _ h;omega
  ·omega
set_option maxRecDepth 20000 in
theorem s52 {d:Byts}{dv:AV}(hh:HK hk)(wk:Wk T I w0 w W bs bm bn bv n s out ms dr L)(pc:PC n)(hd:(rL rU).rd A w [dv] d)(hdl:d.length≤60000)(hms:ms.length<2^18)
  (hK:∀s' out' w',Wk T I w0 w' W bs bm bn bv (putN n d) s' out' (ms++xJt (putN n d) n.size.toNat) dr L→Xt (W::bs::bm::bn::bv::ids L) w (W::bs::bm::bn::bv::ids L) w'→K (.tup []) w'):Cl Tryz.prog hk 52 [.ptr W 0,dv] w K:=by
 refine in52 (hh.no _ _ _ (by decide) (by decide)) ?_;unfold F52;obtain⟨st,wr,we⟩:=id wk;obtain⟨c1,c2,c3,c4,c5,c6,c7,c8,c9,c10,c11⟩:=id pc;have c32:=c3.2;unfold G40 at c32;have hlast:qJi n=n.base+n.log.length:=rfl;simp only[onP];refine qJd (v:=s.log) (st.ld 0 rfl rfl) ⟨_,st.ld 0 rfl rfl,s55 hh st.mem hd (by omega) fun v7 w7 f7 h7=>?_⟩;obtain⟨st7,x7⟩:=st.call f7;have hr7:(rL rU).rd (fz T (W::bs::bm::bn::bv::ids L)) w7 [v7] d:=h7.rd (fun c hc=>st.P.new c hc) Chk.flU;have wr7:=wr.x x7;refine gd_t hr7.ok1 (gd_t (by simp only[List.all_cons,hr7.ok1];rfl) (st7.new' fun b8 w9 st9 x9=>gd_t wr7.log.ok1 (st9.new' fun b10 w11 st11 x11=>⟨st11.ld 2 rfl rfl,st11.ld 2 rfl rfl,?_⟩)));obtain⟨st12,x12,_,hb10⟩:=st11.drop;obtain⟨st13,x13,hA8,hb8⟩:=st12.drop;have xx:Xt (W::bs::bm::bn::bv::ids L) w7 (W::bs::bm::bn::bv::ids L) w11:=(x9.trans x11).trans (x12.trans x13);have wr11:=wr7.x xx;have he:rE.rd (fz T (W::bs::bm::bn::bv::ids L)) w11 [.int .i64 n.term,v7] (n.term,d):=⟨v7,rfl,hr7.x xx⟩;refine s95 hh st13.mem st13.P0.pos hb10 wr11.log (Box.rd1 hb8 hA8 he) (by simp) (by simp;omega) fun v14 w14 f14 hv14=>?_;obtain⟨st14,x14⟩:=st13.call f14;have hl14:(rL rE).rd (fz T (W::bs::bm::bn::bv::ids L)) w14 [v14] (n.log++[(n.term,d)]):=hv14 _ (fun b hb=>st13.P.new b hb) fun _ _ h=>h.xa Xa.refl;refine gd_t hl14.ok1 (st14.put 0 rfl (yQk rfl) fun w15 st15 x15=>?_);have x015:Xt (W::bs::bm::bn::bv::ids L) w (W::bs::bm::bn::bv::ids L) w15:=((x7.trans xx).trans x14).trans x15;have hl15:=hl14.x x15;have wr15a:=wr.x x015;have wk15:Wk T I w0 w15 W bs bm bn bv {n with log:=n.log++[(n.term,d)]} {s with log:=v14} out ms dr L:=⟨st15,⟨wr15a.snap,hl15,wr15a.reads,wr15a.out⟩,⟨we.seen,we.mtch,we.next,we.votes⟩⟩;refine qJd (v:=s.mtch) (st15.ld 0 rfl rfl) ⟨_,st15.ld 0 rfl rfl,qJd (v:=s.next) (st15.ld 0 rfl rfl) ⟨_,st15.ld 0 rfl rfl,?_⟩⟩;refine⟨_,_,_,_,_,_,_,_,_,_,_,_,_,_,_,_,_,_,_,st15.ldN 0 rfl rfl rfl,_,_,_,_,_,_,_,_,_,_,_,_,_,_,_,_,_,_,_,st15.ldN 0 rfl rfl rfl,?_⟩;have hl2:(n.log++[(n.term,d)]).length=n.log.length+1:=by simp
 refine s36 hh st15.mem wk15.nr c3.1 (by show n.base<_;omega) (by show(n.log++[(n.term,d)]).length<_;omega) fun w16 f16=>⟨_,rfl,?_⟩;obtain⟨st16,x16⟩:=st15.call f16;have wk16:Wk T I w0 w16 W bs bm bn bv {n with log:=n.log++[(n.term,d)]} {s with log:=v14} out ms dr L:=⟨st16,wk15.wr.x x16,wk15.we⟩;refine⟨st16.ldN 0 rfl rfl rfl,st16.ld 0 rfl rfl,st16.ld 0 rfl rfl,st16.ld 0 rfl rfl,st16.ld 0 rfl rfl,?_⟩;refine s36 hh st16.mem wk16.nr c3.1 (by show n.base<_;omega) (by show(n.log++[(n.term,d)]).length<_;omega) fun w17 f17=>⟨_,rfl,?_⟩;obtain⟨st17,x17⟩:=st16.call f17;refine⟨st17.ld 0 rfl rfl,st17.ld 0 rfl rfl,st17.ld 0 rfl rfl,st17.ld 0 rfl rfl,?_⟩;have hl3:qJi {n with log:=n.log++[(n.term,d)]}=qJi n+1:=by show n.base+((n.log++[(n.term,d)]).length:Int)=_;rw[hl2];omega
 obtain⟨k,hkk⟩:∃k:Nat,n.id - 1=(k:Int):=yQ8 (by omega);rw[hl3,we.mtch,we.next,qJq (x:=n.id - 1) (by omega) (by omega),qJq (x:=qJi n+1+1) (by omega) (by omega),hkk];refine idx0 (by omega) (st17.put 2 rfl (by rw[yQr];simp;omega) fun w18 st18 x18=>idx0 (by omega) (st18.put 3 rfl (by rw[yQr];simp;omega) fun w19 st19 x19=>?_));have hk1:k<n.mtch.length:=by omega
 have hk2:k<n.next.length:=by omega
 have x019:Xt (W::bs::bm::bn::bv::ids L) w (W::bs::bm::bn::bv::ids L) w19:=(((x015.trans x16).trans x17).trans x18).trans x19;have st19:Ow T I w0 w19 (wkL W bs bm bn bv {n with log:=n.log++[(n.term,d)],mtch:=n.mtch.set k (qJi n+1),next:=n.next.set k (qJi n+1+1)} {s with log:=v14} out dr L):=by
  have:=st19;simp only[stN]at this;rw[vJ2 hk1,vJ2 hk2]at this;exact this
 have wr19:=wk15.wr.x (((x16.trans x17).trans x18).trans x19);have ek:k=(n.id - 1).toNat:=by omega
 subst ek;have wk19:Wk T I w0 w19 W bs bm bn bv {n with log:=n.log++[(n.term,d)],mtch:=n.mtch.set (n.id - 1).toNat (qJi n+1),next:=n.next.set (n.id - 1).toNat (qJi n+1+1)} {s with log:=v14} out ms dr L:=
  ⟨st19,⟨wr19.snap,wr19.log,wr19.reads,wr19.out⟩,⟨we.seen,by rw[yQ0];exact we.mtch,by rw[yQ0];exact we.next,we.votes⟩⟩
 refine s96 hh wk19 c3 (by show(n.log++[(n.term,d)]).length<_;omega) c4 (fun x hx=>?_) (by rw[yQ0];omega) fun w20 wk20 x20=>⟨rfl,?_⟩
 ·rcases List.mem_or_eq_of_mem_set hx with h | h
  ·have:=c11 _ h;omega
  ·omega
 ·refine s49 hh wk20 (pc.sc hdl) (by omega) fun out' w21 wk21 x21=>⟨rfl,hK _ out' w21 wk21 ((x019.trans x20).trans x21)⟩
structure BC(n:Nd):Prop where
 size:1≤n.size∧n.size≤9
 log:n.log.length<2^30
 data:∀e∈n.log,e.2.length≤60000
 snap:n.snap.length≤60000
 reads:n.reads.length≤64
 ln:Ln n
set_option maxRecDepth 20000 in
theorem s43 {draw:Int}(hh:HK hk)(st:Ow T I w0 w L)(h:NR (fz B (ids L)) w n s)(bc:BC n)
  (hK:∀W bs bm bn bv s' w',Wk T I w0 w' W bs bm bn bv n s' .nilslice [] draw L→Xt (ids L) w (W::bs::bm::bn::bv::ids L) w'→K (.ptr W 0) w'):Cl Tryz.prog hk 43 [.agg (ndC n s),.int .i64 draw] w K:=by
 refine in43 (hh.no _ _ _ (by decide) (by decide)) ?_;unfold F43;obtain⟨c1,c2,c3,c4,c5,l1,l2,l3,l4⟩:=bc;refine gd_t h.ok (st.new' fun b20 w21 st21 x21=>qJd (v:=s.log) (st21.ld 0 rfl rfl) (qJd (v:=s.snap) (st21.ld 0 rfl rfl) ?_));refine s83 hh st21.mem st21.P0.pos (h.log.x x21) (by omega) (fun e he=>by have:=c3 e he;omega) fun v9 w25 f25 h25=>⟨(st21.call f25).1.ld 0 rfl rfl,?_⟩;obtain⟨st25,x25⟩:=st21.call f25;have hl25:(rL rE).rd (fz T (b20::ids L)) w25 [v9] n.log:=h25.le (fun c _ hc=>st21.P.new c hc) st25.mem;refine s55 hh st25.mem (h.snap.x (x21.trans x25)) (by omega) fun v8 w27 f27 h27=>gd_t hl25.ok1 ?_;obtain⟨st27,x27⟩:=st25.call f27;have hs27:(rL rU).rd (fz T (b20::ids L)) w27 [v8] n.snap:=h27.rd (fun c hc=>st25.P.new c hc) Chk.flU;refine st27.put 0 rfl (yQk rfl) fun w28 st28 x28=>gd_t hs27.ok1 ?_;have st28:Ow T I w0 w28 ((b20,.row (ndC n {s with log:=v9}))::L):=st28;refine st28.put 0 rfl (yQk rfl) fun w29 st29 x29=>?_;have st29:Ow T I w0 w29 ((b20,.row (ndC n {s with log:=v9,snap:=v8}))::L):=st29;have x029:Xt (ids L) w (b20::ids L) w29:=((((x21.trans x25).trans x27)).trans x28).trans x29;refine qJd (v:=s.votes) (st29.ld 0 rfl rfl) (qJd (v:=s.next) (st29.ld 0 rfl rfl) (qJd (v:=s.mtch) (st29.ld 0 rfl rfl) (qJd (v:=s.seen) (st29.ld 0 rfl rfl) (qJd (v:=s.reads) (st29.ld 0 rfl rfl) ?_))));refine s84 hh st29.mem (h.votes.x x029) (by omega) fun v11 w36 f36 h36=>?_;obtain⟨bv,rfl,st36,x36⟩:=cJl (f:=AV.bool) st29 h36 (by omega) (fun _ h=>Chk.bools.1 h) f36;refine⟨st36.ld 1 rfl rfl,st36.ld 1 rfl rfl,st36.ld 1 rfl rfl,st36.ld 1 rfl rfl,?_⟩;have x036:Xt (ids L) w (bv::b20::ids L) w36:=x029.trans x36;refine s85 hh st36.mem (h.next.x x036) (by omega) fun v12 w38 f38 h38=>?_;obtain⟨bn,rfl,st38,x38⟩:=cJl (f:=AV.int .i64) st36 h38 (by omega) (fun _ h=>Chk.ints.1 h) f38;refine⟨st38.ld 2 rfl rfl,st38.ld 2 rfl rfl,st38.ld 2 rfl rfl,?_⟩;have x038:Xt (ids L) w (bn::bv::b20::ids L) w38:=x036.trans x38;refine s85 hh st38.mem (h.mtch.x x038) (by omega) fun v13 w40 f40 h40=>?_;obtain⟨bm,rfl,st40,x40⟩:=cJl (f:=AV.int .i64) st38 h40 (by omega) (fun _ h=>Chk.ints.1 h) f40;refine⟨st40.ld 3 rfl rfl,st40.ld 3 rfl rfl,?_⟩;have x040:Xt (ids L) w (bm::bn::bv::b20::ids L) w40:=x038.trans x40;refine s85 hh st40.mem (h.seen.x x040) (by omega) fun v14 w42 f42 h42=>?_;obtain⟨bs,rfl,st42,x42⟩:=cJl (f:=AV.int .i64) st40 h42 (by omega) (fun _ h=>Chk.ints.1 h) f42;refine⟨st42.ld 4 rfl rfl,?_⟩;have x042:Xt (ids L) w (bs::bm::bn::bv::b20::ids L) w42:=x040.trans x42;refine s69 hh st42.mem (h.reads.x x042) (by omega) fun v18 w44 f44 h44=>?_;obtain⟨st44,x44⟩:=st42.call f44;have hg44:(rL rG).rd (fz T (bs::bm::bn::bv::b20::ids L)) w44 [v18] n.reads:=h44.rd (fun c hc=>st42.P.new c hc) Chk.flG;have hs:∀{s1:Sl} {w':AW} (o:Nat) (v:AV) (s2:Sl),Ow T I w0 w' ((bs,.row (n.seen.map (AV.int .i64)))::(bm,.row (n.mtch.map (AV.int .i64)))::(bn,.row (n.next.map (AV.int .i64)))::(bv,.row (n.votes.map AV.bool))::(b20,.row (ndC n s1))::L)→Nat.ble (o+[v].length) (ndC n s1).length=true→qJg (ndC n s1) o [v]=ndC n s2→∀{G:AW→Prop},qJc v=true→(∀w'',Ow T I w0 w'' ((bs,.row (n.seen.map (AV.int .i64)))::(bm,.row (n.mtch.map (AV.int .i64)))::(bn,.row (n.next.map (AV.int .i64)))::(bv,.row (n.votes.map AV.bool))::(b20,.row (ndC n s2))::L)→Xt (bs::bm::bn::bv::b20::ids L) w' (bs::bm::bn::bv::b20::ids L) w''→G w'')→gd (qJc v) (onM (w'.putCells b20 o [v]) G):=by
  intro s1 w' o v s2 st' hl he G hv hG;refine gd_t hv (st'.put 4 rfl (yQk hl) fun w'' st'' x''=>hG w'' ?_ x'');rw[←he];exact st''
 have st44:Ow T I w0 w44 ((bs,.row (n.seen.map (AV.int .i64)))::(bm,.row (n.mtch.map (AV.int .i64)))::(bn,.row (n.next.map (AV.int .i64)))::(bv,.row (n.votes.map AV.bool))::(b20,.row (ndC n {s with log:=v9,snap:=v8}))::L):=st44;refine hs (0+11) (.slice bv 0 n.votes.length n.votes.length (some 1)) ⟨v8,v9,.slice bv 0 n.votes.length n.votes.length (some 1),s.next,s.mtch,s.seen,s.reads⟩ st44 rfl rfl rfl fun w45 st45 x45=>?_;refine hs (0+12) (.slice bn 0 n.next.length n.next.length (some 1)) ⟨v8,v9,.slice bv 0 n.votes.length n.votes.length (some 1),.slice bn 0 n.next.length n.next.length (some 1),s.mtch,s.seen,s.reads⟩ st45 rfl rfl rfl fun w46 st46 x46=>?_;refine hs (0+13) (.slice bm 0 n.mtch.length n.mtch.length (some 1)) ⟨v8,v9,.slice bv 0 n.votes.length n.votes.length (some 1),.slice bn 0 n.next.length n.next.length (some 1),.slice bm 0 n.mtch.length n.mtch.length (some 1),s.seen,s.reads⟩ st46 rfl rfl rfl fun w47 st47 x47=>?_;refine hs (0+14) (.slice bs 0 n.seen.length n.seen.length (some 1)) ⟨v8,v9,.slice bv 0 n.votes.length n.votes.length (some 1),.slice bn 0 n.next.length n.next.length (some 1),.slice bm 0 n.mtch.length n.mtch.length (some 1),.slice bs 0 n.seen.length n.seen.length (some 1),s.reads⟩ st47 rfl rfl rfl fun w48 st48 x48=>?_;refine hs (0+18) v18 ⟨v8,v9,.slice bv 0 n.votes.length n.votes.length (some 1),.slice bn 0 n.next.length n.next.length (some 1),.slice bm 0 n.mtch.length n.mtch.length (some 1),.slice bs 0 n.seen.length n.seen.length (some 1),v18⟩ st48 rfl rfl hg44.ok1 fun w49 st49 x49=>?_;refine⟨_,_,_,_,_,_,_,_,_,_,_,_,_,_,_,_,_,_,_,st49.ldN 4 rfl rfl rfl,?_⟩;have hl45:qJc v9=true:=hl25.ok1;have hs45:qJc v8=true:=hs27.ok1;have hg45:qJc v18=true:=hg44.ok1;refine gd_t (by simp only[List.all_cons,hl45,hs45,hg45];rfl) (st49.new' fun W w70 st70 x70=>?_);obtain⟨st71,x71⟩:=st70.front 5 rfl;obtain⟨st72,x72,_⟩:=st71.drop;have x4:Xt (bs::bm::bn::bv::b20::ids L) w44 (W::bs::bm::bn::bv::ids L) w70:=((((((x45.trans x46).trans x47).trans x48).trans x49).trans x70).trans x71).trans x72;have x6:Xt (b20::ids L) w27 (W::bs::bm::bn::bv::ids L) w70:=Xt.trans x28 (x29.trans (x36.trans (x38.trans (x40.trans (x42.trans (x44.trans x4))))));exact hK W bs bm bn bv ⟨v8,v9,.slice bv 0 n.votes.length n.votes.length (some 1),.slice bn 0 n.next.length n.next.length (some 1),.slice bm 0 n.mtch.length n.mtch.length (some 1),.slice bs 0 n.seen.length n.seen.length (some 1),v18⟩ w70 ⟨st72,⟨hs27.x x6,hl25.x (Xt.trans x27 x6),hg44.x x4,Rp.rd.nil⟩,⟨rfl,rfl,rfl,rfl⟩⟩ (x042.trans (x44.trans x4))
end
end Go.Proofs.YtghoifolghelnaaGreat
/-
 What the functions of this chapter do.
 No condition beyond those that each theorem names.
-/
open Go.Sx
namespace Go.Proofs.YtghoifolghelnaaGreat
def F46(hk:Hook)(l_0:AV)(w:AW)(K:AV→AW→Prop):Prop:=
 onE (appS 1 1 w .nilslice l_0) fun x1 w2=>
 K x1 w2
def adv46:Adv:=(.sq .lf (.sq .lf (.sq .lf .lf)))
set_option maxRecDepth 100000 in
theorem in46 {hk:Hook}{l_0:AV}{w:AW}{K:AV→AW→Prop}(hn:hk 46 [l_0] w=none)(h:F46 hk l_0 w K):Cl Tryz.prog hk 46 [l_0] w K:=
 qJm (adv:=adv46) Tryz.func46 hn (Eq.mpr (by kernel_rfl) h)
end Go.Proofs.YtghoifolghelnaaGreat
