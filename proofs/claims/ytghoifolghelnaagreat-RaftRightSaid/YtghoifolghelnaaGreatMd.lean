/-
 What the functions of this chapter do.
 No condition beyond those that each theorem names.
-/
import Derived.Test.YtghoifolghelnaaGreatMc
import Derived.Test.YtghoifolghelnaaGreatSxu
import Derived.Test.YtghoifolghelnaaGreatProg
import Derived.KernelRfl
set_option linter.unusedSimpArgs false
open Go.Sx
set_option linter.unusedVariables false
namespace Go.Proofs.YtghoifolghelnaaGreat
set_option maxRecDepth 100000 in
def F10 (hk : Hook) (n0 n1 n2 n3 n4 n5 n6 n7 : Int) (n8 n9 : AV) (n10 : Int) (n11 n12 n13 n14 : AV) (n15 n16 n17 : Int) (n18 : AV) (m19 : List UInt8) (m20 m21 m22 m23 m24 m25 m26 m27 : Int) (m28 : Bool) (m29 m30 : AV) (draw31 : Int) (w : AW) (K : AV → AW → Prop) : Prop :=
 gd (List.all [(ii n0),(ii n1),(.int .u8 n2),(ii n3),(ii n4),(ii n5),(ii n6),(ii n7),n8,n9,(ii n10),n11,n12,n13,n14,(ii n15),(ii n16),(ii n17),n18] okCell) (
 new w [(ii n0),(ii n1),(.int .u8 n2),(ii n3),(ii n4),(ii n5),(ii n6),(ii n7),n8,n9,(ii n10),n11,n12,n13,n14,(ii n15),(ii n16),(ii n17),n18] fun b32 w33 =>
 gd (List.all [(.str m19),(.int .u8 m20),(ii m21),(ii m22),(ii m23),(ii m24),(ii m25),(ii m26),(ii m27),(.bool m28),m29,m30] okCell) (
 new w33 [(.str m19),(.int .u8 m20),(ii m21),(ii m22),(ii m23),(ii m24),(ii m25),(ii m26),(ii m27),(.bool m28),m29,m30] fun b34 w35 =>
 new w35 [(ii 0),(ii 0),(.int .u8 0),(ii 0),(ii 0),(ii 0),(ii 0),(ii 0),.nilslice,.nilslice,(ii 0),.nilslice,.nilslice,.nilslice,.nilslice,(ii 0),(ii 0),(ii 0),.nilslice] fun b36 w37 =>
 ∃ x38 x39 x40 x41 x42 x43 x44 x45 : Int,∃ x46 x47 : AV,∃ x48 : Int,∃ x49 x50 x51 x52 : AV,∃ x53 x54 x55 : Int,∃ x56 : AV,ldN 19 w37 b32 0 = some (.agg [(ii x38),(ii x39),(.int .u8 x40),(ii x41),(ii x42),(ii x43),(ii x44),(ii x45),x46,x47,(ii x48),x49,x50,x51,x52,(ii x53),(ii x54),(ii x55),x56]) ∧
 Cl Tryz.prog hk 8 [(.agg [(ii x38),(ii x39),(.int .u8 x40),(ii x41),(ii x42),(ii x43),(ii x44),(ii x45),x46,x47,(ii x48),x49,x50,x51,x52,(ii x53),(ii x54),(ii x55),x56])] w37 fun r57 w58 =>
 ∃ x59 : Bool,r57 = (.bool x59) ∧
 ifT (!x59) (onM (AW.putCells w58 b36 0 [(ii 0),(ii 0),(.int .u8 0),(ii 0),(ii 0),(ii 0),(ii 0),(ii 0),.nilslice,.nilslice,(ii 0),.nilslice,.nilslice,.nilslice,.nilslice,(ii 0),(ii 0),(ii 0),.nilslice]) fun w60 =>
 ∃ res61 res62 res63 res64 res65 res66 res67 res68 : Int,∃ res69 res70 : AV,∃ res71 : Int,∃ res72 res73 res74 res75 : AV,∃ res76 res77 res78 : Int,∃ res79 : AV,ldN 19 w60 b36 0 = some (.agg [(ii res61),(ii res62),(.int .u8 res63),(ii res64),(ii res65),(ii res66),(ii res67),(ii res68),res69,res70,(ii res71),res72,res73,res74,res75,(ii res76),(ii res77),(ii res78),res79]) ∧
 K (.tup [(.agg [(ii res61),(ii res62),(.int .u8 res63),(ii res64),(ii res65),(ii res66),(ii res67),(ii res68),res69,res70,(ii res71),res72,res73,res74,res75,(ii res76),(ii res77),(ii res78),res79]),.nilslice,(ii 2)]) w60)
 (∃ x80 x81 x82 x83 x84 x85 x86 x87 : Int,∃ x88 x89 : AV,∃ x90 : Int,∃ x91 x92 x93 x94 : AV,∃ x95 x96 x97 : Int,∃ x98 : AV,ldN 19 w58 b32 0 = some (.agg [(ii x80),(ii x81),(.int .u8 x82),(ii x83),(ii x84),(ii x85),(ii x86),(ii x87),x88,x89,(ii x90),x91,x92,x93,x94,(ii x95),(ii x96),(ii x97),x98]) ∧
 ∃ x99 : List UInt8,∃ x100 x101 x102 x103 x104 x105 x106 x107 : Int,∃ x108 : Bool,∃ x109 x110 : AV,ldN 12 w58 b34 0 = some (.agg [(.str x99),(.int .u8 x100),(ii x101),(ii x102),(ii x103),(ii x104),(ii x105),(ii x106),(ii x107),(.bool x108),x109,x110]) ∧
 Cl Tryz.prog hk 42 [(.agg [(ii x80),(ii x81),(.int .u8 x82),(ii x83),(ii x84),(ii x85),(ii x86),(ii x87),x88,x89,(ii x90),x91,x92,x93,x94,(ii x95),(ii x96),(ii x97),x98]),(.agg [(.str x99),(.int .u8 x100),(ii x101),(ii x102),(ii x103),(ii x104),(ii x105),(ii x106),(ii x107),(.bool x108),x109,x110])] w58 fun r111 w112 =>
 ∃ x113 : Bool,r111 = (.bool x113) ∧
 ifT (!x113) (onM (AW.putCells w112 b36 0 [(ii 0),(ii 0),(.int .u8 0),(ii 0),(ii 0),(ii 0),(ii 0),(ii 0),.nilslice,.nilslice,(ii 0),.nilslice,.nilslice,.nilslice,.nilslice,(ii 0),(ii 0),(ii 0),.nilslice]) fun w114 =>
  ∃ res115 res116 res117 res118 res119 res120 res121 res122 : Int,∃ res123 res124 : AV,∃ res125 : Int,∃ res126 res127 res128 res129 : AV,∃ res130 res131 res132 : Int,∃ res133 : AV,ldN 19 w114 b36 0 = some (.agg [(ii res115),(ii res116),(.int .u8 res117),(ii res118),(ii res119),(ii res120),(ii res121),(ii res122),res123,res124,(ii res125),res126,res127,res128,res129,(ii res130),(ii res131),(ii res132),res133]) ∧
 K (.tup [(.agg [(ii res115),(ii res116),(.int .u8 res117),(ii res118),(ii res119),(ii res120),(ii res121),(ii res122),res123,res124,(ii res125),res126,res127,res128,res129,(ii res130),(ii res131),(ii res132),res133]),.nilslice,(ii 2)]) w114)
 (∃ x134 x135 x136 x137 x138 x139 x140 x141 : Int,∃ x142 x143 : AV,∃ x144 : Int,∃ x145 x146 x147 x148 : AV,∃ x149 x150 x151 : Int,∃ x152 : AV,ldN 19 w112 b32 0 = some (.agg [(ii x134),(ii x135),(.int .u8 x136),(ii x137),(ii x138),(ii x139),(ii x140),(ii x141),x142,x143,(ii x144),x145,x146,x147,x148,(ii x149),(ii x150),(ii x151),x152]) ∧
 Cl Tryz.prog hk 43 [(.agg [(ii x134),(ii x135),(.int .u8 x136),(ii x137),(ii x138),(ii x139),(ii x140),(ii x141),x142,x143,(ii x144),x145,x146,x147,x148,(ii x149),(ii x150),(ii x151),x152]),(ii draw31)] w112 fun r153 w154 =>
 join (fun l_155 w156 => l_155 = [] ∧ ∀ _ : Nat → AV,
  ∃ x158 : Int,ld w156 b34 (0 + 1) = some (.int .u8 x158) ∧
  ∃ x159 : List UInt8,∃ x160 x161 x162 x163 x164 x165 x166 x167 : Int,∃ x168 : Bool,∃ x169 x170 : AV,ldN 12 w156 b34 0 = some (.agg [(.str x159),(.int .u8 x160),(ii x161),(ii x162),(ii x163),(ii x164),(ii x165),(ii x166),(ii x167),(.bool x168),x169,x170]) ∧
  Cl Tryz.prog hk 45 [r153,(.int .u8 x158)] w156 fun r171 w172 =>
  ldN 12 w172 b34 0 = some (.agg [(.str x159),(.int .u8 x160),(ii x161),(ii x162),(ii x163),(ii x164),(ii x165),(ii x166),(ii x167),(.bool x168),x169,x170]) ∧
  Cv Tryz.prog hk r171 [(.agg [(.str x159),(.int .u8 x160),(ii x161),(ii x162),(ii x163),(ii x164),(ii x165),(ii x166),(ii x167),(.bool x168),x169,x170])] w172 fun r173 w174 =>
  r173 = .tup [] ∧
  onP r153 fun b175 o176 =>
  ∃ x177 x178 x179 x180 x181 x182 x183 x184 : Int,∃ x185 x186 : AV,∃ x187 : Int,∃ x188 x189 x190 x191 : AV,∃ x192 x193 x194 : Int,∃ x195 : AV,ldN 19 w174 b175 (o176 + 0) = some (.agg [(ii x177),(ii x178),(.int .u8 x179),(ii x180),(ii x181),(ii x182),(ii x183),(ii x184),x185,x186,(ii x187),x188,x189,x190,x191,(ii x192),(ii x193),(ii x194),x195]) ∧
  onP r153 fun b196 o197 =>
  onM (ld w174 b196 (o197 + 19)) fun x198 =>
  gd (List.all [(ii x177),(ii x178),(.int .u8 x179),(ii x180),(ii x181),(ii x182),(ii x183),(ii x184),x185,x186,(ii x187),x188,x189,x190,x191,(ii x192),(ii x193),(ii x194),x195] okCell) (
  onM (AW.putCells w174 b36 0 [(ii x177),(ii x178),(.int .u8 x179),(ii x180),(ii x181),(ii x182),(ii x183),(ii x184),x185,x186,(ii x187),x188,x189,x190,x191,(ii x192),(ii x193),(ii x194),x195]) fun w199 =>
  ld w199 b196 (o197 + 19) = some x198 ∧
  ∃ res200 res201 res202 res203 res204 res205 res206 res207 : Int,∃ res208 res209 : AV,∃ res210 : Int,∃ res211 res212 res213 res214 : AV,∃ res215 res216 res217 : Int,∃ res218 : AV,ldN 19 w199 b36 0 = some (.agg [(ii res200),(ii res201),(.int .u8 res202),(ii res203),(ii res204),(ii res205),(ii res206),(ii res207),res208,res209,(ii res210),res211,res212,res213,res214,(ii res215),(ii res216),(ii res217),res218]) ∧
 K (.tup [(.agg [(ii res200),(ii res201),(.int .u8 res202),(ii res203),(ii res204),(ii res205),(ii res206),(ii res207),res208,res209,(ii res210),res211,res212,res213,res214,(ii res215),(ii res216),(ii res217),res218]),x198,(ii 0)]) w199)) fun J157 =>
 ∃ x219 : Int,ld w154 b34 (0 + 4) = some (ii x219) ∧
 ∃ x220 : Int,ld w154 b32 (0 + 3) = some (ii x220) ∧
 ifT (decide (x220 < x219)) (∃ x221 : Int,ld w154 b34 (0 + 4) = some (ii x221) ∧
  Cl Tryz.prog hk 44 [r153,(ii x221)] w154 fun r222 w223 =>
  r222 = .tup [] ∧
  J157 [] w223)
 (J157 [] w154)))))
def adv10 : Adv := (.sq .lf (.sq (.sq .lf (.cd (.sq .lf .lf) .lf)) (.sq .lf (.sj [] (.sq .lf (.cd .lf .lf)) (.sq .lf (.sq .lf .lf))))))
set_option maxRecDepth 100000 in
theorem in10 {hk : Hook} {n0 n1 n2 n3 n4 n5 n6 n7 : Int} {n8 n9 : AV} {n10 : Int} {n11 n12 n13 n14 : AV} {n15 n16 n17 : Int} {n18 : AV} {m19 : List UInt8} {m20 m21 m22 m23 m24 m25 m26 m27 : Int} {m28 : Bool} {m29 m30 : AV} {draw31 : Int} {w : AW} {K : AV → AW → Prop} (hn : hk 10 [(.agg [(ii n0),(ii n1),(.int .u8 n2),(ii n3),(ii n4),(ii n5),(ii n6),(ii n7),n8,n9,(ii n10),n11,n12,n13,n14,(ii n15),(ii n16),(ii n17),n18]),(.agg [(.str m19),(.int .u8 m20),(ii m21),(ii m22),(ii m23),(ii m24),(ii m25),(ii m26),(ii m27),(.bool m28),m29,m30]),(ii draw31)] w = none) (h : F10 hk n0 n1 n2 n3 n4 n5 n6 n7 n8 n9 n10 n11 n12 n13 n14 n15 n16 n17 n18 m19 m20 m21 m22 m23 m24 m25 m26 m27 m28 m29 m30 draw31 w K) : Cl Tryz.prog hk 10 [(.agg [(ii n0),(ii n1),(.int .u8 n2),(ii n3),(ii n4),(ii n5),(ii n6),(ii n7),n8,n9,(ii n10),n11,n12,n13,n14,(ii n15),(ii n16),(ii n17),n18]),(.agg [(.str m19),(.int .u8 m20),(ii m21),(ii m22),(ii m23),(ii m24),(ii m25),(ii m26),(ii m27),(.bool m28),m29,m30]),(ii draw31)] w K :=
 fnS_ok (adv := adv10) Tryz.func10 hn (Eq.mpr (by kernel_rfl) h)
set_option maxRecDepth 100000 in
def F12 (hk : Hook) (n0 n1 n2 n3 n4 n5 n6 n7 : Int) (n8 n9 : AV) (n10 : Int) (n11 n12 n13 n14 : AV) (n15 n16 n17 : Int) (n18 : AV) (draw19 : Int) (w : AW) (K : AV → AW → Prop) : Prop :=
 gd (List.all [(ii n0),(ii n1),(.int .u8 n2),(ii n3),(ii n4),(ii n5),(ii n6),(ii n7),n8,n9,(ii n10),n11,n12,n13,n14,(ii n15),(ii n16),(ii n17),n18] okCell) (
 new w [(ii n0),(ii n1),(.int .u8 n2),(ii n3),(ii n4),(ii n5),(ii n6),(ii n7),n8,n9,(ii n10),n11,n12,n13,n14,(ii n15),(ii n16),(ii n17),n18] fun b20 w21 =>
 new w21 [(ii 0),(ii 0),(.int .u8 0),(ii 0),(ii 0),(ii 0),(ii 0),(ii 0),.nilslice,.nilslice,(ii 0),.nilslice,.nilslice,.nilslice,.nilslice,(ii 0),(ii 0),(ii 0),.nilslice] fun b22 w23 =>
 ∃ x24 x25 x26 x27 x28 x29 x30 x31 : Int,∃ x32 x33 : AV,∃ x34 : Int,∃ x35 x36 x37 x38 : AV,∃ x39 x40 x41 : Int,∃ x42 : AV,ldN 19 w23 b20 0 = some (.agg [(ii x24),(ii x25),(.int .u8 x26),(ii x27),(ii x28),(ii x29),(ii x30),(ii x31),x32,x33,(ii x34),x35,x36,x37,x38,(ii x39),(ii x40),(ii x41),x42]) ∧
 Cl Tryz.prog hk 8 [(.agg [(ii x24),(ii x25),(.int .u8 x26),(ii x27),(ii x28),(ii x29),(ii x30),(ii x31),x32,x33,(ii x34),x35,x36,x37,x38,(ii x39),(ii x40),(ii x41),x42])] w23 fun r43 w44 =>
 ∃ x45 : Bool,r43 = (.bool x45) ∧
 ifT (!x45) (onM (AW.putCells w44 b22 0 [(ii 0),(ii 0),(.int .u8 0),(ii 0),(ii 0),(ii 0),(ii 0),(ii 0),.nilslice,.nilslice,(ii 0),.nilslice,.nilslice,.nilslice,.nilslice,(ii 0),(ii 0),(ii 0),.nilslice]) fun w46 =>
  ∃ res47 res48 res49 res50 res51 res52 res53 res54 : Int,∃ res55 res56 : AV,∃ res57 : Int,∃ res58 res59 res60 res61 : AV,∃ res62 res63 res64 : Int,∃ res65 : AV,ldN 19 w46 b22 0 = some (.agg [(ii res47),(ii res48),(.int .u8 res49),(ii res50),(ii res51),(ii res52),(ii res53),(ii res54),res55,res56,(ii res57),res58,res59,res60,res61,(ii res62),(ii res63),(ii res64),res65]) ∧
 K (.tup [(.agg [(ii res47),(ii res48),(.int .u8 res49),(ii res50),(ii res51),(ii res52),(ii res53),(ii res54),res55,res56,(ii res57),res58,res59,res60,res61,(ii res62),(ii res63),(ii res64),res65]),.nilslice,(ii 2)]) w46)
 (∃ x66 x67 x68 x69 x70 x71 x72 x73 : Int,∃ x74 x75 : AV,∃ x76 : Int,∃ x77 x78 x79 x80 : AV,∃ x81 x82 x83 : Int,∃ x84 : AV,ldN 19 w44 b20 0 = some (.agg [(ii x66),(ii x67),(.int .u8 x68),(ii x69),(ii x70),(ii x71),(ii x72),(ii x73),x74,x75,(ii x76),x77,x78,x79,x80,(ii x81),(ii x82),(ii x83),x84]) ∧
 Cl Tryz.prog hk 43 [(.agg [(ii x66),(ii x67),(.int .u8 x68),(ii x69),(ii x70),(ii x71),(ii x72),(ii x73),x74,x75,(ii x76),x77,x78,x79,x80,(ii x81),(ii x82),(ii x83),x84]),(ii draw19)] w44 fun r85 w86 =>
 onP r85 fun b87 o88 =>
 ∃ x89 : Int,ld w86 b87 ((o88 + 0) + 16) = some (ii x89) ∧
 onP r85 fun b90 o91 =>
 onM (AW.putCells w86 b90 ((o91 + 0) + 16) [(ii (wi (x89 + 1)))]) fun w92 =>
 join (fun l_93 w94 => l_93 = [] ∧ ∀ _ : Nat → AV,
  onP r85 fun b96 o97 =>
  ∃ x98 x99 x100 x101 x102 x103 x104 x105 : Int,∃ x106 x107 : AV,∃ x108 : Int,∃ x109 x110 x111 x112 : AV,∃ x113 x114 x115 : Int,∃ x116 : AV,ldN 19 w94 b96 (o97 + 0) = some (.agg [(ii x98),(ii x99),(.int .u8 x100),(ii x101),(ii x102),(ii x103),(ii x104),(ii x105),x106,x107,(ii x108),x109,x110,x111,x112,(ii x113),(ii x114),(ii x115),x116]) ∧
  onP r85 fun b117 o118 =>
  onM (ld w94 b117 (o118 + 19)) fun x119 =>
  gd (List.all [(ii x98),(ii x99),(.int .u8 x100),(ii x101),(ii x102),(ii x103),(ii x104),(ii x105),x106,x107,(ii x108),x109,x110,x111,x112,(ii x113),(ii x114),(ii x115),x116] okCell) (
  onM (AW.putCells w94 b22 0 [(ii x98),(ii x99),(.int .u8 x100),(ii x101),(ii x102),(ii x103),(ii x104),(ii x105),x106,x107,(ii x108),x109,x110,x111,x112,(ii x113),(ii x114),(ii x115),x116]) fun w120 =>
  ld w120 b117 (o118 + 19) = some x119 ∧
  ∃ res121 res122 res123 res124 res125 res126 res127 res128 : Int,∃ res129 res130 : AV,∃ res131 : Int,∃ res132 res133 res134 res135 : AV,∃ res136 res137 res138 : Int,∃ res139 : AV,ldN 19 w120 b22 0 = some (.agg [(ii res121),(ii res122),(.int .u8 res123),(ii res124),(ii res125),(ii res126),(ii res127),(ii res128),res129,res130,(ii res131),res132,res133,res134,res135,(ii res136),(ii res137),(ii res138),res139]) ∧
 K (.tup [(.agg [(ii res121),(ii res122),(.int .u8 res123),(ii res124),(ii res125),(ii res126),(ii res127),(ii res128),res129,res130,(ii res131),res132,res133,res134,res135,(ii res136),(ii res137),(ii res138),res139]),x119,(ii 0)]) w120)) fun J95 =>
 join (fun l_140 w141 => ∃ x143 : Bool,l_140 = [(.bool x143)] ∧ ∀ _ : Nat → AV,
  ifT x143 (onP r85 fun b144 o145 =>
  onM (AW.putCells w141 b144 ((o145 + 0) + 16) [(ii 0)]) fun w146 =>
  Cl Tryz.prog hk 49 [r85,(.func 50 [r85] [])] w146 fun r147 w148 =>
  r147 = .tup [] ∧
  J95 [] w148)
  (∃ x149 : Int,ld w141 b20 (0 + 2) = some (.int .u8 x149) ∧
  ifT (!decide (x149 = 3)) (onP r85 fun b150 o151 =>
  ∃ x152 : Int,ld w141 b150 ((o151 + 0) + 16) = some (ii x152) ∧
  ∃ x153 : Int,ld w141 b20 (0 + 17) = some (ii x153) ∧
  ifT (decide (x153 ≤ x152)) (Cl Tryz.prog hk 51 [r85] w141 fun r154 w155 =>
   r154 = .tup [] ∧
   J95 [] w155)
  (J95 [] w141))
  (J95 [] w141))) fun J142 =>
 ∃ x156 : Int,ld w92 b20 (0 + 2) = some (.int .u8 x156) ∧
 ifT (decide (x156 = 3)) (onP r85 fun b157 o158 =>
 ∃ x159 : Int,ld w92 b157 ((o158 + 0) + 16) = some (ii x159) ∧
 J142 [(.bool (decide (2 ≤ x159)))] w92)
 (J142 [(.bool false)] w92)))
def adv12 : Adv := (.sq .lf (.sq (.sq .lf (.cd (.sq .lf .lf) .lf)) (.sq .lf (.sq .lf (.sj [] (.bl (.sj [(24,.sc (.bool))] .lf (.cd (.sq .lf .lf) (.sq .lf (.cd .lf .lf))))) (.sq .lf .lf))))))
set_option maxRecDepth 100000 in
theorem in12 {hk : Hook} {n0 n1 n2 n3 n4 n5 n6 n7 : Int} {n8 n9 : AV} {n10 : Int} {n11 n12 n13 n14 : AV} {n15 n16 n17 : Int} {n18 : AV} {draw19 : Int} {w : AW} {K : AV → AW → Prop} (hn : hk 12 [(.agg [(ii n0),(ii n1),(.int .u8 n2),(ii n3),(ii n4),(ii n5),(ii n6),(ii n7),n8,n9,(ii n10),n11,n12,n13,n14,(ii n15),(ii n16),(ii n17),n18]),(ii draw19)] w = none) (h : F12 hk n0 n1 n2 n3 n4 n5 n6 n7 n8 n9 n10 n11 n12 n13 n14 n15 n16 n17 n18 draw19 w K) : Cl Tryz.prog hk 12 [(.agg [(ii n0),(ii n1),(.int .u8 n2),(ii n3),(ii n4),(ii n5),(ii n6),(ii n7),n8,n9,(ii n10),n11,n12,n13,n14,(ii n15),(ii n16),(ii n17),n18]),(ii draw19)] w K :=
 fnS_ok (adv := adv12) Tryz.func12 hn (Eq.mpr (by kernel_rfl) h)
def F42 (hk : Hook) (n0 n1 n2 n3 n4 n5 n6 n7 : Int) (n8 n9 : AV) (n10 : Int) (n11 n12 n13 n14 : AV) (n15 n16 n17 : Int) (n18 : AV) (m19 : List UInt8) (m20 m21 m22 m23 m24 m25 m26 m27 : Int) (m28 : Bool) (m29 m30 : AV) (w : AW) (K : AV → AW → Prop) : Prop :=
 gd (List.all [(ii n0),(ii n1),(.int .u8 n2),(ii n3),(ii n4),(ii n5),(ii n6),(ii n7),n8,n9,(ii n10),n11,n12,n13,n14,(ii n15),(ii n16),(ii n17),n18] okCell) (
 new w [(ii n0),(ii n1),(.int .u8 n2),(ii n3),(ii n4),(ii n5),(ii n6),(ii n7),n8,n9,(ii n10),n11,n12,n13,n14,(ii n15),(ii n16),(ii n17),n18] fun b31 w32 =>
 gd (List.all [(.str m19),(.int .u8 m20),(ii m21),(ii m22),(ii m23),(ii m24),(ii m25),(ii m26),(ii m27),(.bool m28),m29,m30] okCell) (
 new w32 [(.str m19),(.int .u8 m20),(ii m21),(ii m22),(ii m23),(ii m24),(ii m25),(ii m26),(ii m27),(.bool m28),m29,m30] fun b33 w34 =>
 ∃ x35 : Int,ld w34 b33 (0 + 3) = some (ii x35) ∧
 ∃ x36 : Int,ld w34 b31 (0 + 0) = some (ii x36) ∧
 ifT (decide (x35 = x36)) (∃ x37 : Int,ld w34 b33 (0 + 2) = some (ii x37) ∧
 ∃ x38 : Int,ld w34 b31 (0 + 0) = some (ii x38) ∧
 ifT (!decide (x37 = x38)) (∃ x39 : Int,ld w34 b31 (0 + 1) = some (ii x39) ∧
 ∃ x40 : Int,ld w34 b33 (0 + 2) = some (ii x40) ∧
 new w34 [(ii x40)] fun b41 w42 =>
 Cl Tryz.prog hk 37 [(ii 1),(ii x39),(.slice b41 0 1 1 none)] w42 fun r43 w44 =>
 ∃ x45 : Bool,r43 = (.bool x45) ∧
 ifT x45 (∃ x46 : Int,ld w44 b33 (0 + 1) = some (.int .u8 x46) ∧
 new w44 [(ii (wi x46))] fun b47 w48 =>
 Cl Tryz.prog hk 37 [(ii 1),(ii 5),(.slice b47 0 1 1 none)] w48 fun r49 w50 =>
 ∃ x51 : Bool,r49 = (.bool x51) ∧
 ifT x51 (∃ x52 : Int,ld w50 b33 (0 + 4) = some (ii x52) ∧
 new w50 [(ii x52)] fun b53 w54 =>
 Cl Tryz.prog hk 37 [(ii 1),(ii 1099511627776),(.slice b53 0 1 1 none)] w54 fun r55 w56 =>
 ∃ x57 : Bool,r55 = (.bool x57) ∧
 ifT x57 (∃ x58 : Int,ld w56 b33 (0 + 5) = some (ii x58) ∧
 ∃ x59 : Int,ld w56 b33 (0 + 7) = some (ii x59) ∧
 ∃ x60 : Int,ld w56 b33 (0 + 8) = some (ii x60) ∧
 new w56 [(ii x58),(ii x59),(ii x60)] fun b61 w62 =>
 Cl Tryz.prog hk 37 [(ii 0),(ii 1099511627776),(.slice b61 0 3 3 none)] w62 fun r63 w64 =>
 ∃ x65 : Bool,r63 = (.bool x65) ∧
 ifT x65 (∃ x66 : Int,ld w64 b33 (0 + 6) = some (ii x66) ∧
 ifT (decide (0 ≤ x66)) (∃ x67 : Int,ld w64 b33 (0 + 6) = some (ii x67) ∧
 ∃ x68 : Int,ld w64 b33 (0 + 4) = some (ii x68) ∧
 onM (ld w64 b33 (0 + 10)) fun x69 =>
 Cl Tryz.prog hk 38 [(ii x67),(ii x68),x69] w64 fun r70 w71 =>
 ∃ x72 : Bool,r70 = (.bool x72) ∧
 ifT x72 (onM (ld w71 b33 (0 + 11)) fun x73 =>
 ∃ x74 : Int,lenS x73 = some (ii x74) ∧
 K (.bool (decide (x74 ≤ 60000))) w71)
 (K (.bool false) w71))
 (K (.bool false) w64))
 (K (.bool false) w64))
 (K (.bool false) w56))
 (K (.bool false) w50))
 (K (.bool false) w44))
 (K (.bool false) w34))
 (K (.bool false) w34)))
def adv42 : Adv := (.sq .lf (.sq .lf .lf))
set_option maxRecDepth 100000 in
theorem in42 {hk : Hook} {n0 n1 n2 n3 n4 n5 n6 n7 : Int} {n8 n9 : AV} {n10 : Int} {n11 n12 n13 n14 : AV} {n15 n16 n17 : Int} {n18 : AV} {m19 : List UInt8} {m20 m21 m22 m23 m24 m25 m26 m27 : Int} {m28 : Bool} {m29 m30 : AV} {w : AW} {K : AV → AW → Prop} (hn : hk 42 [(.agg [(ii n0),(ii n1),(.int .u8 n2),(ii n3),(ii n4),(ii n5),(ii n6),(ii n7),n8,n9,(ii n10),n11,n12,n13,n14,(ii n15),(ii n16),(ii n17),n18]),(.agg [(.str m19),(.int .u8 m20),(ii m21),(ii m22),(ii m23),(ii m24),(ii m25),(ii m26),(ii m27),(.bool m28),m29,m30])] w = none) (h : F42 hk n0 n1 n2 n3 n4 n5 n6 n7 n8 n9 n10 n11 n12 n13 n14 n15 n16 n17 n18 m19 m20 m21 m22 m23 m24 m25 m26 m27 m28 m29 m30 w K) : Cl Tryz.prog hk 42 [(.agg [(ii n0),(ii n1),(.int .u8 n2),(ii n3),(ii n4),(ii n5),(ii n6),(ii n7),n8,n9,(ii n10),n11,n12,n13,n14,(ii n15),(ii n16),(ii n17),n18]),(.agg [(.str m19),(.int .u8 m20),(ii m21),(ii m22),(ii m23),(ii m24),(ii m25),(ii m26),(ii m27),(.bool m28),m29,m30])] w K :=
 fnS_ok (adv := adv42) Tryz.func42 hn (Eq.mpr (by kernel_rfl) h)
def F44 (hk : Hook) (w0 : AV) (term1 : Int) (w : AW) (K : AV → AW → Prop) : Prop :=
 onP w0 fun b2 o3 =>
 onM (AW.putCells w b2 ((o3 + 0) + 2) [(.int .u8 1)]) fun w4 =>
 join (fun l_5 w6 => l_5 = [] ∧ ∀ _ : Nat → AV,
  Cl Tryz.prog hk 86 [w0] w6 fun r8 w9 =>
  r8 = .tup [] ∧
  K (.tup []) w9) fun J7 =>
 ∃ x10 : Int,ld w4 b2 ((o3 + 0) + 3) = some (ii x10) ∧
 ifT (decide (x10 < term1)) (onP w0 fun b11 o12 =>
  ∃ x13 : Int,ld w4 b11 (o12 + 20) = some (ii x13) ∧
  Cl Tryz.prog hk 71 [(ii x13)] w4 fun r14 w15 =>
  ∃ x16 : Int,r14 = (ii x16) ∧
  onM (AW.putCells w15 b2 ((o3 + 0) + 3) [(ii term1)]) fun w17 =>
  onM (AW.putCells w17 b2 ((o3 + 0) + 4) [(ii 0)]) fun w18 =>
  onM (AW.putCells w18 b2 ((o3 + 0) + 5) [(ii 0)]) fun w19 =>
  onM (AW.putCells w19 b2 ((o3 + 0) + 17) [(ii x16)]) fun w20 =>
  J7 [] w20)
 (J7 [] w4)
def adv44 : Adv := (.sq .lf (.sq .lf (.sj [] (.sq .lf (.cd .lf .lf)) .lf)))
set_option maxRecDepth 100000 in
theorem in44 {hk : Hook} {w0 : AV} {term1 : Int} {w : AW} {K : AV → AW → Prop} (hn : hk 44 [w0,(ii term1)] w = none) (h : F44 hk w0 term1 w K) : Cl Tryz.prog hk 44 [w0,(ii term1)] w K :=
 fnS_ok (adv := adv44) Tryz.func44 hn (Eq.mpr (by kernel_rfl) h)
def F45 (hk : Hook) (w0 : AV) (k1 : Int) (w : AW) (K : AV → AW → Prop) : Prop :=
 onM (indexA Tryz.prog 119 (.agg [(.func 87 [w0] []),(.func 88 [w0] []),(.func 89 [w0] []),(.func 90 [w0] []),(.func 91 [w0] [])]) (.int .u8 (IntKind.wrap .u8 (k1 - 1)))) fun x2 =>
 K x2 w
def adv45 : Adv := (.sq .lf (.sq .lf .lf))
set_option maxRecDepth 100000 in
theorem eq45 (hk : Hook) (w0 : AV) (k1 : Int) (w : AW) (K : AV → AW → Prop) : fnS Tryz.prog hk Tryz.f45 adv45 [w0,(.int .u8 k1)] w K = F45 hk w0 k1 w K := by kernel_rfl
theorem in45 {hk : Hook} {w0 : AV} {k1 : Int} {w : AW} {K : AV → AW → Prop} (hn : hk 45 [w0,(.int .u8 k1)] w = none) (h : F45 hk w0 k1 w K) : Cl Tryz.prog hk 45 [w0,(.int .u8 k1)] w K :=
 fnS_ok Tryz.func45 hn (by rw [eq45]; exact h)
set_option maxRecDepth 100000 in
def F51 (hk : Hook) (w0 : AV) (w : AW) (K : AV → AW → Prop) : Prop :=
 gd (okCell w0) (
 new w [w0] fun b1 w2 =>
 onM (ld w2 b1 0) fun x3 =>
 onP x3 fun b4 o5 =>
 new w2 [.nilptr] fun b6 w7 =>
 onM (AW.putCells w7 b6 0 [(.ptr b4 (o5 + 0))]) fun w8 =>
 onM (ld w8 b6 0) fun x9 =>
 onP x9 fun b10 o11 =>
 onM (AW.putCells w8 b10 (o11 + 16) [(ii 0)]) fun w12 =>
 onM (ld w12 b6 0) fun x13 =>
 onP x13 fun b14 o15 =>
 ∃ x16 : Int,ld w12 b14 (o15 + 3) = some (ii x16) ∧
 ifT (decide (x16 = 1099511627776)) (K (.tup []) w12)
 (onM (ld w12 b1 0) fun x17 =>
 Cl Tryz.prog hk 86 [x17] w12 fun r18 w19 =>
 r18 = .tup [] ∧
 onM (ld w19 b6 0) fun x20 =>
 onM (ld w19 b6 0) fun x21 =>
 onM (ld w19 b6 0) fun x22 =>
 onM (ld w19 b6 0) fun x23 =>
 onM (ld w19 b6 0) fun x24 =>
 onP x24 fun b25 o26 =>
 ∃ x27 : Int,ld w19 b25 (o26 + 0) = some (ii x27) ∧
 onM (ld w19 b1 0) fun x28 =>
 onP x28 fun b29 o30 =>
 ∃ x31 : Int,ld w19 b29 (o30 + 20) = some (ii x31) ∧
 Cl Tryz.prog hk 71 [(ii x31)] w19 fun r32 w33 =>
 ∃ x34 : Int,r32 = (ii x34) ∧
 ld w33 b25 (o26 + 0) = some (ii x27) ∧
 ld w33 b6 0 = some x24 ∧
 ld w33 b6 0 = some x23 ∧
 ld w33 b6 0 = some x22 ∧
 ld w33 b6 0 = some x21 ∧
 ld w33 b6 0 = some x20 ∧
 onP x20 fun b35 o36 =>
 onM (AW.putCells w33 b35 (o36 + 2) [(.int .u8 2)]) fun w37 =>
 ld w37 b6 0 = some x23 ∧
 ld w37 b6 0 = some x22 ∧
 ld w37 b6 0 = some x21 ∧
 onP x21 fun b38 o39 =>
 onM (AW.putCells w37 b38 (o39 + 5) [(ii 0)]) fun w40 =>
 ld w40 b6 0 = some x23 ∧
 ld w40 b6 0 = some x22 ∧
 onP x22 fun b41 o42 =>
 onM (AW.putCells w40 b41 (o42 + 4) [(ii x27)]) fun w43 =>
 ld w43 b6 0 = some x23 ∧
 onP x23 fun b44 o45 =>
 onM (AW.putCells w43 b44 (o45 + 17) [(ii x34)]) fun w46 =>
 onM (ld w46 b6 0) fun x47 =>
 onP x47 fun b48 o49 =>
 ∃ x50 : Int,ld w46 b48 (o49 + 3) = some (ii x50) ∧
 onP x47 fun b51 o52 =>
 onM (AW.putCells w46 b51 (o52 + 3) [(ii (wi (x50 + 1)))]) fun w53 =>
 onM (ld w53 b6 0) fun x54 =>
 onP x54 fun b55 o56 =>
 onM (ld w53 b55 (o56 + 11)) fun x57 =>
 onM (ld w53 b6 0) fun x58 =>
 onP x58 fun b59 o60 =>
 ∃ x61 : Int,ld w53 b59 (o60 + 0) = some (ii x61) ∧
 atP (idxS 1 x57 (ii (wi (x61 - 1)))) fun b62 o63 =>
 onM (AW.putCells w53 b62 o63 [(.bool true)]) fun w64 =>
 onM (ld w64 b1 0) fun x65 =>
 Cl Tryz.prog hk 93 [x65] w64 fun r66 w67 =>
 ∃ x68 : Bool,r66 = (.bool x68) ∧
 ifT x68 (K (.tup []) w67)
 (onM (ld w67 b6 0) fun x69 =>
 onP x69 fun b70 o71 =>
 ∃ x72 x73 x74 x75 x76 x77 x78 x79 : Int,∃ x80 x81 : AV,∃ x82 : Int,∃ x83 x84 x85 x86 : AV,∃ x87 x88 x89 : Int,∃ x90 : AV,ldN 19 w67 b70 o71 = some (.agg [(ii x72),(ii x73),(.int .u8 x74),(ii x75),(ii x76),(ii x77),(ii x78),(ii x79),x80,x81,(ii x82),x83,x84,x85,x86,(ii x87),(ii x88),(ii x89),x90]) ∧
 onM (ld w67 b6 0) fun x91 =>
 onP x91 fun b92 o93 =>
 ∃ x94 x95 x96 x97 x98 x99 x100 x101 : Int,∃ x102 x103 : AV,∃ x104 : Int,∃ x105 x106 x107 x108 : AV,∃ x109 x110 x111 : Int,∃ x112 : AV,ldN 19 w67 b92 o93 = some (.agg [(ii x94),(ii x95),(.int .u8 x96),(ii x97),(ii x98),(ii x99),(ii x100),(ii x101),x102,x103,(ii x104),x105,x106,x107,x108,(ii x109),(ii x110),(ii x111),x112]) ∧
 new w67 [(ii 0)] fun b113 w114 =>
 ldN 19 w114 b92 o93 = some (.agg [(ii x94),(ii x95),(.int .u8 x96),(ii x97),(ii x98),(ii x99),(ii x100),(ii x101),x102,x103,(ii x104),x105,x106,x107,x108,(ii x109),(ii x110),(ii x111),x112]) ∧
 ld w114 b6 0 = some x91 ∧
 ldN 19 w114 b70 o71 = some (.agg [(ii x72),(ii x73),(.int .u8 x74),(ii x75),(ii x76),(ii x77),(ii x78),(ii x79),x80,x81,(ii x82),x83,x84,x85,x86,(ii x87),(ii x88),(ii x89),x90]) ∧
 ld w114 b6 0 = some x69 ∧
 Cl Tryz.prog hk 36 [(.agg [(ii x94),(ii x95),(.int .u8 x96),(ii x97),(ii x98),(ii x99),(ii x100),(ii x101),x102,x103,(ii x104),x105,x106,x107,x108,(ii x109),(ii x110),(ii x111),x112])] w114 fun r115 w116 =>
 ∃ x117 : Int,r115 = (ii x117) ∧
 ldN 19 w116 b70 o71 = some (.agg [(ii x72),(ii x73),(.int .u8 x74),(ii x75),(ii x76),(ii x77),(ii x78),(ii x79),x80,x81,(ii x82),x83,x84,x85,x86,(ii x87),(ii x88),(ii x89),x90]) ∧
 ld w116 b6 0 = some x69 ∧
 Cl Tryz.prog hk 53 [(.agg [(ii x72),(ii x73),(.int .u8 x74),(ii x75),(ii x76),(ii x77),(ii x78),(ii x79),x80,x81,(ii x82),x83,x84,x85,x86,(ii x87),(ii x88),(ii x89),x90]),(ii x117)] w116 fun r118 w119 =>
 ∃ x120 : Int,∃ x121 : Bool,r118 = .tup [(ii x120),(.bool x121)] ∧
 onM (AW.putCells w119 b113 0 [(ii x120)]) fun w122 =>
 onM (ld w122 b1 0) fun x123 =>
 Cl Tryz.prog hk 49 [x123,(.func 94 [] [(.ptr b1 0),(.ptr b6 0),(.ptr b113 0)])] w122 fun r124 w125 =>
 r124 = .tup [] ∧
 K (.tup []) w125)))
def adv51 : Adv := (.sq .lf (.sq .lf (.sq .lf (.sq (.sq .lf (.cd .lf .lf)) (.sq .lf (.sq .lf (.sq .lf (.sq .lf (.sq (.sq .lf (.cd .lf .lf)) (.sq .lf .lf))))))))))
set_option maxRecDepth 100000 in
theorem in51 {hk : Hook} {w0 : AV} {w : AW} {K : AV → AW → Prop} (hn : hk 51 [w0] w = none) (h : F51 hk w0 w K) : Cl Tryz.prog hk 51 [w0] w K :=
 fnS_ok (adv := adv51) Tryz.func51 hn (Eq.mpr (by kernel_rfl) h)
def F86 (hk : Hook) (w0 : AV) (w : AW) (K : AV → AW → Prop) : Prop :=
 onP w0 fun b1 o2 =>
 onM (ld w b1 ((o2 + 0) + 11)) fun x3 =>
 onE ((clearA Tryz.prog w 25 x3).map fun w' => (Go.Sx.undef,w')) fun r4 w5 =>
 onM (ld w5 b1 ((o2 + 0) + 12)) fun x6 =>
 onE ((clearA Tryz.prog w5 26 x6).map fun w' => (Go.Sx.undef,w')) fun r7 w8 =>
 onM (ld w8 b1 ((o2 + 0) + 13)) fun x9 =>
 onE ((clearA Tryz.prog w8 26 x9).map fun w' => (Go.Sx.undef,w')) fun r10 w11 =>
 onM (ld w11 b1 ((o2 + 0) + 14)) fun x12 =>
 onE ((clearA Tryz.prog w11 26 x12).map fun w' => (Go.Sx.undef,w')) fun r13 w14 =>
 onM (AW.putCells w14 b1 ((o2 + 0) + 15) [(ii 0)]) fun w15 =>
 onM (AW.putCells w15 b1 ((o2 + 0) + 18) [.nilslice]) fun w16 =>
 K (.tup []) w16
def adv86 : Adv := (.sq .lf (.sq .lf (.sq .lf (.sq .lf (.sq .lf .lf)))))
set_option maxRecDepth 100000 in
theorem in86 {hk : Hook} {w0 : AV} {w : AW} {K : AV → AW → Prop} (hn : hk 86 [w0] w = none) (h : F86 hk w0 w K) : Cl Tryz.prog hk 86 [w0] w K :=
 fnS_ok (adv := adv86) Tryz.func86 hn (Eq.mpr (by kernel_rfl) h)
set_option maxRecDepth 100000 in
def F87 (hk : Hook) (w0 : AV) (m1 : List UInt8) (m2 m3 m4 m5 m6 m7 m8 m9 : Int) (m10 : Bool) (m11 m12 : AV) (w : AW) (K : AV → AW → Prop) : Prop :=
 gd (List.all [(.str m1),(.int .u8 m2),(ii m3),(ii m4),(ii m5),(ii m6),(ii m7),(ii m8),(ii m9),(.bool m10),m11,m12] okCell) (
 new w [(.str m1),(.int .u8 m2),(ii m3),(ii m4),(ii m5),(ii m6),(ii m7),(ii m8),(ii m9),(.bool m10),m11,m12] fun b13 w14 =>
 onP w0 fun b15 o16 =>
 ∃ x17 x18 x19 x20 x21 x22 x23 x24 : Int,∃ x25 x26 : AV,∃ x27 : Int,∃ x28 x29 x30 x31 : AV,∃ x32 x33 x34 : Int,∃ x35 : AV,ldN 19 w14 b15 (o16 + 0) = some (.agg [(ii x17),(ii x18),(.int .u8 x19),(ii x20),(ii x21),(ii x22),(ii x23),(ii x24),x25,x26,(ii x27),x28,x29,x30,x31,(ii x32),(ii x33),(ii x34),x35]) ∧
 ∃ x36 x37 x38 x39 x40 x41 x42 x43 : Int,∃ x44 x45 : AV,∃ x46 : Int,∃ x47 x48 x49 x50 : AV,∃ x51 x52 x53 : Int,∃ x54 : AV,ldN 19 w14 b15 (o16 + 0) = some (.agg [(ii x36),(ii x37),(.int .u8 x38),(ii x39),(ii x40),(ii x41),(ii x42),(ii x43),x44,x45,(ii x46),x47,x48,x49,x50,(ii x51),(ii x52),(ii x53),x54]) ∧
 Cl Tryz.prog hk 36 [(.agg [(ii x36),(ii x37),(.int .u8 x38),(ii x39),(ii x40),(ii x41),(ii x42),(ii x43),x44,x45,(ii x46),x47,x48,x49,x50,(ii x51),(ii x52),(ii x53),x54])] w14 fun r55 w56 =>
 ∃ x57 : Int,r55 = (ii x57) ∧
 ldN 19 w56 b15 (o16 + 0) = some (.agg [(ii x17),(ii x18),(.int .u8 x19),(ii x20),(ii x21),(ii x22),(ii x23),(ii x24),x25,x26,(ii x27),x28,x29,x30,x31,(ii x32),(ii x33),(ii x34),x35]) ∧
 Cl Tryz.prog hk 53 [(.agg [(ii x17),(ii x18),(.int .u8 x19),(ii x20),(ii x21),(ii x22),(ii x23),(ii x24),x25,x26,(ii x27),x28,x29,x30,x31,(ii x32),(ii x33),(ii x34),x35]),(ii x57)] w56 fun r58 w59 =>
 ∃ x60 : Int,∃ x61 : Bool,r58 = .tup [(ii x60),(.bool x61)] ∧
 ∃ x62 : Int,ld w59 b15 ((o16 + 0) + 3) = some (ii x62) ∧
 ∃ x63 : Int,ld w59 b15 ((o16 + 0) + 4) = some (ii x63) ∧
 ∃ x64 x65 x66 x67 x68 x69 x70 x71 : Int,∃ x72 x73 : AV,∃ x74 : Int,∃ x75 x76 x77 x78 : AV,∃ x79 x80 x81 : Int,∃ x82 : AV,ldN 19 w59 b15 (o16 + 0) = some (.agg [(ii x64),(ii x65),(.int .u8 x66),(ii x67),(ii x68),(ii x69),(ii x70),(ii x71),x72,x73,(ii x74),x75,x76,x77,x78,(ii x79),(ii x80),(ii x81),x82]) ∧
 ∃ x83 : List UInt8,∃ x84 x85 x86 x87 x88 x89 x90 x91 : Int,∃ x92 : Bool,∃ x93 x94 : AV,ldN 12 w59 b13 0 = some (.agg [(.str x83),(.int .u8 x84),(ii x85),(ii x86),(ii x87),(ii x88),(ii x89),(ii x90),(ii x91),(.bool x92),x93,x94]) ∧
 Cl Tryz.prog hk 36 [(.agg [(ii x64),(ii x65),(.int .u8 x66),(ii x67),(ii x68),(ii x69),(ii x70),(ii x71),x72,x73,(ii x74),x75,x76,x77,x78,(ii x79),(ii x80),(ii x81),x82])] w59 fun r95 w96 =>
 ∃ x97 : Int,r95 = (ii x97) ∧
 ldN 12 w96 b13 0 = some (.agg [(.str x83),(.int .u8 x84),(ii x85),(ii x86),(ii x87),(ii x88),(ii x89),(ii x90),(ii x91),(.bool x92),x93,x94]) ∧
 ld w96 b15 ((o16 + 0) + 4) = some (ii x63) ∧
 ld w96 b15 ((o16 + 0) + 3) = some (ii x62) ∧
 Cl Tryz.prog hk 113 [(ii x62),(ii x63),(ii x60),(ii x97),(.agg [(.str x83),(.int .u8 x84),(ii x85),(ii x86),(ii x87),(ii x88),(ii x89),(ii x90),(ii x91),(.bool x92),x93,x94])] w96 fun r98 w99 =>
 ∃ x100 x101 : Int,∃ x102 : Bool,r98 = .tup [(ii x100),(ii x101),(.bool x102)] ∧
 onM (AW.putCells w99 b15 ((o16 + 0) + 4) [(ii x101)]) fun w103 =>
 join (fun l_104 w105 => l_104 = [] ∧ ∀ _ : Nat → AV,
  ∃ x107 : Int,ld w105 b13 (0 + 2) = some (ii x107) ∧
  Cl Tryz.prog hk 92 [w0,(ii x107),(.agg [(.str []),(.int .u8 2),(ii 0),(ii 0),(ii 0),(ii 0),(ii 0),(ii 0),(ii 0),(.bool x102),.nilslice,.nilslice])] w105 fun r108 w109 =>
  r108 = .tup [] ∧
  K (.tup []) w109) fun J106 =>
 ifT x102 (onM (AW.putCells w103 b15 ((o16 + 0) + 16) [(ii 0)]) fun w110 =>
  J106 [] w110)
 (J106 [] w103))
def adv87 : Adv := (.sq .lf (.sq .lf (.sq .lf (.sq .lf (.sq .lf (.sj [] (.sq .lf (.cd .lf .lf)) .lf))))))
set_option maxRecDepth 100000 in
theorem in87 {hk : Hook} {w0 : AV} {m1 : List UInt8} {m2 m3 m4 m5 m6 m7 m8 m9 : Int} {m10 : Bool} {m11 m12 : AV} {w : AW} {K : AV → AW → Prop} (hn : hk 87 [w0,(.agg [(.str m1),(.int .u8 m2),(ii m3),(ii m4),(ii m5),(ii m6),(ii m7),(ii m8),(ii m9),(.bool m10),m11,m12])] w = none) (h : F87 hk w0 m1 m2 m3 m4 m5 m6 m7 m8 m9 m10 m11 m12 w K) : Cl Tryz.prog hk 87 [w0,(.agg [(.str m1),(.int .u8 m2),(ii m3),(ii m4),(ii m5),(ii m6),(ii m7),(ii m8),(ii m9),(.bool m10),m11,m12])] w K :=
 fnS_ok (adv := adv87) Tryz.func87 hn (Eq.mpr (by kernel_rfl) h)
def F88 (hk : Hook) (w0 : AV) (m1 : List UInt8) (m2 m3 m4 m5 m6 m7 m8 m9 : Int) (m10 : Bool) (m11 m12 : AV) (w : AW) (K : AV → AW → Prop) : Prop :=
 gd (List.all [(.str m1),(.int .u8 m2),(ii m3),(ii m4),(ii m5),(ii m6),(ii m7),(ii m8),(ii m9),(.bool m10),m11,m12] okCell) (
 new w [(.str m1),(.int .u8 m2),(ii m3),(ii m4),(ii m5),(ii m6),(ii m7),(ii m8),(ii m9),(.bool m10),m11,m12] fun b13 w14 =>
 onP w0 fun b15 o16 =>
 ∃ x17 : Int,ld w14 b15 ((o16 + 0) + 2) = some (.int .u8 x17) ∧
 ifT (decide (x17 = 2)) (∃ x18 : Int,ld w14 b13 (0 + 4) = some (ii x18) ∧
 ∃ x19 : Int,ld w14 b15 ((o16 + 0) + 3) = some (ii x19) ∧
 ifT (decide (x18 = x19)) (∃ x20 : Bool,ld w14 b13 (0 + 9) = some (.bool x20) ∧
 ifT x20 (onM (ld w14 b15 ((o16 + 0) + 11)) fun x21 =>
  ∃ x22 : Int,ld w14 b13 (0 + 2) = some (ii x22) ∧
  atP (idxS 1 x21 (ii (wi (x22 - 1)))) fun b23 o24 =>
  onM (AW.putCells w14 b23 o24 [(.bool true)]) fun w25 =>
  Cl Tryz.prog hk 93 [w0] w25 fun r26 w27 =>
  ∃ x28 : Bool,r26 = (.bool x28) ∧
  K (.tup []) w27)
 (K (.tup []) w14))
 (K (.tup []) w14))
 (K (.tup []) w14))
def adv88 : Adv := (.sq .lf (.sq .lf (.sq .lf (.cd (.sq .lf .lf) .lf))))
set_option maxRecDepth 100000 in
theorem in88 {hk : Hook} {w0 : AV} {m1 : List UInt8} {m2 m3 m4 m5 m6 m7 m8 m9 : Int} {m10 : Bool} {m11 m12 : AV} {w : AW} {K : AV → AW → Prop} (hn : hk 88 [w0,(.agg [(.str m1),(.int .u8 m2),(ii m3),(ii m4),(ii m5),(ii m6),(ii m7),(ii m8),(ii m9),(.bool m10),m11,m12])] w = none) (h : F88 hk w0 m1 m2 m3 m4 m5 m6 m7 m8 m9 m10 m11 m12 w K) : Cl Tryz.prog hk 88 [w0,(.agg [(.str m1),(.int .u8 m2),(ii m3),(ii m4),(ii m5),(ii m6),(ii m7),(ii m8),(ii m9),(.bool m10),m11,m12])] w K :=
 fnS_ok (adv := adv88) Tryz.func88 hn (Eq.mpr (by kernel_rfl) h)
def F89 (hk : Hook) (w0 : AV) (m1 : List UInt8) (m2 m3 m4 m5 m6 m7 m8 m9 : Int) (m10 : Bool) (m11 m12 : AV) (w : AW) (K : AV → AW → Prop) : Prop :=
 gd (List.all [(.str m1),(.int .u8 m2),(ii m3),(ii m4),(ii m5),(ii m6),(ii m7),(ii m8),(ii m9),(.bool m10),m11,m12] okCell) (
 new w [(.str m1),(.int .u8 m2),(ii m3),(ii m4),(ii m5),(ii m6),(ii m7),(ii m8),(ii m9),(.bool m10),m11,m12] fun b13 w14 =>
 ∃ x15 : List UInt8,∃ x16 x17 x18 x19 x20 x21 x22 x23 : Int,∃ x24 : Bool,∃ x25 x26 : AV,ldN 12 w14 b13 0 = some (.agg [(.str x15),(.int .u8 x16),(ii x17),(ii x18),(ii x19),(ii x20),(ii x21),(ii x22),(ii x23),(.bool x24),x25,x26]) ∧
 Cl Tryz.prog hk 114 [w0,(.agg [(.str x15),(.int .u8 x16),(ii x17),(ii x18),(ii x19),(ii x20),(ii x21),(ii x22),(ii x23),(.bool x24),x25,x26])] w14 fun r27 w28 =>
 ∃ x29 : Bool,r27 = (.bool x29) ∧
 ifT (!x29) (K (.tup []) w28)
 (onP w0 fun b30 o31 =>
 ∃ x32 : Int,ld w28 b30 ((o31 + 0) + 6) = some (ii x32) ∧
 ∃ x33 : Int,ld w28 b30 ((o31 + 0) + 7) = some (ii x33) ∧
 onM (ld w28 b30 ((o31 + 0) + 9)) fun x34 =>
 ∃ x35 : Int,ld w28 b13 (0 + 5) = some (ii x35) ∧
 ∃ x36 : Int,ld w28 b13 (0 + 6) = some (ii x36) ∧
 onM (ld w28 b13 (0 + 10)) fun x37 =>
 Cl Tryz.prog hk 115 [(ii x32),(ii x33),x34,(ii x35),(ii x36),x37] w28 fun r38 w39 =>
 ∃ x40 : AV,∃ x41 : Int,∃ x42 : Bool,r38 = .tup [x40,(ii x41),(.bool x42)] ∧
 join (fun l_43 w44 => ∃ x46 : Bool,l_43 = [(.bool x46)] ∧ ∀ _ : Nat → AV,
  ifT x46 (∃ x47 : Int,ld w44 b13 (0 + 2) = some (ii x47) ∧
  ∃ x48 : Int,ld w44 b30 ((o31 + 0) + 6) = some (ii x48) ∧
  ∃ x49 : Int,ld w44 b30 ((o31 + 0) + 7) = some (ii x49) ∧
  onM (ld w44 b30 ((o31 + 0) + 9)) fun x50 =>
  ∃ x51 : Int,ld w44 b13 (0 + 5) = some (ii x51) ∧
  ∃ x52 : Int,ld w44 b13 (0 + 8) = some (ii x52) ∧
  Cl Tryz.prog hk 116 [(ii x48),(ii x49),x50,(ii x51)] w44 fun r53 w54 =>
  ∃ x55 : Int,r53 = (ii x55) ∧
  ld w54 b13 (0 + 8) = some (ii x52) ∧
  ld w54 b13 (0 + 2) = some (ii x47) ∧
  Cl Tryz.prog hk 92 [w0,(ii x47),(.agg [(.str []),(.int .u8 4),(ii 0),(ii 0),(ii 0),(ii x55),(ii 0),(ii 0),(ii x52),(.bool false),.nilslice,.nilslice])] w54 fun r56 w57 =>
  r56 = .tup [] ∧
  K (.tup []) w57)
  (gd (okCell x40) (
 onM (AW.putCells w44 b30 ((o31 + 0) + 9) [x40]) fun w58 =>
 ∃ x59 : Int,ld w58 b30 ((o31 + 0) + 10) = some (ii x59) ∧
 ∃ x60 : Int,ld w58 b13 (0 + 7) = some (ii x60) ∧
 onM (AW.putCells w58 b30 ((o31 + 0) + 10) [(ii (imax x59 (imin x60 x41)))]) fun w61 =>
 ∃ x62 : Int,ld w61 b13 (0 + 2) = some (ii x62) ∧
 ∃ x63 : Int,ld w61 b13 (0 + 8) = some (ii x63) ∧
 Cl Tryz.prog hk 92 [w0,(ii x62),(.agg [(.str []),(.int .u8 4),(ii 0),(ii 0),(ii 0),(ii x41),(ii 0),(ii 0),(ii x63),(.bool true),.nilslice,.nilslice])] w61 fun r64 w65 =>
 r64 = .tup [] ∧
 K (.tup []) w65))) fun J45 =>
 ifT (!x42) (J45 [(.bool true)] w39)
 (∃ x66 : Int,ld w39 b30 ((o31 + 0) + 7) = some (ii x66) ∧
 ∃ x67 : Int,ld w39 b30 ((o31 + 0) + 3) = some (ii x67) ∧
 Cl Tryz.prog hk 38 [(ii x66),(ii x67),x40] w39 fun r68 w69 =>
 ∃ x70 : Bool,r68 = (.bool x70) ∧
 ifT (!x70) (J45 [(.bool true)] w69)
 (∃ x71 : Int,ld w69 b30 ((o31 + 0) + 6) = some (ii x71) ∧
 ∃ x72 : Int,ld w69 b30 ((o31 + 0) + 10) = some (ii x72) ∧
 Cl Tryz.prog hk 79 [(ii x71),x40] w69 fun r73 w74 =>
 ∃ x75 : Int,r73 = (ii x75) ∧
 ld w74 b30 ((o31 + 0) + 10) = some (ii x72) ∧
 J45 [(.bool (decide (x75 < x72)))] w74))))
def adv89 : Adv := (.sq .lf (.sq (.sq .lf (.cd .lf .lf)) (.sq .lf (.sq .lf (.sq (.sj [(65,.sc (.bool))] .lf (.cd (.sq .lf .lf) .lf)) (.sq .lf (.sq .lf .lf)))))))
set_option maxRecDepth 100000 in
theorem in89 {hk : Hook} {w0 : AV} {m1 : List UInt8} {m2 m3 m4 m5 m6 m7 m8 m9 : Int} {m10 : Bool} {m11 m12 : AV} {w : AW} {K : AV → AW → Prop} (hn : hk 89 [w0,(.agg [(.str m1),(.int .u8 m2),(ii m3),(ii m4),(ii m5),(ii m6),(ii m7),(ii m8),(ii m9),(.bool m10),m11,m12])] w = none) (h : F89 hk w0 m1 m2 m3 m4 m5 m6 m7 m8 m9 m10 m11 m12 w K) : Cl Tryz.prog hk 89 [w0,(.agg [(.str m1),(.int .u8 m2),(ii m3),(ii m4),(ii m5),(ii m6),(ii m7),(ii m8),(ii m9),(.bool m10),m11,m12])] w K :=
 fnS_ok (adv := adv89) Tryz.func89 hn (Eq.mpr (by kernel_rfl) h)
set_option maxRecDepth 100000 in
def F90 (hk : Hook) (w0 : AV) (m1 : List UInt8) (m2 m3 m4 m5 m6 m7 m8 m9 : Int) (m10 : Bool) (m11 m12 : AV) (w : AW) (K : AV → AW → Prop) : Prop :=
 gd (List.all [(.str m1),(.int .u8 m2),(ii m3),(ii m4),(ii m5),(ii m6),(ii m7),(ii m8),(ii m9),(.bool m10),m11,m12] okCell) (
 new w [(.str m1),(.int .u8 m2),(ii m3),(ii m4),(ii m5),(ii m6),(ii m7),(ii m8),(ii m9),(.bool m10),m11,m12] fun b13 w14 =>
 onP w0 fun b15 o16 =>
 ∃ x17 : Int,ld w14 b15 ((o16 + 0) + 2) = some (.int .u8 x17) ∧
 ifT (!decide (x17 = 3)) (K (.tup []) w14)
 (∃ x18 : Int,ld w14 b13 (0 + 4) = some (ii x18) ∧
 ∃ x19 : Int,ld w14 b15 ((o16 + 0) + 3) = some (ii x19) ∧
 ifT (!decide (x18 = x19)) (K (.tup []) w14)
 (∃ x20 : Int,ld w14 b13 (0 + 2) = some (ii x20) ∧
 join (fun l_21 w22 => l_21 = [] ∧ ∀ _ : Nat → AV,
  ∃ x24 : Bool,ld w22 b13 (0 + 9) = some (.bool x24) ∧
  ifT (!x24) (onM (ld w22 b15 ((o16 + 0) + 12)) fun x25 =>
  onM (ld w22 b15 ((o16 + 0) + 12)) fun x26 =>
  atP (idxS 1 x26 (ii (wi (x20 - 1)))) fun b27 o28 =>
  ∃ x29 : Int,ld w22 b27 o28 = some (ii x29) ∧
  ∃ x30 : Int,ld w22 b13 (0 + 5) = some (ii x30) ∧
  onM (ld w22 b15 ((o16 + 0) + 13)) fun x31 =>
  atP (idxS 1 x31 (ii (wi (x20 - 1)))) fun b32 o33 =>
  ∃ x34 : Int,ld w22 b32 o33 = some (ii x34) ∧
  atP (idxS 1 x25 (ii (wi (x20 - 1)))) fun b35 o36 =>
  onM (AW.putCells w22 b35 o36 [(ii (imax (imin (wi (x29 - 1)) (wi (x30 + 1))) (wi (x34 + 1))))]) fun w37 =>
  ∃ x38 : Int,ld w37 b13 (0 + 2) = some (ii x38) ∧
  Cl Tryz.prog hk 50 [w0,(ii x38)] w37 fun r39 w40 =>
  r39 = .tup [] ∧
  K (.tup []) w40)
  (∃ x41 : Int,ld w22 b13 (0 + 5) = some (ii x41) ∧
  ∃ x42 x43 x44 x45 x46 x47 x48 x49 : Int,∃ x50 x51 : AV,∃ x52 : Int,∃ x53 x54 x55 x56 : AV,∃ x57 x58 x59 : Int,∃ x60 : AV,ldN 19 w22 b15 (o16 + 0) = some (.agg [(ii x42),(ii x43),(.int .u8 x44),(ii x45),(ii x46),(ii x47),(ii x48),(ii x49),x50,x51,(ii x52),x53,x54,x55,x56,(ii x57),(ii x58),(ii x59),x60]) ∧
  Cl Tryz.prog hk 36 [(.agg [(ii x42),(ii x43),(.int .u8 x44),(ii x45),(ii x46),(ii x47),(ii x48),(ii x49),x50,x51,(ii x52),x53,x54,x55,x56,(ii x57),(ii x58),(ii x59),x60])] w22 fun r61 w62 =>
  ∃ x63 : Int,r61 = (ii x63) ∧
  ld w62 b13 (0 + 5) = some (ii x41) ∧
  ifT (decide (x41 ≤ x63)) (onM (ld w62 b15 ((o16 + 0) + 13)) fun x64 =>
   onM (ld w62 b15 ((o16 + 0) + 13)) fun x65 =>
   atP (idxS 1 x65 (ii (wi (x20 - 1)))) fun b66 o67 =>
   ∃ x68 : Int,ld w62 b66 o67 = some (ii x68) ∧
   ∃ x69 : Int,ld w62 b13 (0 + 5) = some (ii x69) ∧
   atP (idxS 1 x64 (ii (wi (x20 - 1)))) fun b70 o71 =>
   onM (AW.putCells w62 b70 o71 [(ii (imax x68 x69))]) fun w72 =>
   onM (ld w72 b15 ((o16 + 0) + 12)) fun x73 =>
   onM (ld w72 b15 ((o16 + 0) + 12)) fun x74 =>
   atP (idxS 1 x74 (ii (wi (x20 - 1)))) fun b75 o76 =>
   ∃ x77 : Int,ld w72 b75 o76 = some (ii x77) ∧
   onM (ld w72 b15 ((o16 + 0) + 13)) fun x78 =>
   atP (idxS 1 x78 (ii (wi (x20 - 1)))) fun b79 o80 =>
   ∃ x81 : Int,ld w72 b79 o80 = some (ii x81) ∧
   atP (idxS 1 x73 (ii (wi (x20 - 1)))) fun b82 o83 =>
   onM (AW.putCells w72 b82 o83 [(ii (imax x77 (wi (x81 + 1))))]) fun w84 =>
   Cl Tryz.prog hk 96 [w0] w84 fun r85 w86 =>
   r85 = .tup [] ∧
   onM (ld w86 b15 ((o16 + 0) + 12)) fun x87 =>
   atP (idxS 1 x87 (ii (wi (x20 - 1)))) fun b88 o89 =>
   ∃ x90 : Int,ld w86 b88 o89 = some (ii x90) ∧
   ∃ x91 x92 x93 x94 x95 x96 x97 x98 : Int,∃ x99 x100 : AV,∃ x101 : Int,∃ x102 x103 x104 x105 : AV,∃ x106 x107 x108 : Int,∃ x109 : AV,ldN 19 w86 b15 (o16 + 0) = some (.agg [(ii x91),(ii x92),(.int .u8 x93),(ii x94),(ii x95),(ii x96),(ii x97),(ii x98),x99,x100,(ii x101),x102,x103,x104,x105,(ii x106),(ii x107),(ii x108),x109]) ∧
   Cl Tryz.prog hk 36 [(.agg [(ii x91),(ii x92),(.int .u8 x93),(ii x94),(ii x95),(ii x96),(ii x97),(ii x98),x99,x100,(ii x101),x102,x103,x104,x105,(ii x106),(ii x107),(ii x108),x109])] w86 fun r110 w111 =>
   ∃ x112 : Int,r110 = (ii x112) ∧
   ld w111 b88 o89 = some (ii x90) ∧
   ld w111 b15 ((o16 + 0) + 12) = some x87 ∧
   ifT (decide (x90 ≤ x112)) (∃ x113 : Int,ld w111 b13 (0 + 2) = some (ii x113) ∧
   Cl Tryz.prog hk 50 [w0,(ii x113)] w111 fun r114 w115 =>
   r114 = .tup [] ∧
   K (.tup []) w115)
   (K (.tup []) w111))
  (K (.tup []) w62))) fun J23 =>
 ∃ x116 : Int,ld w14 b13 (0 + 8) = some (ii x116) ∧
 ∃ x117 : Int,ld w14 b15 ((o16 + 0) + 15) = some (ii x117) ∧
 ifT (decide (x116 ≤ x117)) (onM (ld w14 b15 ((o16 + 0) + 14)) fun x118 =>
  onM (ld w14 b15 ((o16 + 0) + 14)) fun x119 =>
  atP (idxS 1 x119 (ii (wi (x20 - 1)))) fun b120 o121 =>
  ∃ x122 : Int,ld w14 b120 o121 = some (ii x122) ∧
  ∃ x123 : Int,ld w14 b13 (0 + 8) = some (ii x123) ∧
  atP (idxS 1 x118 (ii (wi (x20 - 1)))) fun b124 o125 =>
  onM (AW.putCells w14 b124 o125 [(ii (imax x122 x123))]) fun w126 =>
  J23 [] w126)
 (J23 [] w14))))
def adv90 : Adv := (.sq .lf (.sq .lf (.sq (.sq .lf (.cd .lf .lf)) (.sq .lf (.sj [] (.sq .lf (.cd .lf .lf)) (.bl (.sq .lf (.cd (.sq .lf .lf) (.sq .lf (.cd (.sq .lf (.sq .lf (.sq .lf (.sq .lf (.cd .lf .lf))))) .lf))))))))))
set_option maxRecDepth 100000 in
theorem in90 {hk : Hook} {w0 : AV} {m1 : List UInt8} {m2 m3 m4 m5 m6 m7 m8 m9 : Int} {m10 : Bool} {m11 m12 : AV} {w : AW} {K : AV → AW → Prop} (hn : hk 90 [w0,(.agg [(.str m1),(.int .u8 m2),(ii m3),(ii m4),(ii m5),(ii m6),(ii m7),(ii m8),(ii m9),(.bool m10),m11,m12])] w = none) (h : F90 hk w0 m1 m2 m3 m4 m5 m6 m7 m8 m9 m10 m11 m12 w K) : Cl Tryz.prog hk 90 [w0,(.agg [(.str m1),(.int .u8 m2),(ii m3),(ii m4),(ii m5),(ii m6),(ii m7),(ii m8),(ii m9),(.bool m10),m11,m12])] w K :=
 fnS_ok (adv := adv90) Tryz.func90 hn (Eq.mpr (by kernel_rfl) h)
def F91 (hk : Hook) (w0 : AV) (m1 : List UInt8) (m2 m3 m4 m5 m6 m7 m8 m9 : Int) (m10 : Bool) (m11 m12 : AV) (w : AW) (K : AV → AW → Prop) : Prop :=
 gd (List.all [(.str m1),(.int .u8 m2),(ii m3),(ii m4),(ii m5),(ii m6),(ii m7),(ii m8),(ii m9),(.bool m10),m11,m12] okCell) (
 new w [(.str m1),(.int .u8 m2),(ii m3),(ii m4),(ii m5),(ii m6),(ii m7),(ii m8),(ii m9),(.bool m10),m11,m12] fun b13 w14 =>
 ∃ x15 : List UInt8,∃ x16 x17 x18 x19 x20 x21 x22 x23 : Int,∃ x24 : Bool,∃ x25 x26 : AV,ldN 12 w14 b13 0 = some (.agg [(.str x15),(.int .u8 x16),(ii x17),(ii x18),(ii x19),(ii x20),(ii x21),(ii x22),(ii x23),(.bool x24),x25,x26]) ∧
 Cl Tryz.prog hk 114 [w0,(.agg [(.str x15),(.int .u8 x16),(ii x17),(ii x18),(ii x19),(ii x20),(ii x21),(ii x22),(ii x23),(.bool x24),x25,x26])] w14 fun r27 w28 =>
 ∃ x29 : Bool,r27 = (.bool x29) ∧
 ifT (!x29) (K (.tup []) w28)
 (onP w0 fun b30 o31 =>
 join (fun l_32 w33 => l_32 = [] ∧ ∀ _ : Nat → AV,
  ∃ x35 : Int,ld w33 b13 (0 + 2) = some (ii x35) ∧
  ∃ x36 : Int,ld w33 b30 ((o31 + 0) + 10) = some (ii x36) ∧
  ∃ x37 : Int,ld w33 b13 (0 + 8) = some (ii x37) ∧
  Cl Tryz.prog hk 92 [w0,(ii x35),(.agg [(.str []),(.int .u8 4),(ii 0),(ii 0),(ii 0),(ii x36),(ii 0),(ii 0),(ii x37),(.bool true),.nilslice,.nilslice])] w33 fun r38 w39 =>
  r38 = .tup [] ∧
  K (.tup []) w39) fun J34 =>
 ∃ x40 : Int,ld w28 b13 (0 + 5) = some (ii x40) ∧
 ∃ x41 : Int,ld w28 b30 ((o31 + 0) + 10) = some (ii x41) ∧
 ifT (decide (x41 < x40)) (join (fun l_42 w43 => l_42 = [] ∧ ∀ _ : Nat → AV,
  ∃ x45 : Int,ld w43 b13 (0 + 5) = some (ii x45) ∧
  ∃ x46 : Int,ld w43 b13 (0 + 6) = some (ii x46) ∧
  onM (ld w43 b13 (0 + 11)) fun x47 =>
  ∃ x48 : Int,ld w43 b13 (0 + 5) = some (ii x48) ∧
  Cl Tryz.prog hk 55 [x47] w43 fun r49 w50 =>
  ld w50 b13 (0 + 5) = some (ii x48) ∧
  ld w50 b13 (0 + 6) = some (ii x46) ∧
  ld w50 b13 (0 + 5) = some (ii x45) ∧
  onM (AW.putCells w50 b30 ((o31 + 0) + 6) [(ii x45)]) fun w51 =>
  ld w51 b13 (0 + 5) = some (ii x48) ∧
  ld w51 b13 (0 + 6) = some (ii x46) ∧
  onM (AW.putCells w51 b30 ((o31 + 0) + 7) [(ii x46)]) fun w52 =>
  ld w52 b13 (0 + 5) = some (ii x48) ∧
  gd (okCell r49) (
  onM (AW.putCells w52 b30 ((o31 + 0) + 8) [r49]) fun w53 =>
  ld w53 b13 (0 + 5) = some (ii x48) ∧
  onM (AW.putCells w53 b30 ((o31 + 0) + 10) [(ii x48)]) fun w54 =>
  J34 [] w54)) fun J44 =>
  ∃ x55 x56 x57 x58 x59 x60 x61 x62 : Int,∃ x63 x64 : AV,∃ x65 : Int,∃ x66 x67 x68 x69 : AV,∃ x70 x71 x72 : Int,∃ x73 : AV,ldN 19 w28 b30 (o31 + 0) = some (.agg [(ii x55),(ii x56),(.int .u8 x57),(ii x58),(ii x59),(ii x60),(ii x61),(ii x62),x63,x64,(ii x65),x66,x67,x68,x69,(ii x70),(ii x71),(ii x72),x73]) ∧
  ∃ x74 : Int,ld w28 b13 (0 + 5) = some (ii x74) ∧
  Cl Tryz.prog hk 53 [(.agg [(ii x55),(ii x56),(.int .u8 x57),(ii x58),(ii x59),(ii x60),(ii x61),(ii x62),x63,x64,(ii x65),x66,x67,x68,x69,(ii x70),(ii x71),(ii x72),x73]),(ii x74)] w28 fun r75 w76 =>
  ∃ x77 : Int,∃ x78 : Bool,r75 = .tup [(ii x77),(.bool x78)] ∧
  join (fun l_79 w80 => ∃ x82 : Bool,l_79 = [(.bool x82)] ∧ ∀ _ : Nat → AV,
  ifT x82 (onM (ld w80 b30 ((o31 + 0) + 9)) fun x83 =>
   ∃ x84 : Int,ld w80 b13 (0 + 5) = some (ii x84) ∧
   ∃ x85 : Int,ld w80 b30 ((o31 + 0) + 6) = some (ii x85) ∧
   onM (slS 2 x83 (some (ii (wi (x84 - x85)))) none none) fun x86 =>
   gd (okCell x86) (
   onM (AW.putCells w80 b30 ((o31 + 0) + 9) [x86]) fun w87 =>
   J44 [] w87))
  (onM (AW.putCells w80 b30 ((o31 + 0) + 9) [.nilslice]) fun w88 =>
   J44 [] w88)) fun J81 =>
  ifT x78 (∃ x89 : Int,ld w76 b13 (0 + 6) = some (ii x89) ∧
  J81 [(.bool (decide (x77 = x89)))] w76)
  (J81 [(.bool false)] w76))
 (J34 [] w28)))
def adv91 : Adv := (.sq .lf (.sq (.sq .lf (.cd .lf .lf)) (.sq .lf (.sj [] (.sq .lf (.cd (.sj [] (.sq .lf (.sj [(36,.sc (.bool))] .lf (.cd .lf .lf))) .lf) .lf)) .lf))))
set_option maxRecDepth 100000 in
theorem in91 {hk : Hook} {w0 : AV} {m1 : List UInt8} {m2 m3 m4 m5 m6 m7 m8 m9 : Int} {m10 : Bool} {m11 m12 : AV} {w : AW} {K : AV → AW → Prop} (hn : hk 91 [w0,(.agg [(.str m1),(.int .u8 m2),(ii m3),(ii m4),(ii m5),(ii m6),(ii m7),(ii m8),(ii m9),(.bool m10),m11,m12])] w = none) (h : F91 hk w0 m1 m2 m3 m4 m5 m6 m7 m8 m9 m10 m11 m12 w K) : Cl Tryz.prog hk 91 [w0,(.agg [(.str m1),(.int .u8 m2),(ii m3),(ii m4),(ii m5),(ii m6),(ii m7),(ii m8),(ii m9),(.bool m10),m11,m12])] w K :=
 fnS_ok (adv := adv91) Tryz.func91 hn (Eq.mpr (by kernel_rfl) h)
def F93 (hk : Hook) (w0 : AV) (w : AW) (K : AV → AW → Prop) : Prop :=
 onP w0 fun b1 o2 =>
 onM (ld w b1 ((o2 + 0) + 11)) fun x3 =>
 ∃ x4 : Int,lenS x3 = some (ii x4) ∧
 loopP [(ii 0),(ii 0)] w fun R5 l_6 w7 => ∃ yes8 x9 : Int,l_6 = [(ii yes8),(ii x9)] ∧ ∀ _ : Nat → AV,
  ifT (decide (x9 < x4)) (atP (idxS 1 x3 (ii x9)) fun b10 o11 =>
  ∃ is12 : Bool,ld w7 b10 o11 = some (.bool is12) ∧
  ifT is12 (R5 [(ii (wi (yes8 + 1))),(ii (wi (x9 + 1)))] w7)
  (R5 [(ii yes8),(ii (wi (x9 + 1)))] w7))
  (∃ x13 : Int,ld w7 b1 ((o2 + 0) + 1) = some (ii x13) ∧
 Cl Tryz.prog hk 108 [(ii yes8),(ii x13)] w7 fun r14 w15 =>
 ∃ x16 : Bool,r14 = (.bool x16) ∧
 ifT (!x16) (K (.bool false) w15)
 (Cl Tryz.prog hk 86 [w0] w15 fun r17 w18 =>
 r17 = .tup [] ∧
 ∃ x19 : Int,ld w18 b1 ((o2 + 0) + 0) = some (ii x19) ∧
 onM (AW.putCells w18 b1 ((o2 + 0) + 2) [(.int .u8 3)]) fun w20 =>
 onM (AW.putCells w20 b1 ((o2 + 0) + 5) [(ii x19)]) fun w21 =>
 onM (AW.putCells w21 b1 ((o2 + 0) + 16) [(ii 0)]) fun w22 =>
 onM (ld w22 b1 ((o2 + 0) + 12)) fun x23 =>
 ∃ x24 : Int,lenS x23 = some (ii x24) ∧
 loopP [(ii 0)] w22 fun R25 l_26 w27 => ∃ x28 : Int,l_26 = [(ii x28)] ∧ ∀ _ : Nat → AV,
  ifT (decide (x28 < x24)) (onM (ld w27 b1 ((o2 + 0) + 12)) fun x29 =>
  ∃ x30 x31 x32 x33 x34 x35 x36 x37 : Int,∃ x38 x39 : AV,∃ x40 : Int,∃ x41 x42 x43 x44 : AV,∃ x45 x46 x47 : Int,∃ x48 : AV,ldN 19 w27 b1 (o2 + 0) = some (.agg [(ii x30),(ii x31),(.int .u8 x32),(ii x33),(ii x34),(ii x35),(ii x36),(ii x37),x38,x39,(ii x40),x41,x42,x43,x44,(ii x45),(ii x46),(ii x47),x48]) ∧
  Cl Tryz.prog hk 36 [(.agg [(ii x30),(ii x31),(.int .u8 x32),(ii x33),(ii x34),(ii x35),(ii x36),(ii x37),x38,x39,(ii x40),x41,x42,x43,x44,(ii x45),(ii x46),(ii x47),x48])] w27 fun r49 w50 =>
  ∃ x51 : Int,r49 = (ii x51) ∧
  ld w50 b1 ((o2 + 0) + 12) = some x29 ∧
  atP (idxS 1 x29 (ii x28)) fun b52 o53 =>
  onM (AW.putCells w50 b52 o53 [(ii (wi (x51 + 1)))]) fun w54 =>
  R25 [(ii (wi (x28 + 1)))] w54)
  (Cl Tryz.prog hk 52 [w0,.nilslice] w27 fun r55 w56 =>
 r55 = .tup [] ∧
 K (.bool true) w56)))
def adv93 : Adv := (.sq .lf (.sq .lf (.sq .lf (.sq (.sq .lf (.bl (.lp [(4,.sc (.int .i64)),(16,.sc (.int .i64))] (.sq .lf (.sq (.cd .lf .lf) (.sq (.bl (.sq .lf (.sq .lf (.cd .lf .lf)))) .lf)))))) (.sq (.sq .lf (.cd (.sq .lf .lf) .lf)) (.sq .lf (.sq .lf (.sq (.sq .lf (.bl (.lp [(51,.sc (.int .i64))] (.sq .lf (.sq (.cd .lf .lf) (.sq (.bl (.sq .lf .lf)) .lf)))))) (.sq .lf (.sq .lf .lf))))))))))
set_option maxRecDepth 100000 in
theorem in93 {hk : Hook} {w0 : AV} {w : AW} {K : AV → AW → Prop} (hn : hk 93 [w0] w = none) (h : F93 hk w0 w K) : Cl Tryz.prog hk 93 [w0] w K :=
 fnS_ok (adv := adv93) Tryz.func93 hn (Eq.mpr (by kernel_rfl) h)
def F94 (hk : Hook) (to0 : Int) (cap1 cap2 cap3 : AV) (w : AW) (K : AV → AW → Prop) : Prop :=
 onP cap1 fun b4 o5 =>
 onM (ld w b4 o5) fun x6 =>
 onP cap2 fun b7 o8 =>
 onM (ld w b7 o8) fun x9 =>
 onP x9 fun b10 o11 =>
 ∃ x12 x13 x14 x15 x16 x17 x18 x19 : Int,∃ x20 x21 : AV,∃ x22 : Int,∃ x23 x24 x25 x26 : AV,∃ x27 x28 x29 : Int,∃ x30 : AV,ldN 19 w b10 o11 = some (.agg [(ii x12),(ii x13),(.int .u8 x14),(ii x15),(ii x16),(ii x17),(ii x18),(ii x19),x20,x21,(ii x22),x23,x24,x25,x26,(ii x27),(ii x28),(ii x29),x30]) ∧
 onP cap3 fun b31 o32 =>
 ∃ x33 : Int,ld w b31 o32 = some (ii x33) ∧
 Cl Tryz.prog hk 36 [(.agg [(ii x12),(ii x13),(.int .u8 x14),(ii x15),(ii x16),(ii x17),(ii x18),(ii x19),x20,x21,(ii x22),x23,x24,x25,x26,(ii x27),(ii x28),(ii x29),x30])] w fun r34 w35 =>
 ∃ x36 : Int,r34 = (ii x36) ∧
 ((asP cap3).bind fun p => ld w35 p.1 p.2) = some (ii x33) ∧
 ((asP cap1).bind fun p => ld w35 p.1 p.2) = some x6 ∧
 Cl Tryz.prog hk 92 [x6,(ii to0),(.agg [(.str []),(.int .u8 1),(ii 0),(ii 0),(ii 0),(ii x36),(ii x33),(ii 0),(ii 0),(.bool false),.nilslice,.nilslice])] w35 fun r37 w38 =>
 r37 = .tup [] ∧
 K (.tup []) w38
def adv94 : Adv := .lf
set_option maxRecDepth 100000 in
theorem in94 {hk : Hook} {to0 : Int} {cap1 cap2 cap3 : AV} {w : AW} {K : AV → AW → Prop} (hn : hk 94 [(ii to0),cap1,cap2,cap3] w = none) (h : F94 hk to0 cap1 cap2 cap3 w K) : Cl Tryz.prog hk 94 [(ii to0),cap1,cap2,cap3] w K :=
 fnS_ok (adv := adv94) Tryz.func94 hn (Eq.mpr (by kernel_rfl) h)
def F113 (hk : Hook) (term0 vote1 lastTerm2 lastIndex3 : Int) (m4 : List UInt8) (m5 m6 m7 m8 m9 m10 m11 m12 : Int) (m13 : Bool) (m14 m15 : AV) (w : AW) (K : AV → AW → Prop) : Prop :=
 gd (List.all [(.str m4),(.int .u8 m5),(ii m6),(ii m7),(ii m8),(ii m9),(ii m10),(ii m11),(ii m12),(.bool m13),m14,m15] okCell) (
 new w [(.str m4),(.int .u8 m5),(ii m6),(ii m7),(ii m8),(ii m9),(ii m10),(ii m11),(ii m12),(.bool m13),m14,m15] fun b16 w17 =>
 join (fun l_18 w19 => ∃ vote21 : Int,l_18 = [(ii vote21)] ∧ ∀ _ : Nat → AV,
  ifT (decide (vote21 = 0)) (∃ x22 : Int,ld w19 b16 (0 + 6) = some (ii x22) ∧
  ∃ x23 : Int,ld w19 b16 (0 + 5) = some (ii x23) ∧
  Cl Tryz.prog hk 124 [(ii x22),(ii x23),(ii lastTerm2),(ii lastIndex3)] w19 fun r24 w25 =>
  ∃ x26 : Bool,r24 = (.bool x26) ∧
  ifT x26 (∃ x27 : Int,ld w25 b16 (0 + 4) = some (ii x27) ∧
  ∃ x28 : Int,ld w25 b16 (0 + 2) = some (ii x28) ∧
  K (.tup [(ii x27),(ii x28),(.bool true)]) w25)
  (∃ x29 : Int,ld w25 b16 (0 + 4) = some (ii x29) ∧
 K (.tup [(ii x29),(ii vote21),(.bool false)]) w25))
  (∃ x30 : Int,ld w19 b16 (0 + 2) = some (ii x30) ∧
  ifT (decide (vote21 = x30)) (∃ x31 : Int,ld w19 b16 (0 + 6) = some (ii x31) ∧
  ∃ x32 : Int,ld w19 b16 (0 + 5) = some (ii x32) ∧
  Cl Tryz.prog hk 124 [(ii x31),(ii x32),(ii lastTerm2),(ii lastIndex3)] w19 fun r33 w34 =>
  ∃ x35 : Bool,r33 = (.bool x35) ∧
  ifT x35 (∃ x36 : Int,ld w34 b16 (0 + 4) = some (ii x36) ∧
  ∃ x37 : Int,ld w34 b16 (0 + 2) = some (ii x37) ∧
  K (.tup [(ii x36),(ii x37),(.bool true)]) w34)
  (∃ x38 : Int,ld w34 b16 (0 + 4) = some (ii x38) ∧
 K (.tup [(ii x38),(ii vote21),(.bool false)]) w34))
  (∃ x39 : Int,ld w19 b16 (0 + 4) = some (ii x39) ∧
 K (.tup [(ii x39),(ii vote21),(.bool false)]) w19))) fun J20 =>
 ∃ x40 : Int,ld w17 b16 (0 + 4) = some (ii x40) ∧
 ifT (decide (x40 < term0)) (K (.tup [(ii term0),(ii vote1),(.bool false)]) w17)
 (∃ x41 : Int,ld w17 b16 (0 + 4) = some (ii x41) ∧
 ifT (decide (term0 < x41)) (J20 [(ii 0)] w17)
 (J20 [(ii vote1)] w17)))
def adv113 : Adv := (.sq .lf (.sq (.bl (.sj [(1,.sc (.int .i64))] (.bl (.sq (.bl (.sq (.bl (.sq (.sq (.sq .lf (.cd .lf .lf)) (.sq .lf (.cd .lf .lf))) .lf)) (.sq (.sq .lf .lf) .lf))) .lf)) (.sq (.sq .lf (.cd (.sq .lf .lf) .lf)) .lf))) (.sq .lf .lf)))
set_option maxRecDepth 100000 in
theorem in113 {hk : Hook} {term0 vote1 lastTerm2 lastIndex3 : Int} {m4 : List UInt8} {m5 m6 m7 m8 m9 m10 m11 m12 : Int} {m13 : Bool} {m14 m15 : AV} {w : AW} {K : AV → AW → Prop} (hn : hk 113 [(ii term0),(ii vote1),(ii lastTerm2),(ii lastIndex3),(.agg [(.str m4),(.int .u8 m5),(ii m6),(ii m7),(ii m8),(ii m9),(ii m10),(ii m11),(ii m12),(.bool m13),m14,m15])] w = none) (h : F113 hk term0 vote1 lastTerm2 lastIndex3 m4 m5 m6 m7 m8 m9 m10 m11 m12 m13 m14 m15 w K) : Cl Tryz.prog hk 113 [(ii term0),(ii vote1),(ii lastTerm2),(ii lastIndex3),(.agg [(.str m4),(.int .u8 m5),(ii m6),(ii m7),(ii m8),(ii m9),(ii m10),(ii m11),(ii m12),(.bool m13),m14,m15])] w K :=
 fnS_ok (adv := adv113) Tryz.func113 hn (Eq.mpr (by kernel_rfl) h)
def F114 (hk : Hook) (w0 : AV) (m1 : List UInt8) (m2 m3 m4 m5 m6 m7 m8 m9 : Int) (m10 : Bool) (m11 m12 : AV) (w : AW) (K : AV → AW → Prop) : Prop :=
 gd (List.all [(.str m1),(.int .u8 m2),(ii m3),(ii m4),(ii m5),(ii m6),(ii m7),(ii m8),(ii m9),(.bool m10),m11,m12] okCell) (
 new w [(.str m1),(.int .u8 m2),(ii m3),(ii m4),(ii m5),(ii m6),(ii m7),(ii m8),(ii m9),(.bool m10),m11,m12] fun b13 w14 =>
 onP w0 fun b15 o16 =>
 ∃ x17 : Int,ld w14 b13 (0 + 4) = some (ii x17) ∧
 ∃ x18 : Int,ld w14 b15 ((o16 + 0) + 3) = some (ii x18) ∧
 ifT (decide (x17 < x18)) (∃ x19 : Int,ld w14 b13 (0 + 2) = some (ii x19) ∧
  Cl Tryz.prog hk 92 [w0,(ii x19),(.agg [(.str []),(.int .u8 4),(ii 0),(ii 0),(ii 0),(ii 0),(ii 0),(ii 0),(ii 0),(.bool false),.nilslice,.nilslice])] w14 fun r20 w21 =>
  r20 = .tup [] ∧
  K (.bool false) w21)
 (∃ x22 : Int,ld w14 b15 ((o16 + 0) + 2) = some (.int .u8 x22) ∧
  ifT (decide (x22 = 3)) (K (.bool false) w14)
  (∃ x23 : Int,ld w14 b13 (0 + 4) = some (ii x23) ∧
 Cl Tryz.prog hk 44 [w0,(ii x23)] w14 fun r24 w25 =>
 r24 = .tup [] ∧
 ∃ x26 : Int,ld w25 b13 (0 + 2) = some (ii x26) ∧
 onM (AW.putCells w25 b15 ((o16 + 0) + 5) [(ii x26)]) fun w27 =>
 onM (AW.putCells w27 b15 ((o16 + 0) + 16) [(ii 0)]) fun w28 =>
 K (.bool true) w28)))
def adv114 : Adv := (.sq .lf (.sq .lf (.sq (.bl (.sq .lf (.cd (.sq .lf (.sq .lf .lf)) (.sq .lf (.cd (.sq .lf .lf) .lf))))) (.sq .lf (.sq .lf (.sq .lf .lf))))))
set_option maxRecDepth 100000 in
theorem in114 {hk : Hook} {w0 : AV} {m1 : List UInt8} {m2 m3 m4 m5 m6 m7 m8 m9 : Int} {m10 : Bool} {m11 m12 : AV} {w : AW} {K : AV → AW → Prop} (hn : hk 114 [w0,(.agg [(.str m1),(.int .u8 m2),(ii m3),(ii m4),(ii m5),(ii m6),(ii m7),(ii m8),(ii m9),(.bool m10),m11,m12])] w = none) (h : F114 hk w0 m1 m2 m3 m4 m5 m6 m7 m8 m9 m10 m11 m12 w K) : Cl Tryz.prog hk 114 [w0,(.agg [(.str m1),(.int .u8 m2),(ii m3),(ii m4),(ii m5),(ii m6),(ii m7),(ii m8),(ii m9),(.bool m10),m11,m12])] w K :=
 fnS_ok (adv := adv114) Tryz.func114 hn (Eq.mpr (by kernel_rfl) h)
def F115 (hk : Hook) (base0 baseTerm1 : Int) (l_2 : AV) (index3 term4 : Int) (entries5 : AV) (w : AW) (K : AV → AW → Prop) : Prop :=
 gd (okCell l_2) (
 new w [l_2] fun b6 w7 =>
 gd (okCell entries5) (
 new w7 [entries5] fun b8 w9 =>
 join (fun l_10 w11 => ∃ index13 term14 : Int,l_10 = [(ii index13),(ii term14)] ∧ ∀ _ : Nat → AV,
  onM (ld w11 b6 0) fun x15 =>
  Cl Tryz.prog hk 97 [(ii base0),(ii baseTerm1),x15,(ii index13)] w11 fun r16 w17 =>
  ∃ x18 : Int,∃ x19 : Bool,r16 = .tup [(ii x18),(.bool x19)] ∧
  ifT (!x19) (onM (ld w17 b6 0) fun x20 =>
  Cl Tryz.prog hk 125 [x20] w17 fun r21 w22 =>
  K (.tup [r21,(ii 0),(.bool false)]) w22)
  (ifT (!decide (x18 = term14)) (onM (ld w17 b6 0) fun x23 =>
  Cl Tryz.prog hk 125 [x23] w17 fun r24 w25 =>
  K (.tup [r24,(ii 0),(.bool false)]) w25)
  (new w17 [(ii 0)] fun b26 w27 =>
  onM (AW.putCells w27 b26 0 [(ii (wi (index13 - base0)))]) fun w28 =>
  onM (ld w28 b8 0) fun x29 =>
  ∃ x30 : Int,lenS x29 = some (ii x30) ∧
  loopP [(ii 0)] w28 fun R31 l_32 w33 => ∃ x34 : Int,l_32 = [(ii x34)] ∧ ∀ _ : Nat → AV,
  ifT (decide (x34 < x30)) (Cl Tryz.prog hk 126 [(ii x34),(.ptr b26 0),(.ptr b6 0),(.ptr b8 0)] w33 fun r35 w36 =>
  ∃ x37 : Bool,r35 = (.bool x37) ∧
  ifT x37 (onM (ld w36 b6 0) fun x38 =>
   ∃ x39 : Int,ld w36 b26 0 = some (ii x39) ∧
   onM (slS 2 x38 none (some (ii (wi (x39 + x34)))) none) fun x40 =>
   onM (ld w36 b8 0) fun x41 =>
   onM (slS 2 x41 (some (ii x34)) none none) fun x42 =>
   gd (okCell x40) (
   gd (okCell x42) (
   new w36 [x40,x42] fun b43 w44 =>
   onM (ld w44 b8 0) fun x45 =>
   ∃ x46 : Int,lenS x45 = some (ii x46) ∧
   ld w44 b8 0 = some x45 ∧
   ld w44 b8 0 = some x41 ∧
   ld w44 b26 0 = some (ii x39) ∧
   ld w44 b6 0 = some x38 ∧
   Cl Tryz.prog hk 95 [(.slice b43 0 2 2 none)] w44 fun r47 w48 =>
   ld w48 b8 0 = some x45 ∧
   Cl Tryz.prog hk 125 [r47] w48 fun r49 w50 =>
   ld w50 b8 0 = some x45 ∧
   K (.tup [r49,(ii (wi (index13 + x46))),(.bool true)]) w50)))
  (R31 [(ii (wi (x34 + 1)))] w36))
  (onM (ld w33 b6 0) fun x51 =>
  onM (ld w33 b8 0) fun x52 =>
  ∃ x53 : Int,lenS x52 = some (ii x53) ∧
  Cl Tryz.prog hk 125 [x51] w33 fun r54 w55 =>
  ld w55 b8 0 = some x52 ∧
  K (.tup [r54,(ii (wi (index13 + x53))),(.bool true)]) w55)))) fun J12 =>
 ifT (decide (index3 < base0)) (onM (ld w9 b8 0) fun x56 =>
  ∃ x57 : Int,lenS x56 = some (ii x57) ∧
  ifT (decide (x57 < (wi (base0 - index3)))) (onM (ld w9 b6 0) fun x58 =>
  Cl Tryz.prog hk 125 [x58] w9 fun r59 w60 =>
  K (.tup [r59,(ii base0),(.bool true)]) w60)
  (onM (ld w9 b8 0) fun x61 =>
  onM (slS 2 x61 (some (ii (wi (base0 - index3)))) none none) fun x62 =>
  gd (okCell x62) (
  onM (AW.putCells w9 b8 0 [x62]) fun w63 =>
  J12 [(ii base0),(ii baseTerm1)] w63)))
 (J12 [(ii index3),(ii term4)] w9)))
def adv115 : Adv := (.sq .lf (.sj [(3,.sc (.int .i64)),(4,.sc (.int .i64))] (.sq .lf (.cd (.sq (.sq .lf (.cd (.sq .lf .lf) .lf)) (.sq .lf .lf)) .lf)) (.sq (.sq .lf (.sq .lf (.cd (.sq .lf .lf) .lf))) (.sq .lf (.sq .lf (.sq (.sq .lf (.bl (.lp [(62,.sc (.int .i64))] (.sq .lf (.sq (.cd .lf .lf) (.sq (.bl (.sq .lf (.sq .lf (.cd (.sq .lf .lf) .lf)))) .lf)))))) (.sq .lf .lf)))))))
set_option maxRecDepth 100000 in
theorem in115 {hk : Hook} {base0 baseTerm1 : Int} {l_2 : AV} {index3 term4 : Int} {entries5 : AV} {w : AW} {K : AV → AW → Prop} (hn : hk 115 [(ii base0),(ii baseTerm1),l_2,(ii index3),(ii term4),entries5] w = none) (h : F115 hk base0 baseTerm1 l_2 index3 term4 entries5 w K) : Cl Tryz.prog hk 115 [(ii base0),(ii baseTerm1),l_2,(ii index3),(ii term4),entries5] w K :=
 fnS_ok (adv := adv115) Tryz.func115 hn (Eq.mpr (by kernel_rfl) h)
def F116 (hk : Hook) (base0 baseTerm1 : Int) (l_2 : AV) (index3 : Int) (w : AW) (K : AV → AW → Prop) : Prop :=
 Cl Tryz.prog hk 79 [(ii base0),l_2] w fun r4 w5 =>
 ∃ x6 : Int,r4 = (ii x6) ∧
 ifT (decide (x6 < index3)) (Cl Tryz.prog hk 79 [(ii base0),l_2] w5 fun r7 w8 =>
  ∃ x9 : Int,r7 = (ii x9) ∧
  K (ii x9) w8)
 (ifT (decide (index3 ≤ base0)) (K (ii base0) w5)
  (Cl Tryz.prog hk 97 [(ii base0),(ii baseTerm1),l_2,(ii index3)] w5 fun r10 w11 =>
 ∃ x12 : Int,∃ x13 : Bool,r10 = .tup [(ii x12),(.bool x13)] ∧
 loopP [(ii (wi (index3 - 1)))] w11 fun R14 l_15 w16 => ∃ i17 : Int,l_15 = [(ii i17)] ∧ ∀ _ : Nat → AV,
  ifT (decide (base0 < i17)) (Cl Tryz.prog hk 97 [(ii base0),(ii baseTerm1),l_2,(ii i17)] w16 fun r18 w19 =>
  ∃ x20 : Int,∃ x21 : Bool,r18 = .tup [(ii x20),(.bool x21)] ∧
  ifT (decide (x20 < x12)) (K (ii i17) w19)
  (R14 [(ii (wi (i17 - 1)))] w19))
  (K (ii base0) w16)))
def adv116 : Adv := (.sq .lf (.sq (.bl (.sq .lf (.cd (.sq .lf .lf) (.sq .lf (.cd (.sq .lf .lf) .lf))))) (.sq .lf (.sq (.sq .lf (.bl (.lp [(11,.sc (.int .i64))] (.sq (.sq .lf (.cd .lf .lf)) (.sq (.bl (.sq .lf (.sq .lf (.cd (.sq .lf .lf) .lf)))) .lf))))) (.sq .lf .lf)))))
set_option maxRecDepth 100000 in
theorem in116 {hk : Hook} {base0 baseTerm1 : Int} {l_2 : AV} {index3 : Int} {w : AW} {K : AV → AW → Prop} (hn : hk 116 [(ii base0),(ii baseTerm1),l_2,(ii index3)] w = none) (h : F116 hk base0 baseTerm1 l_2 index3 w K) : Cl Tryz.prog hk 116 [(ii base0),(ii baseTerm1),l_2,(ii index3)] w K :=
 fnS_ok (adv := adv116) Tryz.func116 hn (Eq.mpr (by kernel_rfl) h)
def F124 (hk : Hook) (term0 index1 ofTerm2 ofIndex3 : Int) (w : AW) (K : AV → AW → Prop) : Prop :=
 ifT (decide (ofTerm2 < term0)) (K (.bool true) w)
 (ifT (decide (term0 = ofTerm2)) (K (.bool (decide (ofIndex3 ≤ index1))) w)
 (K (.bool false) w))
def adv124 : Adv := (.sq .lf (.sq .lf .lf))
set_option maxRecDepth 100000 in
theorem in124 {hk : Hook} {term0 index1 ofTerm2 ofIndex3 : Int} {w : AW} {K : AV → AW → Prop} (hn : hk 124 [(ii term0),(ii index1),(ii ofTerm2),(ii ofIndex3)] w = none) (h : F124 hk term0 index1 ofTerm2 ofIndex3 w K) : Cl Tryz.prog hk 124 [(ii term0),(ii index1),(ii ofTerm2),(ii ofIndex3)] w K :=
 fnS_ok (adv := adv124) Tryz.func124 hn (Eq.mpr (by kernel_rfl) h)
def F125 (hk : Hook) (l_0 : AV) (w : AW) (K : AV → AW → Prop) : Prop :=
 ∃ x1 : Int,lenS l_0 = some (ii x1) ∧
 loopP [.nilslice,(ii 0)] w fun R2 l_3 w4 => ∃ out5 : AV,∃ x6 : Int,l_3 = [out5,(ii x6)] ∧ ∀ _ : Nat → AV,
  ifT (decide (x6 < x1)) (atP (idxS 2 l_0 (ii x6)) fun b7 o8 =>
  ∃ x9 : Int,∃ x10 : AV,ldN 2 w4 b7 o8 = some (.agg [(ii x9),x10]) ∧
  new w4 [(ii 0),.nilslice] fun b11 w12 =>
  gd (List.all [(ii x9),x10] okCell) (
  onM (AW.putCells w12 b11 0 [(ii x9),x10]) fun w13 =>
  ∃ x14 : Int,ld w13 b11 (0 + 0) = some (ii x14) ∧
  onM (ld w13 b11 (0 + 1)) fun x15 =>
  Cl Tryz.prog hk 55 [x15] w13 fun r16 w17 =>
  gd (okCell r16) (
  gd (List.all [(ii x14),r16] okCell) (
  new w17 [(ii x14),r16] fun b18 w19 =>
  ld w19 b11 (0 + 0) = some (ii x14) ∧
  onE (appS 2 32 w19 out5 (.slice b18 0 1 1 none)) fun x20 w21 =>
  R2 [x20,(ii (wi (x6 + 1)))] w21))))
  (K out5 w4)
def adv125 : Adv := (.sq .lf (.sq .lf (.sq (.sq .lf (.bl (.lp [(3,.sc (.opq)),(8,.sc (.int .i64))] (.sq .lf (.sq (.cd .lf .lf) (.sq (.bl (.sq .lf .lf)) .lf)))))) (.sq .lf .lf))))
set_option maxRecDepth 100000 in
theorem in125 {hk : Hook} {l_0 : AV} {w : AW} {K : AV → AW → Prop} (hn : hk 125 [l_0] w = none) (h : F125 hk l_0 w K) : Cl Tryz.prog hk 125 [l_0] w K :=
 fnS_ok (adv := adv125) Tryz.func125 hn (Eq.mpr (by kernel_rfl) h)
def F126 (hk : Hook) (i0 : Int) (cap1 cap2 cap3 : AV) (w : AW) (K : AV → AW → Prop) : Prop :=
 onP cap1 fun b4 o5 =>
 ∃ x6 : Int,ld w b4 o5 = some (ii x6) ∧
 onP cap2 fun b7 o8 =>
 onM (ld w b7 o8) fun x9 =>
 ∃ x10 : Int,lenS x9 = some (ii x10) ∧
 ifT (decide (x10 ≤ (wi (x6 + i0)))) (K (.bool true) w)
 (onP cap2 fun b11 o12 =>
 onM (ld w b11 o12) fun x13 =>
 onP cap1 fun b14 o15 =>
 ∃ x16 : Int,ld w b14 o15 = some (ii x16) ∧
 atP (idxS 2 x13 (ii (wi (x16 + i0)))) fun b17 o18 =>
 ∃ x19 : Int,ld w b17 (o18 + 0) = some (ii x19) ∧
 onP cap3 fun b20 o21 =>
 onM (ld w b20 o21) fun x22 =>
 atP (idxS 2 x22 (ii i0)) fun b23 o24 =>
 ∃ x25 : Int,ld w b23 (o24 + 0) = some (ii x25) ∧
 K (.bool (!decide (x19 = x25))) w)
def adv126 : Adv := (.sq .lf (.sq .lf .lf))
set_option maxRecDepth 100000 in
theorem eq126 (hk : Hook) (i0 : Int) (cap1 : AV) (cap2 : AV) (cap3 : AV) (w : AW) (K : AV → AW → Prop) : fnS Tryz.prog hk Tryz.f126 adv126 [(ii i0),cap1,cap2,cap3] w K = F126 hk i0 cap1 cap2 cap3 w K := by kernel_rfl
theorem in126 {hk : Hook} {i0 : Int} {cap1 cap2 cap3 : AV} {w : AW} {K : AV → AW → Prop} (hn : hk 126 [(ii i0),cap1,cap2,cap3] w = none) (h : F126 hk i0 cap1 cap2 cap3 w K) : Cl Tryz.prog hk 126 [(ii i0),cap1,cap2,cap3] w K :=
 fnS_ok Tryz.func126 hn (by rw [eq126]; exact h)
end Go.Proofs.YtghoifolghelnaaGreat
/-
 A node at work: cleared,following,elected.
 No condition beyond those that each theorem names.
-/
set_option linter.unusedSimpArgs false
open Go.Sx
set_option linter.unusedVariables false
set_option linter.unusedSimpArgs false
namespace Go.Proofs.YtghoifolghelnaaGreat
theorem clr25 {w : AW} {b n c : Nat} {ex : Option Nat} : clearA Tryz.prog w 25 (.slice b 0 n c ex) = bif Nat.beq n 0 then some w else guardO true (w.putCells b 0 (repl n [.bool false])) := by kernel_rfl
theorem clr26 {w : AW} {b n c : Nat} {ex : Option Nat} : clearA Tryz.prog w 26 (.slice b 0 n c ex) = bif Nat.beq n 0 then some w else guardO true (w.putCells b 0 (repl n [.int .i64 0])) := by kernel_rfl
theorem listPut_full {cs vs : List AV} (h : cs.length = vs.length) : listPut cs 0 vs = vs := by
 simp only [listPut,List.take_zero,List.nil_append,Nat.zero_add,← h,List.drop_length,List.append_nil]
theorem repl_rep (n : Nat) (z : AV) : repl n [z] = List.replicate n z := by
 induction n with
 | zero => rfl
 | succ n ih => show [z] ++ repl n [z] = _; rw [ih]; rfl
section
variable {hk : Hook} {T A A' B : Nat → Prop} {I : List Nat} {w0 w w' : AW} {K : AV → AW → Prop} {n : Nd} {s : Sl} {v out : AV} {W bs bm bn bv : Nat} {ms : List Msg} {dr : Int} {L : Obs} {U U' : List Nat}
theorem clr_own (st : Ow A I w0 w L) (i : Nat) {b k : Nat} {cs : List AV} {z : AV} {x : Option AW} (hi : nth L i = some (b, .row cs)) (hl : cs.length = k) (hx : x = bif Nat.beq k 0 then some w else guardO true (w.putCells b 0 (repl k [z])))
    (hK : ∀ w', Ow A I w0 w' (stN L i (b, .row (List.replicate k z))) → Xt (ids L) w (ids L) w' → K Go.Sx.undef w') : onE (x.map fun w' => (Go.Sx.undef, w')) K := by
  subst hl; subst hx
  cases cs with
  | nil =>
    show K Go.Sx.undef w
    refine hK w ?_ Xt.refl
    rw [show (List.replicate ([] : List AV).length z) = [] from rfl, stN_self hi]; exact st
  | cons c cs =>
    have := st.put i (o := 0) (vs := repl (c :: cs).length [z]) hi (by rw [repl_rep]; simp) (K := fun w' => K Go.Sx.undef w') fun w' st' x' => by
      rw [repl_rep, listPut_full (by simp)] at st'
      exact hK w' st' x'
    show onE ((w.putCells b 0 (repl (c :: cs).length [z])).map _) K
    cases hp : w.putCells b 0 (repl (c :: cs).length [z]) with
    | none => rw [hp] at this; exact this
    | some w' => rw [hp] at this; exact this
def clearN (n : Nd) : Nd := { n with votes := List.replicate n.votes.length false,next := List.replicate n.next.length 0,mtch := List.replicate n.mtch.length 0,seen := List.replicate n.seen.length 0,round := 0,reads := [] }
set_option maxRecDepth 20000 in
theorem s86 (hh : HK hk) (wk : Wk T I w0 w W bs bm bn bv n s out ms dr L) (hK : ∀ w',Wk T I w0 w' W bs bm bn bv (clearN n) { s with reads := .nilslice } out ms dr L → Xt (W :: bs :: bm :: bn :: bv :: ids L) w (W :: bs :: bm :: bn :: bv :: ids L) w' → K (.tup []) w') : Cl Tryz.prog hk 86 [.ptr W 0] w K := by
 refine in86 (hh.no _ _ _ (by decide) (by decide)) ?_
 unfold F86
 obtain ⟨st,wr,we⟩ := wk
 simp only [onP]
 refine onM_s (v := s.votes) (st.ld 0 rfl rfl) ?_
 rw [we.votes]
 refine clr_own st 4 rfl (by simp) clr25 fun w1 st1 x1 => onM_s (v := s.next) (st1.ld 0 rfl rfl) ?_
 rw [we.next]
 refine clr_own st1 3 rfl (by simp) clr26 fun w2 st2 x2 => onM_s (v := s.mtch) (st2.ld 0 rfl rfl) ?_
 rw [we.mtch]
 refine clr_own st2 2 rfl (by simp) clr26 fun w3 st3 x3 => onM_s (v := s.seen) (st3.ld 0 rfl rfl) ?_
 rw [we.seen]
 refine clr_own st3 1 rfl (by simp) clr26 fun w4 st4 x4 => st4.put 0 rfl (Nat.le_of_ble_eq_true rfl) fun w5 st5 x5 => st5.put 0 rfl (Nat.le_of_ble_eq_true rfl) fun w6 st6 x6 => ?_
 have xx : Xt (W :: bs :: bm :: bn :: bv :: ids L) w (W :: bs :: bm :: bn :: bv :: ids L) w6 := ((((Xt.trans x1 x2).trans x3).trans x4).trans x5).trans x6
 have st6 : Ow T I w0 w6 (wkL W bs bm bn bv (clearN n) { s with reads := .nilslice } out dr L) := by
  have e1 : List.replicate n.seen.length (AV.int .i64 0) = (clearN n).seen.map (AV.int .i64) := by simp [clearN]
  have e2 : List.replicate n.mtch.length (AV.int .i64 0) = (clearN n).mtch.map (AV.int .i64) := by simp [clearN]
  have e3 : List.replicate n.next.length (AV.int .i64 0) = (clearN n).next.map (AV.int .i64) := by simp [clearN]
  have e4 : List.replicate n.votes.length (AV.bool false) = (clearN n).votes.map AV.bool := by simp [clearN]
  have := st6
  simp only [stN] at this
  rw [e1,e2,e3,e4] at this
  exact this
 have wr6 := wr.x xx
 exact hK w6 ⟨st6,⟨wr6.snap,wr6.log,Rp.rd.nil,wr6.out⟩,⟨by rw [show (clearN n).seen.length = n.seen.length by simp [clearN]]; exact we.seen,by rw [show (clearN n).mtch.length = n.mtch.length by simp [clearN]]; exact we.mtch,by rw [show (clearN n).next.length = n.next.length by simp [clearN]]; exact we.next,by rw [show (clearN n).votes.length = n.votes.length by simp [clearN]]; exact we.votes⟩⟩ xx
def followN (n : Nd) (t dr : Int) : Nd := clearN (if n.term < t then { n with role := 1,term := t,vote := 0,leads := 0,timeout := toF dr } else { n with role := 1 })
set_option maxRecDepth 20000 in
theorem s44 {t : Int} (hh : HK hk) (wk : Wk T I w0 w W bs bm bn bv n s out ms dr L) (hK : ∀ s' w',Wk T I w0 w' W bs bm bn bv (followN n t dr) s' out ms dr L → Xt (W :: bs :: bm :: bn :: bv :: ids L) w (W :: bs :: bm :: bn :: bv :: ids L) w' → K (.tup []) w') : Cl Tryz.prog hk 44 [.ptr W 0,.int .i64 t] w K := by
 refine in44 (hh.no _ _ _ (by decide) (by decide)) ?_
 unfold F44
 obtain ⟨st,wr,we⟩ := wk
 simp only [onP]
 refine st.put 0 rfl (Nat.le_of_ble_eq_true rfl) fun w4 st4 x4 => ?_
 have x4 : Xt (W :: bs :: bm :: bn :: bv :: ids L) w (W :: bs :: bm :: bn :: bv :: ids L) w4 := x4
 refine join_of (fun l w' => l = [] ∧ Xt (W :: bs :: bm :: bn :: bv :: ids L) w (W :: bs :: bm :: bn :: bv :: ids L) w' ∧ Wk T I w0 w' W bs bm bn bv (if n.term < t then { n with role := 1,term := t,vote := 0,leads := 0,timeout := toF dr } else { n with role := 1 }) s out ms dr L) ?_ fun J hJ => ?_
 ·rintro l w5 ⟨rfl,x5,wk5⟩
  exact ⟨rfl,fun _ => s86 hh wk5 fun w6 wk6 x6 => ⟨rfl,hK _ w6 wk6 (x5.trans x6)⟩⟩
 ·refine ⟨_,st4.ld 0 rfl rfl,ifT_d (fun hlt => ⟨_,st4.ld 0 rfl rfl,s71 hh ⟨_,rfl,st4.put 0 rfl (Nat.le_of_ble_eq_true rfl) fun w5 st5 x5 => st5.put 0 rfl (Nat.le_of_ble_eq_true rfl) fun w6 st6 x6 => st6.put 0 rfl (Nat.le_of_ble_eq_true rfl) fun w7 st7 x7 => st7.put 0 rfl (Nat.le_of_ble_eq_true rfl) fun w8 st8 x8 => hJ _ _ ⟨rfl,?_⟩⟩⟩) fun hge => hJ _ _ ⟨rfl,x4,?_⟩⟩
  ·have xx : Xt (W :: bs :: bm :: bn :: bv :: ids L) w (W :: bs :: bm :: bn :: bv :: ids L) w8 := (((x4.trans x5).trans x6).trans x7).trans x8
   have wr8 := wr.x xx
   rw [if_pos hlt]
   exact ⟨xx,⟨st8,⟨wr8.snap,wr8.log,wr8.reads,wr8.out⟩,⟨we.seen,we.mtch,we.next,we.votes⟩⟩⟩
  ·have wr4 := wr.x x4
   rw [if_neg hge]
   exact ⟨st4,⟨wr4.snap,wr4.log,wr4.reads,wr4.out⟩,⟨we.seen,we.mtch,we.next,we.votes⟩⟩
def cntT (l : List Bool) : Nat := (l.filter id).length
theorem cntT_le (l : List Bool) : cntT l ≤ l.length := List.length_filter_le _ _
theorem cntT_take {l : List Bool} {i : Nat} (h : i < l.length) : cntT (l.take (i + 1)) = cntT (l.take i) + (if l[i] = true then 1 else 0) := by
 unfold cntT
 rw [List.take_add_one,List.filter_append,List.length_append,List.getElem?_eq_getElem h]
 cases l[i] <;> rfl
def leadN (n : Nd) : Nd := { clearN n with role := 3,leads := n.id,elapsed := 0,next := List.replicate n.next.length (lastN n + 1) }
noncomputable def electedN (n : Nd) : Nd := if n.size < 2 * (cntT n.votes : Int) then putN (leadN n) [] else n
noncomputable def electedM (n : Nd) : List Msg := if n.size < 2 * (cntT n.votes : Int) then allTo (putN (leadN n) []) n.size.toNat else []
structure EC (n : Nd) : Prop where
 size : n.size ≤ 9
 id : 1 ≤ n.id ∧ n.id ≤ n.size
 base : 0 ≤ n.base ∧ n.base ≤ G40
 commit : 0 ≤ n.commit
 log : n.log.length < 2 ^ 29
 data : ∀ e ∈ n.log,e.2.length ≤ 60000
 snap : n.snap.length ≤ 60000
 ln : Ln n
theorem EC.pc (h : EC n) : PC (leadN n) := by
 obtain ⟨h1,h2,h3,h4,h5,h6,h7,⟨l1,l2,l3,l4⟩⟩ := h
 have hlast : lastN n = n.base + n.log.length := rfl
 refine ⟨h1,h2,h3,h4,h5,h6,h7,by simp [leadN]; exact l2,by simp [leadN,clearN]; exact l3,fun x hx => ?_,fun x hx => ?_⟩
 ·have := List.eq_of_mem_replicate (show x ∈ List.replicate n.next.length (lastN n + 1) from hx)
  show 1 ≤ x ∧ x ≤ lastN n + 1
  omega
 ·have := List.eq_of_mem_replicate (show x ∈ List.replicate n.mtch.length (0 : Int) from hx)
  show 0 ≤ x ∧ x ≤ lastN n
  omega
set_option maxRecDepth 20000 in
theorem s93 (hh : HK hk) (wk : Wk T I w0 w W bs bm bn bv n s out ms dr L) (ec : EC n) (hms : ms.length < 2 ^ 18)
    (hK : ∀ s' out' w', Wk T I w0 w' W bs bm bn bv (electedN n) s' out' (ms ++ electedM n) dr L → Xt (W :: bs :: bm :: bn :: bv :: ids L) w (W :: bs :: bm :: bn :: bv :: ids L) w' → K (.bool (decide (n.size < 2 * (cntT n.votes : Int)))) w') : Cl Tryz.prog hk 93 [.ptr W 0] w K := by
  refine in93 (hh.no _ _ _ (by decide) (by decide)) ?_
  unfold F93
  obtain ⟨c1, c2, c3, c4, c5, c6, c7, ⟨l1, l2, l3, l4⟩⟩ := id ec
  have c32 := c3.2
  unfold G40 at c32
  have hlast : lastN n = n.base + n.log.length := rfl
  simp only [onP]
  have hv := wk.nr.votes
  refine onM_s (v := s.votes) (wk.st.ld 0 rfl rfl) ⟨_, hv.len', ?_⟩
  refine loopP_ind (fun m lv w5 => ∃ i : Nat, w = w5 ∧ i ≤ n.votes.length ∧ m = n.votes.length - i ∧ lv = [.int .i64 (cntT (n.votes.take i) : Nat), .int .i64 i]) ?_ ⟨0, rfl, Nat.zero_le _, rfl, rfl⟩
  rintro m lv w5 ⟨i, rfl, hi, rfl, rfl⟩ R ih
  refine ⟨_, _, rfl, fun _ => ifT_d (fun hc => ?_) fun hc => ?_⟩
  · have hil : i < n.votes.length := by omega
    have hcl := cntT_le (n.votes.take i)
    rw [List.length_take] at hcl
    refine hv.at1 rfl hil fun b o a ha ho => ?_
    have ha : [a] = [AV.bool n.votes[i]] := ha
    cases ha
    have ht := cntT_take hil
    refine ⟨_, ho, ?_⟩
    cases e : n.votes[i] with
    | true =>
      rw [if_pos e] at ht
      refine ifT_t (ih (n.votes.length - (i + 1)) (by omega) _ _ ⟨i + 1, rfl, hil, rfl, ?_⟩)
      rw [wi_eq (by omega) (by omega), wi_eq (by omega) (by omega), ht]; rfl
    | false =>
      rw [if_neg (by rw [e]; decide)] at ht
      refine ifT_f (ih (n.votes.length - (i + 1)) (by omega) _ _ ⟨i + 1, rfl, hil, rfl, ?_⟩)
      rw [wi_eq (by omega) (by omega), ht]; rfl
  · have ei : i = n.votes.length := by omega
    subst ei
    rw [List.take_length]
    have hle := cntT_le n.votes
    obtain ⟨sz, hsz⟩ : ∃ sz : Nat, n.size = sz := Int.eq_ofNat_of_zero_le (by omega)
    refine ⟨_, wk.st.ld 0 rfl rfl, ?_⟩
    rw [hsz]
    refine s108 hh (by omega) (by omega) ⟨_, rfl, ?_⟩
    have ed : decide (sz < 2 * cntT n.votes) = decide (n.size < 2 * (cntT n.votes : Int)) := by rw [decide_eq_decide]; omega
    rw [ed]
    by_cases hm : n.size < 2 * (cntT n.votes : Int)
    · rw [decide_eq_true hm]
      refine ifT_f (s86 hh wk fun w6 wk6 x6 => ⟨rfl, ?_⟩)
      obtain ⟨st6, wr6, we6⟩ := id wk6
      refine ⟨_, st6.ld 0 rfl rfl, st6.put 0 rfl (Nat.le_of_ble_eq_true rfl) fun w7 st7 x7 => st7.put 0 rfl (Nat.le_of_ble_eq_true rfl) fun w8 st8 x8 => st8.put 0 rfl (Nat.le_of_ble_eq_true rfl) fun w9 st9 x9 => ?_⟩
      have x69 : Xt (W :: bs :: bm :: bn :: bv :: ids L) w6 (W :: bs :: bm :: bn :: bv :: ids L) w9 := Xt.trans (Xt.trans x7 x8) x9
      have wr9 := wr6.x x69
      have wk9 : Wk T I w0 w9 W bs bm bn bv { clearN n with role := 3, leads := n.id, elapsed := 0 } { s with reads := .nilslice } out ms dr L := ⟨st9, ⟨wr9.snap, wr9.log, wr9.reads, wr9.out⟩, ⟨we6.seen, we6.mtch, we6.next, we6.votes⟩⟩
      refine onM_s (v := s.next) (st9.ld 0 rfl rfl) ⟨_, wk9.nr.next.len', ?_⟩
      have hnl : ({ clearN n with role := 3, leads := n.id, elapsed := 0 } : Nd).next.length = n.next.length := by simp [clearN]
      rw [hnl]
      refine loopP_ind (fun m lv w5 => ∃ i : Nat, i ≤ n.next.length ∧ m = n.next.length - i ∧ lv = [.int .i64 i] ∧ Wk T I w0 w5 W bs bm bn bv { clearN n with role := 3, leads := n.id, elapsed := 0, next := List.replicate i (lastN n + 1) ++ List.replicate (n.next.length - i) 0 } { s with reads := .nilslice } out ms dr L ∧ Xt (W :: bs :: bm :: bn :: bv :: ids L) w (W :: bs :: bm :: bn :: bv :: ids L) w5) ?_ ⟨0, Nat.zero_le _, rfl, rfl, wk9, x6.trans x69⟩
      rintro m lv w10 ⟨i, hi, rfl, rfl, wk10, x10⟩ R ih
      refine ⟨_, rfl, fun _ => ifT_d (fun hc => ?_) fun hc => ?_⟩
      · have hil : i < n.next.length := by omega
        refine onM_s (v := s.next) (wk10.st.ld 0 rfl rfl) ⟨_, _, _, _, _, _, _, _, _, _, _, _, _, _, _, _, _, _, _, wk10.st.ldN 0 rfl rfl rfl, ?_⟩
        refine s36 hh wk10.st.mem wk10.nr c3.1 (by show n.base < _; omega) (by show n.log.length < _; omega) fun w11 f11 => ⟨_, rfl, ?_⟩
        obtain ⟨st11, x11⟩ := wk10.st.call f11
        refine ⟨st11.ld 0 rfl rfl, ?_⟩
        have enx := wk10.we.next
        have hll : (List.replicate i (lastN n + 1) ++ List.replicate (n.next.length - i) (0 : Int)).length = n.next.length := by simp; omega
        simp only [hll] at enx
        rw [enx]
        have el : lastN { clearN n with role := 3, leads := n.id, elapsed := 0, next := List.replicate i (lastN n + 1) ++ List.replicate (n.next.length - i) 0 } = lastN n := rfl
        rw [el, wi_eq (x := lastN n + 1) (by omega) (by omega)]
        refine idx0 hil (st11.put 3 rfl (by simp; omega) fun w12 st12 x12 => ih (n.next.length - (i + 1)) (by omega) _ _ ⟨i + 1, hil, rfl, by rw [wi_eq (by omega) (by omega)]; rfl, ?_, x10.trans (Xt.trans x11 x12)⟩)
        have wr12 := wk10.wr.x (Xt.trans x11 x12)
        have en : (List.replicate i (lastN n + 1) ++ List.replicate (n.next.length - i) (0 : Int)).set i (lastN n + 1) = List.replicate (i + 1) (lastN n + 1) ++ List.replicate (n.next.length - (i + 1)) 0 := by
          rw [List.set_append_right _ _ (by simp), show n.next.length - i = (n.next.length - (i + 1)) + 1 by omega, List.replicate_succ, List.length_replicate, Nat.sub_self, List.set_cons_zero, List.replicate_succ', List.append_assoc]; rfl
        have st12' := st12
        simp only [stN] at st12'
        rw [put_set (by rw [hll]; exact hil), en] at st12'
        refine ⟨st12', ⟨wr12.snap, wr12.log, wr12.reads, wr12.out⟩, ⟨wk10.we.seen, wk10.we.mtch, ?_, wk10.we.votes⟩⟩
        have : (List.replicate (i + 1) (lastN n + 1) ++ List.replicate (n.next.length - (i + 1)) (0 : Int)).length = n.next.length := by simp; omega
        simp only [this]; exact enx
      · have ei : i = n.next.length := by omega
        subst ei
        rw [Nat.sub_self, List.replicate_zero, List.append_nil] at wk10
        refine s52 (A := TA) hh wk10 ec.pc Rp.rd.nil (by simp) hms fun s' out' w12 wk12 x12 => ⟨rfl, ?_⟩
        have := hK s' out' w12 (by unfold electedN electedM; rw [if_pos hm, if_pos hm]; exact wk12) (x10.trans x12)
        rw [decide_eq_true hm] at this; exact this
    · rw [decide_eq_false hm]
      have := hK s out w (by unfold electedN electedM; rw [if_neg hm, if_neg hm, List.append_nil]; exact wk) Xt.refl
      rw [decide_eq_false hm] at this
      exact ifT_t this
end
end Go.Proofs.YtghoifolghelnaaGreat
/-
 A node at work stands for election; Tick.
 No condition beyond those that each theorem names.
-/
set_option linter.unusedSimpArgs false
open Go.Sx
set_option linter.unusedVariables false
set_option linter.unusedSimpArgs false
namespace Go.Proofs.YtghoifolghelnaaGreat
section
variable {hk : Hook} {T A A' B : Nat → Prop} {I : List Nat} {w0 w w' : AW} {K : AV → AW → Prop} {n : Nd} {s : Sl} {v out : AV} {W bs bm bn bv : Nat} {ms : List Msg} {dr : Int} {L : Obs} {U U' : List Nat}
theorem wk_new (wk : Wk T I w0 w W bs bm bn bv n s out ms dr L) {cs : List AV} {K : Nat → AW → Prop} (hK : ∀ b w',Wk T I w0 w' W bs bm bn bv n s out ms dr ((b,.row cs) :: L) → Xt (W :: bs :: bm :: bn :: bv :: ids L) w (W :: bs :: bm :: bn :: bv :: b :: ids L) w' → K b w') : Sx.new w cs K :=
 wk.st.new' fun b w' st x => by
  obtain ⟨st2,x2⟩ := st.perm (L' := wkL W bs bm bn bv n s out dr ((b,.row cs) :: L)) (List.perm_middle (a := (b,Ob.row cs)) (l₁ := [_,_,_,_,_]) (l₂ := L)).symm
  have x3 : Xt (W :: bs :: bm :: bn :: bv :: ids L) w (W :: bs :: bm :: bn :: bv :: b :: ids L) w' := x.trans x2
  exact hK b w' ⟨st2,wk.wr.x x3,wk.we⟩ x3
theorem wk_drop {b : Nat} {cs : List AV} (wk : Wk T I w0 w W bs bm bn bv n s out ms dr ((b,.row cs) :: L)) : Wk T I w0 w W bs bm bn bv n s out ms dr L ∧ Xt (W :: bs :: bm :: bn :: bv :: b :: ids L) w (W :: bs :: bm :: bn :: bv :: ids L) w := by
 obtain ⟨st1,x1⟩ := wk.st.perm (L' := (b,.row cs) :: wkL W bs bm bn bv n s out dr L) (List.perm_middle (a := (b,Ob.row cs)) (l₁ := [_,_,_,_,_]) (l₂ := L))
 obtain ⟨st2,x2,_⟩ := st1.drop
 have x3 : Xt (W :: bs :: bm :: bn :: bv :: b :: ids L) w (W :: bs :: bm :: bn :: bv :: ids L) w := x1.trans x2
 exact ⟨⟨st2,wk.wr.x x3,wk.we⟩,x3⟩
theorem wk_wr {b o : Nat} {cs vs : List AV} (wk : Wk T I w0 w W bs bm bn bv n s out ms dr ((b,.row cs) :: L)) (hl : o + vs.length ≤ cs.length) {K : AW → Prop} (hK : ∀ w',Wk T I w0 w' W bs bm bn bv n s out ms dr ((b,.row (listPut cs o vs)) :: L) → Xt (W :: bs :: bm :: bn :: bv :: b :: ids L) w (W :: bs :: bm :: bn :: bv :: b :: ids L) w' → K w') : onM (w.putCells b o vs) K :=
 wk.st.put 5 rfl hl fun w' st x => hK w' ⟨st,wk.wr.x x,wk.we⟩ x
theorem wk_fld {o : Nat} {u : AV} {n' : Nd} (wk : Wk T I w0 w W bs bm bn bv n s out ms dr L) (hl : Nat.ble (o + 1) 21 = true) (he : listPut [.int .i64 n.id,.int .i64 n.size,.int .u8 n.role,.int .i64 n.term,.int .i64 n.vote,.int .i64 n.leads,.int .i64 n.base,.int .i64 n.bt,s.snap,s.log,.int .i64 n.commit,s.votes,s.next,s.mtch,s.seen,.int .i64 n.round,.int .i64 n.elapsed,.int .i64 n.timeout,s.reads,out,.int .i64 dr] o [u] = [.int .i64 n'.id,.int .i64 n'.size,.int .u8 n'.role,.int .i64 n'.term,.int .i64 n'.vote,.int .i64 n'.leads,.int .i64 n'.base,.int .i64 n'.bt,s.snap,s.log,.int .i64 n'.commit,s.votes,s.next,s.mtch,s.seen,.int .i64 n'.round,.int .i64 n'.elapsed,.int .i64 n'.timeout,s.reads,out,.int .i64 dr])
  (e : n'.seen = n.seen ∧ n'.mtch = n.mtch ∧ n'.next = n.next ∧ n'.votes = n.votes ∧ n'.snap = n.snap ∧ n'.log = n.log ∧ n'.reads = n.reads)
  {K : AW → Prop} (hK : ∀ w',Wk T I w0 w' W bs bm bn bv n' s out ms dr L → Xt (W :: bs :: bm :: bn :: bv :: ids L) w (W :: bs :: bm :: bn :: bv :: ids L) w' → K w') : onM (w.putCells W o [u]) K := by
 obtain ⟨e1,e2,e3,e4,e5,e6,e7⟩ := e
 refine wk.st.put 0 rfl (Nat.le_of_ble_eq_true hl) fun w' st x => ?_
 have st : Ow T I w0 w' (wkL W bs bm bn bv n' s out dr L) := by
  unfold wkL
  rw [← he,e1,e2,e3,e4]
  exact st
 have wr := wk.wr.x x
 exact hK w' ⟨st,⟨by rw [e5]; exact wr.snap,by rw [e6]; exact wr.log,by rw [e7]; exact wr.reads,wr.out⟩,⟨by rw [e1]; exact wk.we.seen,by rw [e2]; exact wk.we.mtch,by rw [e3]; exact wk.we.next,by rw [e4]; exact wk.we.votes⟩⟩ x
def othM (id : Int) (f : Nat → Msg) : Nat → List Msg
 | 0 => []
 | k + 1 => othM id f k ++ (if ((k + 1 : Nat) : Int) = id then [] else [f (k + 1)])
theorem othM_len (id : Int) (f : Nat → Msg) : ∀ k, (othM id f k).length ≤ k
  | 0 => Nat.le_refl _
  | k + 1 => by
    have := othM_len id f k
    unfold othM
    rw [List.length_append]
    split <;> simp <;> omega
theorem s49g {dv : AV} {f : Nat → Msg} (hh : HK hk) (wk : Wk T I w0 w W bs bm bn bv n s out ms dr L) (hsz : n.size ≤ 9) (hl : ms.length < 2 ^ 19)
  (hd : ∀ (to : Nat) (out1 : AV) (ms1 : List Msg) (w1 : AW) (G : AV → AW → Prop),Wk T I w0 w1 W bs bm bn bv n s out1 ms1 dr L → 1 ≤ to → (to : Int) ≤ n.size → ms1.length < 2 ^ 20 → (∀ out2 w2,Wk T I w0 w2 W bs bm bn bv n s out2 (ms1 ++ [f to]) dr L → Xt (W :: bs :: bm :: bn :: bv :: ids L) w1 (W :: bs :: bm :: bn :: bv :: ids L) w2 → G (.tup []) w2) → Cv Tryz.prog hk dv [.int .i64 (to : Int)] w1 G)
  (hK : ∀ out' w',Wk T I w0 w' W bs bm bn bv n s out' (ms ++ othM n.id f n.size.toNat) dr L → Xt (W :: bs :: bm :: bn :: bv :: ids L) w (W :: bs :: bm :: bn :: bv :: ids L) w' → K (.tup []) w') : Cl Tryz.prog hk 49 [.ptr W 0,dv] w K := by
 refine in49 (hh.no _ _ _ (by decide) (by decide)) ?_
 unfold F49
 refine loopP_ind (fun m lv w4 => ∃ (k : Nat) (out' : AV),m = n.size.toNat - k ∧ k ≤ n.size.toNat ∧ lv = [.int .i64 ((k + 1 : Nat) : Int)] ∧ Wk T I w0 w4 W bs bm bn bv n s out' (ms ++ othM n.id f k) dr L ∧ Xt (W :: bs :: bm :: bn :: bv :: ids L) w (W :: bs :: bm :: bn :: bv :: ids L) w4) ?_ ⟨0,out,rfl,Nat.zero_le _,rfl,by rw [othM,List.append_nil]; exact wk,Xt.refl⟩
 rintro m lv w4 ⟨k,out',rfl,hk',rfl,wk4,x4⟩ R ih
 refine ⟨_,rfl,fun _ => ?_⟩
 simp only [onP]
 have hol := othM_len n.id f k
 refine ⟨_,wk4.st.ld 0 rfl rfl,ifT_d (fun hc => ?_) fun hc => hK _ _ (by rw [show n.size.toNat = k by omega]; exact wk4) x4⟩
 refine ⟨_,wk4.st.ld 0 rfl rfl,?_⟩
 rw [wi_eq (by omega) (by omega)]
 refine ifT_nd (fun hid => hd (k + 1) out' _ w4 _ wk4 (by omega) hc (by rw [List.length_append]; omega) fun out2 w5 wk5 x5 => ⟨rfl,ih (n.size.toNat - (k + 1)) (by omega) _ _ ⟨k + 1,out2,rfl,by omega,rfl,?_,x4.trans x5⟩⟩) fun hid => ih (n.size.toNat - (k + 1)) (by omega) _ _ ⟨k + 1,out',rfl,by omega,rfl,?_,x4⟩
 ·rw [othM,if_neg hid,← List.append_assoc]; exact wk5
 ·rw [othM,if_pos hid,List.append_nil]; exact wk4
set_option maxRecDepth 20000 in
theorem s94 {b1 b6 b3 : Nat} {t : Int} {to : Int} (hh : HK hk) (wk : Wk T I w0 w W bs bm bn bv n s out ms dr ((b3,.row [.int .i64 t]) :: (b6,.row [.ptr W 0]) :: (b1,.row [.ptr W 0]) :: L)) (hb : 0 ≤ n.base) (hb2 : n.base < 2 ^ 41) (hs : n.log.length < 2 ^ 40) (hl : ms.length < 2 ^ 20)
  (hK : ∀ out2 w2,Wk T I w0 w2 W bs bm bn bv n s out2 (ms ++ [⟨[],1,n.id,to,n.term,lastN n,t,0,0,false,[],[]⟩]) dr ((b3,.row [.int .i64 t]) :: (b6,.row [.ptr W 0]) :: (b1,.row [.ptr W 0]) :: L) → Xt (W :: bs :: bm :: bn :: bv :: b3 :: b6 :: b1 :: ids L) w (W :: bs :: bm :: bn :: bv :: b3 :: b6 :: b1 :: ids L) w2 → K (.tup []) w2) : Cl Tryz.prog hk 94 [.int .i64 to,.ptr b1 0,.ptr b6 0,.ptr b3 0] w K := by
 refine in94 (hh.no _ _ _ (by decide) (by decide)) ?_
 unfold F94
 simp only [onP]
 refine onM_s (v := .ptr W 0) (wk.st.ld 7 rfl rfl) (onM_s (v := .ptr W 0) (wk.st.ld 6 rfl rfl) ?_)
 simp only [onP]
 refine ⟨_,_,_,_,_,_,_,_,_,_,_,_,_,_,_,_,_,_,_,wk.st.ldN 0 rfl rfl rfl,_,wk.st.ld 5 rfl rfl,?_⟩
 refine s36 hh wk.st.mem wk.nr hb hb2 hs fun w1 f1 => ⟨_,rfl,?_⟩
 obtain ⟨st1,x1⟩ := wk.st.call f1
 have wk1 : Wk T I w0 w1 W bs bm bn bv n s out ms dr ((b3,.row [.int .i64 t]) :: (b6,.row [.ptr W 0]) :: (b1,.row [.ptr W 0]) :: L) := ⟨st1,wk.wr.x x1,wk.we⟩
 refine ⟨st1.ld 5 rfl rfl,st1.ld 7 rfl rfl,?_⟩
 exact s92 (m := ⟨[],1,0,0,0,lastN n,t,0,0,false,[],[]⟩) hh wk1 Rp.rd.nil Rp.rd.nil hl fun out' w2 wk2 x2 => ⟨rfl,hK out' w2 wk2 (Xt.trans x1 x2)⟩
def standN (n : Nd) (dr : Int) : Nd := { clearN n with role := 2,leads := 0,vote := n.id,timeout := toF dr,term := n.term + 1,elapsed := 0,votes := (List.replicate n.votes.length false).set (n.id - 1).toNat true }
noncomputable def standsN (n : Nd) (dr : Int) : Nd := if n.term = G40 then { n with elapsed := 0 } else electedN (standN n dr)
def lastT (n : Nd) : Int := (termAt n.base n.bt (n.log.map (·.1)) (lastN n)).1
def askN (n : Nd) (to : Nat) : Msg := ⟨[],1,n.id,to,n.term,lastN n,lastT n,0,0,false,[],[]⟩
noncomputable def standsM (n : Nd) (dr : Int) : List Msg := if n.term = G40 then [] else if (standN n dr).size < 2 * (cntT (standN n dr).votes : Int) then electedM (standN n dr) else othM n.id (askN (standN n dr)) n.size.toNat
theorem EC.stand (h : EC n) : EC (standN n dr) := by
 obtain ⟨h1,h2,h3,h4,h5,h6,h7,⟨l1,l2,l3,l4⟩⟩ := h
 exact ⟨h1,h2,h3,h4,h5,h6,h7,⟨by simp [standN]; exact l1,by simp [standN,clearN]; exact l2,by simp [standN,clearN]; exact l3,by simp [standN,clearN]; exact l4⟩⟩
set_option maxRecDepth 20000 in
theorem s51 (hh : HK hk) (wk : Wk T I w0 w W bs bm bn bv n s out ms dr L) (ec : EC n) (ht : 0 ≤ n.term ∧ n.term ≤ G40) (hms : ms.length < 2 ^ 17)
  (hK : ∀ s' out' w',Wk T I w0 w' W bs bm bn bv (standsN n dr) s' out' (ms ++ standsM n dr) dr L → Xt (W :: bs :: bm :: bn :: bv :: ids L) w (W :: bs :: bm :: bn :: bv :: ids L) w' → K (.tup []) w') : Cl Tryz.prog hk 51 [.ptr W 0] w K := by
 refine in51 (hh.no _ _ _ (by decide) (by decide)) ?_
 unfold F51
 have ht2 := ht.2
 unfold G40 at ht2
 refine gd_t rfl (wk_new wk fun b1 w2 wk2 x2 => onM_s (v := .ptr W 0) (wk2.st.ld 5 rfl rfl) ?_)
 simp only [onP]
 refine wk_new wk2 fun b6 w7 wk7 x7 => wk_wr wk7 (Nat.le_of_ble_eq_true rfl) fun w8 wk8 x8 => ?_
 have wk8 : Wk T I w0 w8 W bs bm bn bv n s out ms dr ((b6,.row [.ptr W 0]) :: (b1,.row [.ptr W 0]) :: L) := wk8
 refine onM_s (v := .ptr W 0) (wk8.st.ld 5 rfl rfl) ?_
 simp only [onP]
 refine wk_fld (n' := { n with elapsed := 0 }) wk8 rfl rfl ⟨rfl,rfl,rfl,rfl,rfl,rfl,rfl⟩ fun w12 wk12 x12 => onM_s (v := .ptr W 0) (wk12.st.ld 5 rfl rfl) ?_
 simp only [onP]
 have x012 : Xt (W :: bs :: bm :: bn :: bv :: ids L) w (W :: bs :: bm :: bn :: bv :: b6 :: b1 :: ids L) w12 := ((x2.trans x7).trans x8).trans x12
 have fin : ∀ {n' : Nd} {s' : Sl} {out' : AV} {ms' : List Msg} {w' : AW},Wk T I w0 w' W bs bm bn bv n' s' out' ms' dr ((b6,.row [.ptr W 0]) :: (b1,.row [.ptr W 0]) :: L) → Xt (W :: bs :: bm :: bn :: bv :: ids L) w (W :: bs :: bm :: bn :: bv :: b6 :: b1 :: ids L) w' → Wk T I w0 w' W bs bm bn bv n' s' out' ms' dr L ∧ Xt (W :: bs :: bm :: bn :: bv :: ids L) w (W :: bs :: bm :: bn :: bv :: ids L) w' := fun wk' x' => by
  obtain ⟨wa,xa⟩ := wk_drop wk'
  obtain ⟨wb,xb⟩ := wk_drop wa
  exact ⟨wb,x'.trans (Xt.trans xa xb)⟩
 refine ⟨_,wk12.st.ld 0 rfl rfl,ifT_d (fun hg => ?_) fun hg => ?_⟩
 ·obtain ⟨wa,xa⟩ := fin wk12 x012
  exact hK s out w12 (by unfold standsN standsM; rw [if_pos hg,if_pos hg,List.append_nil]; exact wa) xa
 refine onM_s (v := .ptr W 0) (wk12.st.ld 6 rfl rfl) (s86 hh wk12 fun w19 wk19 x19 => ⟨rfl,?_⟩)
 refine onM_s (v := .ptr W 0) (wk19.st.ld 5 rfl rfl) (onM_s (v := .ptr W 0) (wk19.st.ld 5 rfl rfl) (onM_s (v := .ptr W 0) (wk19.st.ld 5 rfl rfl) (onM_s (v := .ptr W 0) (wk19.st.ld 5 rfl rfl) (onM_s (v := .ptr W 0) (wk19.st.ld 5 rfl rfl) ?_))))
 simp only [onP]
 refine ⟨_,wk19.st.ld 0 rfl rfl,onM_s (v := .ptr W 0) (wk19.st.ld 6 rfl rfl) ?_⟩
 simp only [onP]
 refine ⟨_,wk19.st.ld 0 rfl rfl,s71 hh ⟨_,rfl,wk19.st.ld 0 rfl rfl,wk19.st.ld 5 rfl rfl,wk19.st.ld 5 rfl rfl,wk19.st.ld 5 rfl rfl,wk19.st.ld 5 rfl rfl,wk19.st.ld 5 rfl rfl,?_⟩⟩
 refine wk_fld (n' := { clearN { n with elapsed := 0 } with role := 2 }) wk19 rfl rfl ⟨rfl,rfl,rfl,rfl,rfl,rfl,rfl⟩ fun w37 wk37 x37 => ⟨wk37.st.ld 5 rfl rfl,wk37.st.ld 5 rfl rfl,wk37.st.ld 5 rfl rfl,?_⟩
 refine wk_fld (n' := { clearN { n with elapsed := 0 } with role := 2,leads := 0 }) wk37 rfl rfl ⟨rfl,rfl,rfl,rfl,rfl,rfl,rfl⟩ fun w40 wk40 x40 => ⟨wk40.st.ld 5 rfl rfl,wk40.st.ld 5 rfl rfl,?_⟩
 refine wk_fld (n' := { clearN { n with elapsed := 0 } with role := 2,leads := 0,vote := n.id }) wk40 rfl rfl ⟨rfl,rfl,rfl,rfl,rfl,rfl,rfl⟩ fun w43 wk43 x43 => ⟨wk43.st.ld 5 rfl rfl,?_⟩
 refine wk_fld (n' := { clearN { n with elapsed := 0 } with role := 2,leads := 0,vote := n.id,timeout := toF dr }) wk43 rfl rfl ⟨rfl,rfl,rfl,rfl,rfl,rfl,rfl⟩ fun w46 wk46 x46 => onM_s (v := .ptr W 0) (wk46.st.ld 5 rfl rfl) ?_
 simp only [onP]
 refine ⟨n.term,wk46.st.ld 0 rfl rfl,?_⟩
 rw [wi_eq (x := n.term + 1) (by omega) (by omega)]
 refine wk_fld (n' := { clearN { n with elapsed := 0 } with role := 2,leads := 0,vote := n.id,timeout := toF dr,term := n.term + 1 }) wk46 rfl rfl ⟨rfl,rfl,rfl,rfl,rfl,rfl,rfl⟩ fun w53 wk53 x53 => onM_s (v := .ptr W 0) (wk53.st.ld 5 rfl rfl) ?_
 simp only [onP]
 refine onM_s (v := s.votes) (wk53.st.ld 0 rfl rfl) (onM_s (v := .ptr W 0) (wk53.st.ld 5 rfl rfl) ?_)
 simp only [onP]
 refine ⟨n.id,wk53.st.ld 0 rfl rfl,?_⟩
 have hid := ec.id
 have hsz := ec.size
 have hvl := ec.ln.votes
 have evv := wk53.we.votes
 have evl : (clearN { n with elapsed := 0 }).votes.length = n.votes.length := by simp [clearN]
 obtain ⟨k,hkk⟩ : ∃ k : Nat,n.id - 1 = (k : Int) := Int.eq_ofNat_of_zero_le (by omega)
 have ek : k = (n.id - 1).toNat := by omega
 simp only [evl] at evv
 rw [evv,wi_eq (x := n.id - 1) (by omega) (by omega),hkk]
 refine idx0 (by omega) (wk53.st.put 4 rfl (by rw [List.length_map]; simp [clearN]; omega) fun w64 st64 x64 => ?_)
 have wr64 := wk53.wr.x x64
 have st64 := st64
 simp only [stN] at st64
 rw [put_set (by rw [evl]; omega)] at st64
 have wk64 : Wk T I w0 w64 W bs bm bn bv (standN n dr) { s with reads := .nilslice } out ms dr ((b6,.row [.ptr W 0]) :: (b1,.row [.ptr W 0]) :: L) := by
  subst ek
  refine ⟨st64,⟨wr64.snap,wr64.log,wr64.reads,wr64.out⟩,⟨wk53.we.seen,wk53.we.mtch,wk53.we.next,?_⟩⟩
  have : (standN n dr).votes.length = n.votes.length := by simp [standN]
  rw [this]; exact evv
 have x064 : Xt (W :: bs :: bm :: bn :: bv :: ids L) w (W :: bs :: bm :: bn :: bv :: b6 :: b1 :: ids L) w64 := (((((((x012.trans x19).trans x37).trans x40).trans x43).trans x46).trans x53).trans x64)
 refine onM_s (v := .ptr W 0) (wk64.st.ld 6 rfl rfl) (s93 hh wk64 ec.stand (by omega) fun s2 out2 w67 wk67 x67 => ⟨_,rfl,ifT_d (fun hy => ?_) fun hy => ?_⟩)
 ·obtain ⟨wa,xa⟩ := fin wk67 (x064.trans x67)
  exact hK s2 out2 w67 (by unfold standsN standsM; rw [if_neg hg,if_neg hg,if_pos hy]; exact wa) xa
 have en : electedN (standN n dr) = standN n dr := by unfold electedN; rw [if_neg hy]
 have em : electedM (standN n dr) = [] := by unfold electedM; rw [if_neg hy]
 rw [en,em,List.append_nil] at wk67
 have c3 := ec.base
 have c32 := c3.2
 unfold G40 at c32
 refine onM_s (v := .ptr W 0) (wk67.st.ld 5 rfl rfl) ?_
 simp only [onP]
 refine ⟨_,_,_,_,_,_,_,_,_,_,_,_,_,_,_,_,_,_,_,wk67.st.ldN 0 rfl rfl rfl,onM_s (v := .ptr W 0) (wk67.st.ld 5 rfl rfl) ?_⟩
 simp only [onP]
 refine ⟨_,_,_,_,_,_,_,_,_,_,_,_,_,_,_,_,_,_,_,wk67.st.ldN 0 rfl rfl rfl,wk_new wk67 fun b3 w114 wk114 x114 => ⟨wk114.st.ldN 0 rfl rfl rfl,wk114.st.ld 6 rfl rfl,wk114.st.ldN 0 rfl rfl rfl,wk114.st.ld 6 rfl rfl,?_⟩⟩
 refine s36 hh wk114.st.mem wk114.nr c3.1 (by show n.base < _; omega) (by have := ec.log; show n.log.length < _; omega) fun w116 f116 => ⟨_,rfl,?_⟩
 obtain ⟨st116,x116⟩ := wk114.st.call f116
 have wk116 : Wk T I w0 w116 W bs bm bn bv (standN n dr) s2 out2 ms dr ((b3,.row [.int .i64 0]) :: (b6,.row [.ptr W 0]) :: (b1,.row [.ptr W 0]) :: L) := ⟨st116,wk114.wr.x x116,wk114.we⟩
 refine ⟨st116.ldN 0 rfl rfl rfl,st116.ld 6 rfl rfl,s53 hh st116.mem wk116.nr c3.1 (by show n.base < _; omega) (by have := ec.log; show n.log.length < _; omega) fun w119 f119 => ⟨_,_,rfl,?_⟩⟩
 obtain ⟨st119,x119⟩ := st116.call f119
 have wk119 : Wk T I w0 w119 W bs bm bn bv (standN n dr) s2 out2 ms dr ((b3,.row [.int .i64 0]) :: (b6,.row [.ptr W 0]) :: (b1,.row [.ptr W 0]) :: L) := ⟨st119,wk116.wr.x x119,wk116.we⟩
 refine wk_wr wk119 (Nat.le_of_ble_eq_true rfl) fun w122 wk122 x122 => onM_s (v := .ptr W 0) (wk122.st.ld 7 rfl rfl) ?_
 refine s49g (f := askN (standN n dr)) hh wk122 (by show n.size ≤ 9; exact hsz) (by omega) (fun to out1 ms1 w1 G wk1 h1 h2 hl1 hG => ?_) fun out3 w125 wk125 x125 => ⟨rfl,?_⟩
 ·show Cl Tryz.prog hk 94 [.int .i64 (to : Int),.ptr b1 0,.ptr b6 0,.ptr b3 0] w1 G
  exact s94 hh wk1 c3.1 (by show n.base < _; omega) (by have := ec.log; show n.log.length < _; omega) hl1 fun out4 w2 wk2 x2 => hG out4 w2 wk2 x2
 ·obtain ⟨wd,xd⟩ := wk_drop wk125
  have xx : Xt (W :: bs :: bm :: bn :: bv :: ids L) w (W :: bs :: bm :: bn :: bv :: b6 :: b1 :: ids L) w125 := ((((((x064.trans x67).trans x114).trans x116).trans x119).trans x122).trans x125).trans xd
  obtain ⟨wa,xa⟩ := fin wd xx
  exact hK s2 out3 w125 (by unfold standsN standsM; rw [if_neg hg,en,if_neg hg,if_neg hy]; exact wa) xa
noncomputable def tickN (n : Nd) (dr : Int) : Nd :=
 if n.role = 3 then (if 2 ≤ n.elapsed + 1 then { n with elapsed := 0 } else { n with elapsed := n.elapsed + 1 })
 else (if n.timeout ≤ n.elapsed + 1 then standsN { n with elapsed := n.elapsed + 1 } dr else { n with elapsed := n.elapsed + 1 })
noncomputable def tickM (n : Nd) (dr : Int) : List Msg :=
 if n.role = 3 then (if 2 ≤ n.elapsed + 1 then allTo { n with elapsed := 0 } n.size.toNat else [])
 else (if n.timeout ≤ n.elapsed + 1 then standsM { n with elapsed := n.elapsed + 1 } dr else [])
def TicR (T : Nat → Prop) (n : Nd) (dr : Int) (w : AW) (r : AV) : Prop := (¬ RightN n ∧ r = .tup [.agg (ndC zNd zSl),.nilslice,.int .i64 2]) ∨
 (RightN n ∧ ∃ s' out',r = .tup [.agg (ndC (tickN n dr) s'),out',.int .i64 0] ∧ NR T w (tickN n dr) s' ∧ (rL rM).rd T w [out'] (tickM n dr))
theorem RightN.ec (h : RightN n) (hl : n.log.length < 2 ^ 29) : EC n := ⟨h.size.2,h.id,h.base,by have := h.commit; have := h.base; omega,hl,risP_data h.log,h.snap,⟨h.votes,h.next,h.mtch,h.seen⟩⟩
set_option maxRecDepth 20000 in
theorem s12 (hh : HK hk) (hm : Mem w) (hpos : 0 < w.size) (h : NR A w n s) (sm : Sm n) (hlog : n.log.length < 2 ^ 29) (hK : ∀ r w', Fr w.size w w' → TicR (Nw w) n dr w' r → K r w') : Cl Tryz.prog hk 12 [.agg (ndC n s), .int .i64 dr] w K := by
  refine in12 (hh.no _ _ _ (by decide) (by decide)) ?_
  unfold F12
  have pv : Pv (Nw w) w := ⟨hm, hpos, fun _ h => h⟩
  refine gd_t h.ok (pv.st.new' fun b20 w21 st21 x21 => st21.new' fun b22 w23 st23 x23 => ?_)
  have st23 : Ow (Nw w) [] w w23 [(b22, .row (ndC zNd zSl)), (b20, .row (ndC n s))] := st23
  refine ⟨_, _, _, _, _, _, _, _, _, _, _, _, _, _, _, _, _, _, _, st23.ldN 1 rfl rfl rfl, ?_⟩
  have nr23 := (h.arg hm st23).outs
  refine s8 hh st23.mem st23.P0.pos nr23 sm fun c w5 f5 hc => ⟨_, rfl, ?_⟩
  obtain ⟨st5, x5⟩ := st23.call f5
  cases c with
  | false =>
    have hn : ¬ RightN n := fun hr => absurd (hc.2 hr) (by decide)
    refine ifT_t (st5.put 0 rfl (Nat.le_of_ble_eq_true rfl) fun w28 st28 x28 => ⟨_, _, _, _, _, _, _, _, _, _, _, _, _, _, _, _, _, _, _, st28.ldN 0 rfl rfl rfl, ?_⟩)
    exact hK _ _ st28.fr (.inl ⟨hn, rfl⟩)
  | true =>
  have hr := hc.1 rfl
  have he := hr.elapsed
  have he2 := he.2
  have ht := hr.timeout
  unfold G40 at he2
  refine ifT_f ⟨_, _, _, _, _, _, _, _, _, _, _, _, _, _, _, _, _, _, _, st5.ldN 1 rfl rfl rfl, ?_⟩
  refine s43 hh st5 (h.arg hm st5) (hr.bc hlog) fun W bs bm bn bv s1 w6 wk6 x6 => ?_
  simp only [onP]
  refine ⟨_, wk6.st.ld 0 rfl rfl, ?_⟩
  rw [wi_eq (x := n.elapsed + 1) (by omega) (by omega)]
  refine wk_fld (n' := { n with elapsed := n.elapsed + 1 }) wk6 rfl rfl ⟨rfl, rfl, rfl, rfl, rfl, rfl, rfl⟩ fun w7 wk7 x7 => ?_
  refine join_of (fun l w' => l = [] ∧ ∃ s' out', Wk (Nw w) [] w w' W bs bm bn bv (tickN n dr) s' out' (tickM n dr) dr [(b22, .row (ndC zNd zSl)), (b20, .row (ndC n s))]) ?_ fun J hJ => ?_
  · rintro l w8 ⟨rfl, s', out', wk8⟩
    obtain ⟨st8, wr8, we8⟩ := id wk8
    refine ⟨rfl, fun _ => ⟨_, _, _, _, _, _, _, _, _, _, _, _, _, _, _, _, _, _, _, st8.ldN 0 rfl rfl rfl, onM_s (v := out') (st8.ld 0 rfl rfl) (gd_t (wr8.okN we8) (st8.put 5 rfl (Nat.le_of_ble_eq_true rfl) fun w9 st9 x9 => ⟨st9.ld 0 rfl rfl, _, _, _, _, _, _, _, _, _, _, _, _, _, _, _, _, _, _, _, st9.ldN 5 rfl rfl rfl, ?_⟩))⟩⟩
    have wr9 := wr8.x x9
    exact hK _ _ st9.fr (.inr ⟨hr, s', out', rfl, nr_of 1 2 3 4 st9 wr9 we8 rfl rfl rfl rfl, wr9.out.out⟩)
  · refine join_of (fun l w' => ∃ c : Bool, l = [.bool c] ∧ w' = w7 ∧ (c = true ↔ n.role = 3 ∧ 2 ≤ n.elapsed + 1)) ?_ fun J2 hJ2 => ?_
    · rintro l w8 ⟨c, rfl, rfl, hc⟩
      refine ⟨_, rfl, fun _ => ?_⟩
      cases c with
      | true =>
        obtain ⟨h1, h2⟩ := hc.1 rfl
        refine ifT_t (wk_fld (n' := { n with elapsed := 0 }) wk7 rfl rfl ⟨rfl, rfl, rfl, rfl, rfl, rfl, rfl⟩ fun w9 wk9 x9 => ?_)
        have sc : SC { n with elapsed := 0 } := by
          obtain ⟨a, b, c, d, e, f, g⟩ := hr.sc hlog h1
          exact ⟨a, b, c, d, e, f, g⟩
        exact s49 hh wk9 sc (by simp) fun out' w10 wk10 x10 => ⟨rfl, hJ _ _ ⟨rfl, s1, out', by unfold tickN tickM; rw [if_pos h1, if_pos h2, if_pos h1, if_pos h2]; exact wk10⟩⟩
      | false =>
        have hne : ¬ (n.role = 3 ∧ 2 ≤ n.elapsed + 1) := fun h => absurd (hc.2 h) (by decide)
        refine ifT_f ⟨_, wk7.st.ld 6 rfl rfl, ifT_nd (fun h3 => ?_) fun h3 => hJ _ _ ⟨rfl, s1, _, by unfold tickN tickM; rw [if_pos h3, if_neg (fun h => hne ⟨h3, h⟩), if_pos h3, if_neg (fun h => hne ⟨h3, h⟩)]; exact wk7⟩⟩
        refine ⟨_, wk7.st.ld 0 rfl rfl, _, wk7.st.ld 6 rfl rfl, ifT_d (fun h4 => ?_) fun h4 => hJ _ _ ⟨rfl, s1, _, by unfold tickN tickM; rw [if_neg h3, if_neg h4, if_neg h3, if_neg h4]; exact wk7⟩⟩
        have ec : EC { n with elapsed := n.elapsed + 1 } := by
          obtain ⟨a, b, c, d, e, f, g, i⟩ := hr.ec hlog
          exact ⟨a, b, c, d, e, f, g, ⟨i.votes, i.next, i.mtch, i.seen⟩⟩
        exact s51 hh wk7 ec hr.term (by simp) fun s' out' w10 wk10 x10 => ⟨rfl, hJ _ _ ⟨rfl, s', out', by unfold tickN tickM; rw [if_neg h3, if_pos h4, if_neg h3, if_pos h4]; exact wk10⟩⟩
    · refine ⟨_, wk7.st.ld 6 rfl rfl, ifT_d (fun h3 => ?_) fun h3 => hJ2 _ _ ⟨false, rfl, rfl, ⟨fun h => (by cases h), fun h => absurd h.1 h3⟩⟩⟩
      refine ⟨_, wk7.st.ld 0 rfl rfl, hJ2 _ _ ⟨_, rfl, rfl, ?_⟩⟩
      rw [decide_eq_true_eq]
      exact ⟨fun h => ⟨h3, h⟩, fun h => h.2⟩
end
end Go.Proofs.YtghoifolghelnaaGreat
