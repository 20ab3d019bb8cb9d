/-
 What the functions of this chapter do.
 No condition beyond those that each theorem names.
-/
import Derived.Test.YtghoifolghelnaaGreatSxu
import Derived.Test.YtghoifolghelnaaGreatProg
import Derived.KernelRfl
import Derived.Test.YtghoifolghelnaaGreatSxp
import Derived.Test.YtghoifolghelnaaGreatSxo
import Derived.Test.YtghoifolghelnaaGreatSxq
set_option linter.unusedSimpArgs false
open Go.Sx
set_option linter.unusedVariables false
namespace Go.Proofs.YtghoifolghelnaaGreat
def F7 (hk : Hook) (n0 n1 n2 n3 n4 n5 n6 n7 : Int) (n8 n9 : AV) (n10 : Int) (n11 n12 n13 n14 : AV) (n15 n16 n17 : Int) (n18 : AV) (m19 : List UInt8) (m20 m21 m22 m23 m24 m25 m26 m27 : Int) (m28 : Bool) (m29 m30 : AV) (w : AW) (K : AV → AW → Prop) : Prop :=
 gd (List.all [(ii n0),(ii n1),(.int .u8 n2),(ii n3),(ii n4),(ii n5),(ii n6),(ii n7),n8,n9,(ii n10),n11,n12,n13,n14,(ii n15),(ii n16),(ii n17),n18] okCell) (
 new w [(ii n0),(ii n1),(.int .u8 n2),(ii n3),(ii n4),(ii n5),(ii n6),(ii n7),n8,n9,(ii n10),n11,n12,n13,n14,(ii n15),(ii n16),(ii n17),n18] fun b31 w32 =>
 gd (List.all [(.str m19),(.int .u8 m20),(ii m21),(ii m22),(ii m23),(ii m24),(ii m25),(ii m26),(ii m27),(.bool m28),m29,m30] okCell) (
 new w32 [(.str m19),(.int .u8 m20),(ii m21),(ii m22),(ii m23),(ii m24),(ii m25),(ii m26),(ii m27),(.bool m28),m29,m30] fun b33 w34 =>
 onM (ld w34 b31 (0 + 9)) fun x35 =>
 ∃ x36 : Int,lenS x35 = some (ii x36) ∧
 ifT (decide (300 < x36)) (K (.bool true) w34)
 (onM (ld w34 b33 (0 + 10)) fun x37 =>
 ∃ x38 : Int,lenS x37 = some (ii x38) ∧
 ifT (decide (300 < x38)) (K (.bool true) w34)
 (onM (ld w34 b31 (0 + 18)) fun x39 =>
 ∃ x40 : Int,lenS x39 = some (ii x40) ∧
 K (.bool (decide (100 < x40))) w34))))
def adv7 : Adv := (.sq .lf (.sq .lf .lf))
set_option maxRecDepth 100000 in
theorem in7 {hk : Hook} {n0 n1 n2 n3 n4 n5 n6 n7 : Int} {n8 n9 : AV} {n10 : Int} {n11 n12 n13 n14 : AV} {n15 n16 n17 : Int} {n18 : AV} {m19 : List UInt8} {m20 m21 m22 m23 m24 m25 m26 m27 : Int} {m28 : Bool} {m29 m30 : AV} {w : AW} {K : AV → AW → Prop} (hn : hk 7 [(.agg [(ii n0),(ii n1),(.int .u8 n2),(ii n3),(ii n4),(ii n5),(ii n6),(ii n7),n8,n9,(ii n10),n11,n12,n13,n14,(ii n15),(ii n16),(ii n17),n18]),(.agg [(.str m19),(.int .u8 m20),(ii m21),(ii m22),(ii m23),(ii m24),(ii m25),(ii m26),(ii m27),(.bool m28),m29,m30])] w = none) (h : F7 hk n0 n1 n2 n3 n4 n5 n6 n7 n8 n9 n10 n11 n12 n13 n14 n15 n16 n17 n18 m19 m20 m21 m22 m23 m24 m25 m26 m27 m28 m29 m30 w K) : Cl Tryz.prog hk 7 [(.agg [(ii n0),(ii n1),(.int .u8 n2),(ii n3),(ii n4),(ii n5),(ii n6),(ii n7),n8,n9,(ii n10),n11,n12,n13,n14,(ii n15),(ii n16),(ii n17),n18]),(.agg [(.str m19),(.int .u8 m20),(ii m21),(ii m22),(ii m23),(ii m24),(ii m25),(ii m26),(ii m27),(.bool m28),m29,m30])] w K :=
 fnS_ok (adv := adv7) Tryz.func7 hn (Eq.mpr (by kernel_rfl) h)
set_option maxRecDepth 100000 in
def F8 (hk : Hook) (n0 n1 n2 n3 n4 n5 n6 n7 : Int) (n8 n9 : AV) (n10 : Int) (n11 n12 n13 n14 : AV) (n15 n16 n17 : Int) (n18 : AV) (w : AW) (K : AV → AW → Prop) : Prop :=
 gd (List.all [(ii n0),(ii n1),(.int .u8 n2),(ii n3),(ii n4),(ii n5),(ii n6),(ii n7),n8,n9,(ii n10),n11,n12,n13,n14,(ii n15),(ii n16),(ii n17),n18] okCell) (
 new w [(ii n0),(ii n1),(.int .u8 n2),(ii n3),(ii n4),(ii n5),(ii n6),(ii n7),n8,n9,(ii n10),n11,n12,n13,n14,(ii n15),(ii n16),(ii n17),n18] fun b19 w20 =>
 ∃ x21 : Int,ld w20 b19 (0 + 1) = some (ii x21) ∧
 new w20 [(ii x21)] fun b22 w23 =>
 ld w23 b19 (0 + 1) = some (ii x21) ∧
 Cl Tryz.prog hk 37 [(ii 1),(ii 9),(.slice b22 0 1 1 none)] w23 fun r24 w25 =>
 ∃ x26 : Bool,r24 = (.bool x26) ∧
 ifT x26 (∃ x27 : Int,ld w25 b19 (0 + 1) = some (ii x27) ∧
 ∃ x28 : Int,ld w25 b19 (0 + 0) = some (ii x28) ∧
 new w25 [(ii x28)] fun b29 w30 =>
 ld w30 b19 (0 + 0) = some (ii x28) ∧
 ld w30 b19 (0 + 1) = some (ii x27) ∧
 Cl Tryz.prog hk 37 [(ii 1),(ii x27),(.slice b29 0 1 1 none)] w30 fun r31 w32 =>
 ∃ x33 : Bool,r31 = (.bool x33) ∧
 ifT x33 (∃ x34 : Int,ld w32 b19 (0 + 1) = some (ii x34) ∧
 ∃ x35 : Int,ld w32 b19 (0 + 4) = some (ii x35) ∧
 ∃ x36 : Int,ld w32 b19 (0 + 5) = some (ii x36) ∧
 new w32 [(ii x35),(ii x36)] fun b37 w38 =>
 ld w38 b19 (0 + 5) = some (ii x36) ∧
 ld w38 b19 (0 + 4) = some (ii x35) ∧
 ld w38 b19 (0 + 1) = some (ii x34) ∧
 Cl Tryz.prog hk 37 [(ii 0),(ii x34),(.slice b37 0 2 2 none)] w38 fun r39 w40 =>
 ∃ x41 : Bool,r39 = (.bool x41) ∧
 ifT x41 (∃ x42 : Int,ld w40 b19 (0 + 3) = some (ii x42) ∧
 ∃ x43 : Int,ld w40 b19 (0 + 6) = some (ii x43) ∧
 ∃ x44 : Int,ld w40 b19 (0 + 15) = some (ii x44) ∧
 ∃ x45 : Int,ld w40 b19 (0 + 16) = some (ii x45) ∧
 new w40 [(ii x42),(ii x43),(ii x44),(ii x45)] fun b46 w47 =>
 ld w47 b19 (0 + 16) = some (ii x45) ∧
 ld w47 b19 (0 + 15) = some (ii x44) ∧
 ld w47 b19 (0 + 6) = some (ii x43) ∧
 ld w47 b19 (0 + 3) = some (ii x42) ∧
 Cl Tryz.prog hk 37 [(ii 0),(ii 1099511627776),(.slice b46 0 4 4 none)] w47 fun r48 w49 =>
 ∃ x50 : Bool,r48 = (.bool x50) ∧
 ifT x50 (∃ x51 : Int,ld w49 b19 (0 + 17) = some (ii x51) ∧
 new w49 [(ii x51)] fun b52 w53 =>
 ld w53 b19 (0 + 17) = some (ii x51) ∧
 Cl Tryz.prog hk 37 [(ii 1),(ii 1099511627776),(.slice b52 0 1 1 none)] w53 fun r54 w55 =>
 ∃ x56 : Bool,r54 = (.bool x56) ∧
 ifT x56 (∃ x57 : Int,ld w55 b19 (0 + 7) = some (ii x57) ∧
 ifT (decide (0 ≤ x57)) (∃ x58 : Int,ld w55 b19 (0 + 7) = some (ii x58) ∧
 ∃ x59 : Int,ld w55 b19 (0 + 3) = some (ii x59) ∧
 onM (ld w55 b19 (0 + 9)) fun x60 =>
 Cl Tryz.prog hk 38 [(ii x58),(ii x59),x60] w55 fun r61 w62 =>
 ∃ x63 : Bool,r61 = (.bool x63) ∧
 ifT x63 (∃ x64 : Int,ld w62 b19 (0 + 6) = some (ii x64) ∧
 ∃ x65 x66 x67 x68 x69 x70 x71 x72 : Int,∃ x73 x74 : AV,∃ x75 : Int,∃ x76 x77 x78 x79 : AV,∃ x80 x81 x82 : Int,∃ x83 : AV,ldN 19 w62 b19 0 = some (.agg [(ii x65),(ii x66),(.int .u8 x67),(ii x68),(ii x69),(ii x70),(ii x71),(ii x72),x73,x74,(ii x75),x76,x77,x78,x79,(ii x80),(ii x81),(ii x82),x83]) ∧
 ∃ x84 : Int,ld w62 b19 (0 + 10) = some (ii x84) ∧
 new w62 [(ii x84)] fun b85 w86 =>
 ld w86 b19 (0 + 10) = some (ii x84) ∧
 ldN 19 w86 b19 0 = some (.agg [(ii x65),(ii x66),(.int .u8 x67),(ii x68),(ii x69),(ii x70),(ii x71),(ii x72),x73,x74,(ii x75),x76,x77,x78,x79,(ii x80),(ii x81),(ii x82),x83]) ∧
 ld w86 b19 (0 + 6) = some (ii x64) ∧
 Cl Tryz.prog hk 36 [(.agg [(ii x65),(ii x66),(.int .u8 x67),(ii x68),(ii x69),(ii x70),(ii x71),(ii x72),x73,x74,(ii x75),x76,x77,x78,x79,(ii x80),(ii x81),(ii x82),x83])] w86 fun r87 w88 =>
 ∃ x89 : Int,r87 = (ii x89) ∧
 ld w88 b19 (0 + 10) = some (ii x84) ∧
 ld w88 b19 (0 + 6) = some (ii x64) ∧
 Cl Tryz.prog hk 37 [(ii x64),(ii x89),(.slice b85 0 1 1 none)] w88 fun r90 w91 =>
 ∃ x92 : Bool,r90 = (.bool x92) ∧
 ifT x92 (onM (ld w91 b19 (0 + 8)) fun x93 =>
 ∃ x94 : Int,lenS x93 = some (ii x94) ∧
 ifT (decide (x94 ≤ 60000)) (onM (ld w91 b19 (0 + 11)) fun x95 =>
 ∃ x96 : Int,lenS x95 = some (ii x96) ∧
 ∃ x97 : Int,ld w91 b19 (0 + 1) = some (ii x97) ∧
 ifT (decide (x96 = x97)) (onM (ld w91 b19 (0 + 12)) fun x98 =>
 ∃ x99 : Int,lenS x98 = some (ii x99) ∧
 ∃ x100 : Int,ld w91 b19 (0 + 1) = some (ii x100) ∧
 ifT (decide (x99 = x100)) (onM (ld w91 b19 (0 + 13)) fun x101 =>
 ∃ x102 : Int,lenS x101 = some (ii x102) ∧
 ∃ x103 : Int,ld w91 b19 (0 + 1) = some (ii x103) ∧
 ifT (decide (x102 = x103)) (onM (ld w91 b19 (0 + 14)) fun x104 =>
 ∃ x105 : Int,lenS x104 = some (ii x105) ∧
 ∃ x106 : Int,ld w91 b19 (0 + 1) = some (ii x106) ∧
 ifT (decide (x105 = x106)) (∃ x107 x108 x109 x110 x111 x112 x113 x114 : Int,∃ x115 x116 : AV,∃ x117 : Int,∃ x118 x119 x120 x121 : AV,∃ x122 x123 x124 : Int,∃ x125 : AV,ldN 19 w91 b19 0 = some (.agg [(ii x107),(ii x108),(.int .u8 x109),(ii x110),(ii x111),(ii x112),(ii x113),(ii x114),x115,x116,(ii x117),x118,x119,x120,x121,(ii x122),(ii x123),(ii x124),x125]) ∧
 Cl Tryz.prog hk 39 [(.agg [(ii x107),(ii x108),(.int .u8 x109),(ii x110),(ii x111),(ii x112),(ii x113),(ii x114),x115,x116,(ii x117),x118,x119,x120,x121,(ii x122),(ii x123),(ii x124),x125])] w91 fun r126 w127 =>
 ∃ x128 : Bool,r126 = (.bool x128) ∧
 ifT x128 (∃ x129 x130 x131 x132 x133 x134 x135 x136 : Int,∃ x137 x138 : AV,∃ x139 : Int,∃ x140 x141 x142 x143 : AV,∃ x144 x145 x146 : Int,∃ x147 : AV,ldN 19 w127 b19 0 = some (.agg [(ii x129),(ii x130),(.int .u8 x131),(ii x132),(ii x133),(ii x134),(ii x135),(ii x136),x137,x138,(ii x139),x140,x141,x142,x143,(ii x144),(ii x145),(ii x146),x147]) ∧
 Cl Tryz.prog hk 40 [(.agg [(ii x129),(ii x130),(.int .u8 x131),(ii x132),(ii x133),(ii x134),(ii x135),(ii x136),x137,x138,(ii x139),x140,x141,x142,x143,(ii x144),(ii x145),(ii x146),x147])] w127 fun r148 w149 =>
 ∃ x150 : Bool,r148 = (.bool x150) ∧
 K (.bool x150) w149)
 (K (.bool false) w127))
 (K (.bool false) w91))
 (K (.bool false) w91))
 (K (.bool false) w91))
 (K (.bool false) w91))
 (K (.bool false) w91))
 (K (.bool false) w91))
 (K (.bool false) w62))
 (K (.bool false) w55))
 (K (.bool false) w55))
 (K (.bool false) w49))
 (K (.bool false) w40))
 (K (.bool false) w32))
 (K (.bool false) w25))
def adv8 : Adv := (.sq .lf (.sq .lf .lf))
set_option maxRecDepth 100000 in
theorem in8 {hk : Hook} {n0 n1 n2 n3 n4 n5 n6 n7 : Int} {n8 n9 : AV} {n10 : Int} {n11 n12 n13 n14 : AV} {n15 n16 n17 : Int} {n18 : AV} {w : AW} {K : AV → AW → Prop} (hn : hk 8 [(.agg [(ii n0),(ii n1),(.int .u8 n2),(ii n3),(ii n4),(ii n5),(ii n6),(ii n7),n8,n9,(ii n10),n11,n12,n13,n14,(ii n15),(ii n16),(ii n17),n18])] w = none) (h : F8 hk n0 n1 n2 n3 n4 n5 n6 n7 n8 n9 n10 n11 n12 n13 n14 n15 n16 n17 n18 w K) : Cl Tryz.prog hk 8 [(.agg [(ii n0),(ii n1),(.int .u8 n2),(ii n3),(ii n4),(ii n5),(ii n6),(ii n7),n8,n9,(ii n10),n11,n12,n13,n14,(ii n15),(ii n16),(ii n17),n18])] w K :=
 fnS_ok (adv := adv8) Tryz.func8 hn (Eq.mpr (by kernel_rfl) h)
def F36 (hk : Hook) (n0 n1 n2 n3 n4 n5 n6 n7 : Int) (n8 n9 : AV) (n10 : Int) (n11 n12 n13 n14 : AV) (n15 n16 n17 : Int) (n18 : AV) (w : AW) (K : AV → AW → Prop) : Prop :=
 gd (List.all [(ii n0),(ii n1),(.int .u8 n2),(ii n3),(ii n4),(ii n5),(ii n6),(ii n7),n8,n9,(ii n10),n11,n12,n13,n14,(ii n15),(ii n16),(ii n17),n18] okCell) (
 new w [(ii n0),(ii n1),(.int .u8 n2),(ii n3),(ii n4),(ii n5),(ii n6),(ii n7),n8,n9,(ii n10),n11,n12,n13,n14,(ii n15),(ii n16),(ii n17),n18] fun b19 w20 =>
 ∃ x21 : Int,ld w20 b19 (0 + 6) = some (ii x21) ∧
 onM (ld w20 b19 (0 + 9)) fun x22 =>
 Cl Tryz.prog hk 79 [(ii x21),x22] w20 fun r23 w24 =>
 ∃ x25 : Int,r23 = (ii x25) ∧
 K (ii x25) w24)
def adv36 : Adv := (.sq .lf (.sq .lf .lf))
set_option maxRecDepth 100000 in
theorem in36 {hk : Hook} {n0 n1 n2 n3 n4 n5 n6 n7 : Int} {n8 n9 : AV} {n10 : Int} {n11 n12 n13 n14 : AV} {n15 n16 n17 : Int} {n18 : AV} {w : AW} {K : AV → AW → Prop} (hn : hk 36 [(.agg [(ii n0),(ii n1),(.int .u8 n2),(ii n3),(ii n4),(ii n5),(ii n6),(ii n7),n8,n9,(ii n10),n11,n12,n13,n14,(ii n15),(ii n16),(ii n17),n18])] w = none) (h : F36 hk n0 n1 n2 n3 n4 n5 n6 n7 n8 n9 n10 n11 n12 n13 n14 n15 n16 n17 n18 w K) : Cl Tryz.prog hk 36 [(.agg [(ii n0),(ii n1),(.int .u8 n2),(ii n3),(ii n4),(ii n5),(ii n6),(ii n7),n8,n9,(ii n10),n11,n12,n13,n14,(ii n15),(ii n16),(ii n17),n18])] w K :=
 fnS_ok (adv := adv36) Tryz.func36 hn (Eq.mpr (by kernel_rfl) h)
def F37 (hk : Hook) (low0 high1 : Int) (l_2 : AV) (w : AW) (K : AV → AW → Prop) : Prop :=
 new w [(ii low0)] fun b3 w4 =>
 new w4 [(ii high1)] fun b5 w6 =>
 Cl Tryz.prog hk 80 [l_2,(.func 81 [] [(.ptr b3 0),(.ptr b5 0)])] w6 fun r7 w8 =>
 ∃ x9 : Bool,r7 = (.bool x9) ∧
 K (.bool (!x9)) w8
def adv37 : Adv := (.sq .lf (.sq .lf .lf))
set_option maxRecDepth 100000 in
theorem in37 {hk : Hook} {low0 high1 : Int} {l_2 : AV} {w : AW} {K : AV → AW → Prop} (hn : hk 37 [(ii low0),(ii high1),l_2] w = none) (h : F37 hk low0 high1 l_2 w K) : Cl Tryz.prog hk 37 [(ii low0),(ii high1),l_2] w K :=
 fnS_ok (adv := adv37) Tryz.func37 hn (Eq.mpr (by kernel_rfl) h)
def F38 (hk : Hook) (low0 high1 : Int) (l_2 : AV) (w : AW) (K : AV → AW → Prop) : Prop :=
 ∃ x3 : Int,lenS l_2 = some (ii x3) ∧
 loopP [(ii low0),(ii 0)] w fun R4 l_5 w6 => ∃ low7 x8 : Int,l_5 = [(ii low7),(ii x8)] ∧ ∀ _ : Nat → AV,
  ifT (decide (x8 < x3)) (atP (idxS 2 l_2 (ii x8)) fun b9 o10 =>
  ∃ x11 : Int,∃ x12 : AV,ldN 2 w6 b9 o10 = some (.agg [(ii x11),x12]) ∧
  new w6 [(ii 0),.nilslice] fun b13 w14 =>
  gd (List.all [(ii x11),x12] okCell) (
  onM (AW.putCells w14 b13 0 [(ii x11),x12]) fun w15 =>
  ∃ x16 : Int,ld w15 b13 (0 + 0) = some (ii x16) ∧
  ifT (decide (x16 < low7)) (K (.bool false) w15)
  (onM (ld w15 b13 (0 + 1)) fun x17 =>
  ∃ x18 : Int,lenS x17 = some (ii x18) ∧
  ifT (decide (60000 < x18)) (K (.bool false) w15)
  (∃ low19 : Int,ld w15 b13 (0 + 0) = some (ii low19) ∧
  R4 [(ii low19),(ii (wi (x8 + 1)))] w15))))
  (K (.bool (decide (low7 ≤ high1))) w6)
def adv38 : Adv := (.sq .lf (.sq (.sq .lf (.bl (.lp [(0,.sc (.int .i64)),(11,.sc (.int .i64))] (.sq .lf (.sq (.cd .lf .lf) (.sq (.bl (.sq .lf (.sq (.sq .lf (.cd (.sq .lf .lf) .lf)) .lf))) .lf)))))) (.sq .lf .lf)))
set_option maxRecDepth 100000 in
theorem in38 {hk : Hook} {low0 high1 : Int} {l_2 : AV} {w : AW} {K : AV → AW → Prop} (hn : hk 38 [(ii low0),(ii high1),l_2] w = none) (h : F38 hk low0 high1 l_2 w K) : Cl Tryz.prog hk 38 [(ii low0),(ii high1),l_2] w K :=
 fnS_ok (adv := adv38) Tryz.func38 hn (Eq.mpr (by kernel_rfl) h)
def F39 (hk : Hook) (n0 n1 n2 n3 n4 n5 n6 n7 : Int) (n8 n9 : AV) (n10 : Int) (n11 n12 n13 n14 : AV) (n15 n16 n17 : Int) (n18 : AV) (w : AW) (K : AV → AW → Prop) : Prop :=
 gd (List.all [(ii n0),(ii n1),(.int .u8 n2),(ii n3),(ii n4),(ii n5),(ii n6),(ii n7),n8,n9,(ii n10),n11,n12,n13,n14,(ii n15),(ii n16),(ii n17),n18] okCell) (
 new w [(ii n0),(ii n1),(.int .u8 n2),(ii n3),(ii n4),(ii n5),(ii n6),(ii n7),n8,n9,(ii n10),n11,n12,n13,n14,(ii n15),(ii n16),(ii n17),n18] fun b19 w20 =>
 onM (ld w20 b19 (0 + 18)) fun x21 =>
 ∃ x22 : Int,lenS x21 = some (ii x22) ∧
 loopP [(ii 0),(ii 0)] w20 fun R23 l_24 w25 => ∃ last26 x27 : Int,l_24 = [(ii last26),(ii x27)] ∧ ∀ _ : Nat → AV,
  ifT (decide (x27 < x22)) (atP (idxS 3 x21 (ii x27)) fun b28 o29 =>
  ∃ x30 x31 x32 : Int,ldN 3 w25 b28 o29 = some (.agg [(ii x30),(ii x31),(ii x32)]) ∧
  new w25 [(ii 0),(ii 0),(ii 0)] fun b33 w34 =>
  onM (AW.putCells w34 b33 0 [(ii x30),(ii x31),(ii x32)]) fun w35 =>
  ∃ x36 : Int,ld w35 b33 (0 + 2) = some (ii x36) ∧
  ifT (decide (x36 ≤ last26)) (K (.bool false) w35)
  (∃ last37 : Int,ld w35 b33 (0 + 2) = some (ii last37) ∧
  R23 [(ii last37),(ii (wi (x27 + 1)))] w35))
  (∃ x38 : Int,ld w25 b19 (0 + 15) = some (ii x38) ∧
 ifT (decide (last26 ≤ x38)) (onM (ld w25 b19 (0 + 18)) fun x39 =>
 ∃ x40 : Int,lenS x39 = some (ii x40) ∧
 K (.bool (decide (x40 ≤ 64))) w25)
 (K (.bool false) w25)))
def adv39 : Adv := (.sq .lf (.sq .lf (.sq (.sq .lf (.bl (.lp [(3,.sc (.int .i64)),(9,.sc (.int .i64))] (.sq .lf (.sq (.cd .lf .lf) (.sq (.bl (.sq .lf (.sq (.sq .lf (.cd (.sq .lf .lf) .lf)) .lf))) .lf)))))) (.sq .lf .lf))))
set_option maxRecDepth 100000 in
theorem in39 {hk : Hook} {n0 n1 n2 n3 n4 n5 n6 n7 : Int} {n8 n9 : AV} {n10 : Int} {n11 n12 n13 n14 : AV} {n15 n16 n17 : Int} {n18 : AV} {w : AW} {K : AV → AW → Prop} (hn : hk 39 [(.agg [(ii n0),(ii n1),(.int .u8 n2),(ii n3),(ii n4),(ii n5),(ii n6),(ii n7),n8,n9,(ii n10),n11,n12,n13,n14,(ii n15),(ii n16),(ii n17),n18])] w = none) (h : F39 hk n0 n1 n2 n3 n4 n5 n6 n7 n8 n9 n10 n11 n12 n13 n14 n15 n16 n17 n18 w K) : Cl Tryz.prog hk 39 [(.agg [(ii n0),(ii n1),(.int .u8 n2),(ii n3),(ii n4),(ii n5),(ii n6),(ii n7),n8,n9,(ii n10),n11,n12,n13,n14,(ii n15),(ii n16),(ii n17),n18])] w K :=
 fnS_ok (adv := adv39) Tryz.func39 hn (Eq.mpr (by kernel_rfl) h)
set_option maxRecDepth 100000 in
def F40 (hk : Hook) (n0 n1 n2 n3 n4 n5 n6 n7 : Int) (n8 n9 : AV) (n10 : Int) (n11 n12 n13 n14 : AV) (n15 n16 n17 : Int) (n18 : AV) (w : AW) (K : AV → AW → Prop) : Prop :=
 gd (List.all [(ii n0),(ii n1),(.int .u8 n2),(ii n3),(ii n4),(ii n5),(ii n6),(ii n7),n8,n9,(ii n10),n11,n12,n13,n14,(ii n15),(ii n16),(ii n17),n18] okCell) (
 new w [(ii n0),(ii n1),(.int .u8 n2),(ii n3),(ii n4),(ii n5),(ii n6),(ii n7),n8,n9,(ii n10),n11,n12,n13,n14,(ii n15),(ii n16),(ii n17),n18] fun b19 w20 =>
 join (fun l_21 w22 => ∃ none24 : Bool,l_21 = [(.bool none24)] ∧ ∀ _ : Nat → AV,
  onM (ld w22 b19 (0 + 11)) fun x25 =>
  Cl Tryz.prog hk 82 [x25,(.bool true)] w22 fun r26 w27 =>
  ∃ x28 : Bool,r26 = (.bool x28) ∧
  ∃ x29 : Int,ld w27 b19 (0 + 2) = some (.int .u8 x29) ∧
  ifT (decide (x29 = 1)) (ifT none24 (K (.bool (!x28)) w27)
  (K (.bool false) w27))
  (ifT (decide (x29 = 2)) (ifT none24 (onM (ld w27 b19 (0 + 11)) fun x30 =>
   ∃ x31 : Int,ld w27 b19 (0 + 0) = some (ii x31) ∧
   atP (idxS 1 x30 (ii (wi (x31 - 1)))) fun b32 o33 =>
   ∃ x34 : Bool,ld w27 b32 o33 = some (.bool x34) ∧
   K (.bool x34) w27)
   (K (.bool false) w27))
  (ifT (decide (x29 = 3)) (ifT (!x28) (∃ x35 : Int,ld w27 b19 (0 + 5) = some (ii x35) ∧
   ∃ x36 : Int,ld w27 b19 (0 + 0) = some (ii x36) ∧
   ifT (decide (x35 = x36)) (∃ x37 x38 x39 x40 x41 x42 x43 x44 : Int,∃ x45 x46 : AV,∃ x47 : Int,∃ x48 x49 x50 x51 : AV,∃ x52 x53 x54 : Int,∃ x55 : AV,ldN 19 w27 b19 0 = some (.agg [(ii x37),(ii x38),(.int .u8 x39),(ii x40),(ii x41),(ii x42),(ii x43),(ii x44),x45,x46,(ii x47),x48,x49,x50,x51,(ii x52),(ii x53),(ii x54),x55]) ∧
   onM (ld w27 b19 (0 + 12)) fun x56 =>
   Cl Tryz.prog hk 36 [(.agg [(ii x37),(ii x38),(.int .u8 x39),(ii x40),(ii x41),(ii x42),(ii x43),(ii x44),x45,x46,(ii x47),x48,x49,x50,x51,(ii x52),(ii x53),(ii x54),x55])] w27 fun r57 w58 =>
   ∃ x59 : Int,r57 = (ii x59) ∧
   ld w58 b19 (0 + 12) = some x56 ∧
   Cl Tryz.prog hk 37 [(ii 1),(ii (wi (x59 + 1))),x56] w58 fun r60 w61 =>
   ∃ x62 : Bool,r60 = (.bool x62) ∧
   ifT x62 (∃ x63 x64 x65 x66 x67 x68 x69 x70 : Int,∃ x71 x72 : AV,∃ x73 : Int,∃ x74 x75 x76 x77 : AV,∃ x78 x79 x80 : Int,∃ x81 : AV,ldN 19 w61 b19 0 = some (.agg [(ii x63),(ii x64),(.int .u8 x65),(ii x66),(ii x67),(ii x68),(ii x69),(ii x70),x71,x72,(ii x73),x74,x75,x76,x77,(ii x78),(ii x79),(ii x80),x81]) ∧
   onM (ld w61 b19 (0 + 13)) fun x82 =>
   Cl Tryz.prog hk 36 [(.agg [(ii x63),(ii x64),(.int .u8 x65),(ii x66),(ii x67),(ii x68),(ii x69),(ii x70),x71,x72,(ii x73),x74,x75,x76,x77,(ii x78),(ii x79),(ii x80),x81])] w61 fun r83 w84 =>
   ∃ x85 : Int,r83 = (ii x85) ∧
   ld w84 b19 (0 + 13) = some x82 ∧
   Cl Tryz.prog hk 37 [(ii 0),(ii x85),x82] w84 fun r86 w87 =>
   ∃ x88 : Bool,r86 = (.bool x88) ∧
   ifT x88 (∃ x89 : Int,ld w87 b19 (0 + 15) = some (ii x89) ∧
   onM (ld w87 b19 (0 + 14)) fun x90 =>
   Cl Tryz.prog hk 37 [(ii 0),(ii x89),x90] w87 fun r91 w92 =>
   ∃ x93 : Bool,r91 = (.bool x93) ∧
   K (.bool x93) w92)
   (K (.bool false) w87))
   (K (.bool false) w61))
   (K (.bool false) w27))
   (K (.bool false) w27))
   (K (.bool false) w27)))) fun J23 =>
 onM (ld w20 b19 (0 + 12)) fun x94 =>
 Cl Tryz.prog hk 37 [(ii 0),(ii 0),x94] w20 fun r95 w96 =>
 ∃ x97 : Bool,r95 = (.bool x97) ∧
 ifT x97 (onM (ld w96 b19 (0 + 13)) fun x98 =>
 Cl Tryz.prog hk 37 [(ii 0),(ii 0),x98] w96 fun r99 w100 =>
 ∃ x101 : Bool,r99 = (.bool x101) ∧
 ifT x101 (onM (ld w100 b19 (0 + 14)) fun x102 =>
 Cl Tryz.prog hk 37 [(ii 0),(ii 0),x102] w100 fun r103 w104 =>
 ∃ x105 : Bool,r103 = (.bool x105) ∧
 ifT x105 (∃ x106 : Int,ld w104 b19 (0 + 15) = some (ii x106) ∧
 ifT (decide (x106 = 0)) (onM (ld w104 b19 (0 + 18)) fun x107 =>
 ∃ x108 : Int,lenS x107 = some (ii x108) ∧
 J23 [(.bool (decide (x108 = 0)))] w104)
 (J23 [(.bool false)] w104))
 (J23 [(.bool false)] w104))
 (J23 [(.bool false)] w100))
 (J23 [(.bool false)] w96))
def adv40 : Adv := (.sq .lf (.sj [(3,.sc (.bool))] .lf (.sq .lf (.sq (.sq .lf (.bl (.sq .lf (.cd (.sq .lf .lf) (.sq .lf (.cd (.sq .lf .lf) (.sq .lf (.cd (.sq .lf .lf) .lf)))))))) (.sq .lf .lf)))))
set_option maxRecDepth 100000 in
theorem in40 {hk : Hook} {n0 n1 n2 n3 n4 n5 n6 n7 : Int} {n8 n9 : AV} {n10 : Int} {n11 n12 n13 n14 : AV} {n15 n16 n17 : Int} {n18 : AV} {w : AW} {K : AV → AW → Prop} (hn : hk 40 [(.agg [(ii n0),(ii n1),(.int .u8 n2),(ii n3),(ii n4),(ii n5),(ii n6),(ii n7),n8,n9,(ii n10),n11,n12,n13,n14,(ii n15),(ii n16),(ii n17),n18])] w = none) (h : F40 hk n0 n1 n2 n3 n4 n5 n6 n7 n8 n9 n10 n11 n12 n13 n14 n15 n16 n17 n18 w K) : Cl Tryz.prog hk 40 [(.agg [(ii n0),(ii n1),(.int .u8 n2),(ii n3),(ii n4),(ii n5),(ii n6),(ii n7),n8,n9,(ii n10),n11,n12,n13,n14,(ii n15),(ii n16),(ii n17),n18])] w K :=
 fnS_ok (adv := adv40) Tryz.func40 hn (Eq.mpr (by kernel_rfl) h)
def F53 (hk : Hook) (n0 n1 n2 n3 n4 n5 n6 n7 : Int) (n8 n9 : AV) (n10 : Int) (n11 n12 n13 n14 : AV) (n15 n16 n17 : Int) (n18 : AV) (index19 : Int) (w : AW) (K : AV → AW → Prop) : Prop :=
 gd (List.all [(ii n0),(ii n1),(.int .u8 n2),(ii n3),(ii n4),(ii n5),(ii n6),(ii n7),n8,n9,(ii n10),n11,n12,n13,n14,(ii n15),(ii n16),(ii n17),n18] okCell) (
 new w [(ii n0),(ii n1),(.int .u8 n2),(ii n3),(ii n4),(ii n5),(ii n6),(ii n7),n8,n9,(ii n10),n11,n12,n13,n14,(ii n15),(ii n16),(ii n17),n18] fun b20 w21 =>
 ∃ x22 : Int,ld w21 b20 (0 + 6) = some (ii x22) ∧
 ∃ x23 : Int,ld w21 b20 (0 + 7) = some (ii x23) ∧
 onM (ld w21 b20 (0 + 9)) fun x24 =>
 Cl Tryz.prog hk 97 [(ii x22),(ii x23),x24,(ii index19)] w21 fun r25 w26 =>
 ∃ x27 : Int,∃ x28 : Bool,r25 = .tup [(ii x27),(.bool x28)] ∧
 K (.tup [(ii x27),(.bool x28)]) w26)
def adv53 : Adv := (.sq .lf (.sq .lf .lf))
set_option maxRecDepth 100000 in
theorem in53 {hk : Hook} {n0 n1 n2 n3 n4 n5 n6 n7 : Int} {n8 n9 : AV} {n10 : Int} {n11 n12 n13 n14 : AV} {n15 n16 n17 : Int} {n18 : AV} {index19 : Int} {w : AW} {K : AV → AW → Prop} (hn : hk 53 [(.agg [(ii n0),(ii n1),(.int .u8 n2),(ii n3),(ii n4),(ii n5),(ii n6),(ii n7),n8,n9,(ii n10),n11,n12,n13,n14,(ii n15),(ii n16),(ii n17),n18]),(ii index19)] w = none) (h : F53 hk n0 n1 n2 n3 n4 n5 n6 n7 n8 n9 n10 n11 n12 n13 n14 n15 n16 n17 n18 index19 w K) : Cl Tryz.prog hk 53 [(.agg [(ii n0),(ii n1),(.int .u8 n2),(ii n3),(ii n4),(ii n5),(ii n6),(ii n7),n8,n9,(ii n10),n11,n12,n13,n14,(ii n15),(ii n16),(ii n17),n18]),(ii index19)] w K :=
 fnS_ok (adv := adv53) Tryz.func53 hn (Eq.mpr (by kernel_rfl) h)
def F66 (hk : Hook) (match0 : AV) (w : AW) (K : AV → AW → Prop) : Prop :=
 gd (okCell match0) (
 new w [match0] fun b1 w2 =>
 onM (ld w2 b1 0) fun x3 =>
 Cl Tryz.prog hk 106 [x3] w2 fun r4 w5 =>
 Cl Tryz.prog hk 105 [r4] w5 fun r6 w7 =>
 Cl Tryz.prog hk 107 [r6] w7 fun r8 w9 =>
 r8 = .tup [] ∧
 ∃ x10 : Int,lenS r6 = some (ii x10) ∧
 loopP [(ii 0)] w9 fun R11 l_12 w13 => ∃ x14 : Int,l_12 = [(ii x14)] ∧ ∀ _ : Nat → AV,
  ifT (decide (x14 < x10)) (atP (idxS 1 r6 (ii x14)) fun b15 o16 =>
  ∃ n17 : Int,ld w13 b15 o16 = some (ii n17) ∧
  onM (ld w13 b1 0) fun x18 =>
  ∃ x19 : Int,lenS x18 = some (ii x19) ∧
  Cl Tryz.prog hk 104 [(ii n17),(.ptr b1 0)] w13 fun r20 w21 =>
  ∃ x22 : Int,r20 = (ii x22) ∧
  ld w21 b1 0 = some x18 ∧
  Cl Tryz.prog hk 108 [(ii x22),(ii x19)] w21 fun r23 w24 =>
  ∃ x25 : Bool,r23 = (.bool x25) ∧
  ifT x25 (K (ii n17) w24)
  (R11 [(ii (wi (x14 + 1)))] w24))
  (K (ii 0) w13))
def adv66 : Adv := (.sq .lf (.sq .lf (.sq .lf (.sq .lf (.sq (.sq .lf (.bl (.lp [(15,.sc (.int .i64))] (.sq .lf (.sq (.cd .lf .lf) (.sq (.bl (.sq .lf (.sq .lf (.cd (.sq .lf .lf) .lf)))) .lf)))))) (.sq .lf .lf))))))
set_option maxRecDepth 100000 in
theorem in66 {hk : Hook} {match0 : AV} {w : AW} {K : AV → AW → Prop} (hn : hk 66 [match0] w = none) (h : F66 hk match0 w K) : Cl Tryz.prog hk 66 [match0] w K :=
 fnS_ok (adv := adv66) Tryz.func66 hn (Eq.mpr (by kernel_rfl) h)
def F70 (hk : Hook) (match0 : AV) (w : AW) (K : AV → AW → Prop) : Prop :=
 loopP [(ii 0),(.bool false),(ii 0)] w fun R1 l_2 w3 => ∃ out4 : Int,∃ any5 : Bool,∃ i6 : Int,l_2 = [(ii out4),(.bool any5),(ii i6)] ∧ ∀ _ : Nat → AV,
  ∃ x7 : Int,lenS match0 = some (ii x7) ∧
  ifT (decide (i6 < x7)) (loopP [(ii 0),(ii 0)] w3 fun R8 l_9 w10 => ∃ k11 j12 : Int,l_9 = [(ii k11),(ii j12)] ∧ ∀ _ : Nat → AV,
  ∃ x13 : Int,lenS match0 = some (ii x13) ∧
  ifT (decide (j12 < x13)) (atP (idxS 1 match0 (ii j12)) fun b14 o15 =>
  ∃ x16 : Int,ld w10 b14 o15 = some (ii x16) ∧
  atP (idxS 1 match0 (ii i6)) fun b17 o18 =>
  ∃ x19 : Int,ld w10 b17 o18 = some (ii x19) ∧
  ifT (decide (x19 ≤ x16)) (R8 [(ii (wi (k11 + 1))),(ii (wi (j12 + 1)))] w10)
  (R8 [(ii k11),(ii (wi (j12 + 1)))] w10))
  (∃ x20 : Int,lenS match0 = some (ii x20) ∧
  Cl Tryz.prog hk 109 [(ii k11),(ii x20)] w10 fun r21 w22 =>
  ∃ x23 : Bool,r21 = (.bool x23) ∧
  ifT x23 (ifT (!any5) (atP (idxS 1 match0 (ii i6)) fun b24 o25 =>
  ∃ out26 : Int,ld w22 b24 o25 = some (ii out26) ∧
  R1 [(ii out26),(.bool true),(ii (wi (i6 + 1)))] w22)
  (atP (idxS 1 match0 (ii i6)) fun b27 o28 =>
  ∃ x29 : Int,ld w22 b27 o28 = some (ii x29) ∧
  ifT (decide (out4 < x29)) (atP (idxS 1 match0 (ii i6)) fun b30 o31 =>
  ∃ out32 : Int,ld w22 b30 o31 = some (ii out32) ∧
  R1 [(ii out32),(.bool true),(ii (wi (i6 + 1)))] w22)
  (R1 [(ii out4),(.bool any5),(ii (wi (i6 + 1)))] w22)))
  (R1 [(ii out4),(.bool any5),(ii (wi (i6 + 1)))] w22)))
  (K (ii out4) w3)
def adv70 : Adv := (.sq .lf (.sq .lf (.sq .lf (.sq (.sq .lf (.bl (.lp [(3,.sc (.int .i64)),(4,.sc (.bool)),(5,.sc (.int .i64))] (.sq (.sq .lf (.cd .lf .lf)) (.sq (.bl (.sq .lf (.sq (.sq .lf (.bl (.lp [(6,.sc (.int .i64)),(7,.sc (.int .i64))] (.sq (.sq .lf (.cd .lf .lf)) (.sq (.bl (.sq .lf (.cd .lf .lf))) .lf))))) (.sq .lf (.cd (.sq .lf .lf) .lf))))) .lf))))) (.sq .lf .lf)))))
set_option maxRecDepth 100000 in
theorem in70 {hk : Hook} {match0 : AV} {w : AW} {K : AV → AW → Prop} (hn : hk 70 [match0] w = none) (h : F70 hk match0 w K) : Cl Tryz.prog hk 70 [match0] w K :=
 fnS_ok (adv := adv70) Tryz.func70 hn (Eq.mpr (by kernel_rfl) h)
def F79 (hk : Hook) (base0 : Int) (l_1 : AV) (w : AW) (K : AV → AW → Prop) : Prop :=
 ∃ x2 : Int,lenS l_1 = some (ii x2) ∧
 K (ii (wi (base0 + x2))) w
def adv79 : Adv := (.sq .lf (.sq .lf .lf))
set_option maxRecDepth 100000 in
theorem in79 {hk : Hook} {base0 : Int} {l_1 : AV} {w : AW} {K : AV → AW → Prop} (hn : hk 79 [(ii base0),l_1] w = none) (h : F79 hk base0 l_1 w K) : Cl Tryz.prog hk 79 [(ii base0),l_1] w K :=
 fnS_ok (adv := adv79) Tryz.func79 hn (Eq.mpr (by kernel_rfl) h)
def F80 (hk : Hook) (s0 f1 : AV) (w : AW) (K : AV → AW → Prop) : Prop :=
 Cl Tryz.prog hk 110 [s0,f1] w fun r2 w3 =>
 ∃ x4 : Int,r2 = (ii x4) ∧
 K (.bool (decide (0 ≤ x4))) w3
def adv80 : Adv := (.sq .lf (.sq .lf .lf))
set_option maxRecDepth 100000 in
theorem in80 {hk : Hook} {s0 f1 : AV} {w : AW} {K : AV → AW → Prop} (hn : hk 80 [s0,f1] w = none) (h : F80 hk s0 f1 w K) : Cl Tryz.prog hk 80 [s0,f1] w K :=
 fnS_ok (adv := adv80) Tryz.func80 hn (Eq.mpr (by kernel_rfl) h)
def F81 (hk : Hook) (x0 : Int) (cap1 cap2 : AV) (w : AW) (K : AV → AW → Prop) : Prop :=
 onP cap1 fun b3 o4 =>
 ∃ x5 : Int,ld w b3 o4 = some (ii x5) ∧
 ifT (decide (x0 < x5)) (K (.bool true) w)
 (onP cap2 fun b6 o7 =>
 ∃ x8 : Int,ld w b6 o7 = some (ii x8) ∧
 K (.bool (decide (x8 < x0))) w)
def adv81 : Adv := (.sq .lf (.sq .lf .lf))
set_option maxRecDepth 100000 in
theorem in81 {hk : Hook} {x0 : Int} {cap1 cap2 : AV} {w : AW} {K : AV → AW → Prop} (hn : hk 81 [(ii x0),cap1,cap2] w = none) (h : F81 hk x0 cap1 cap2 w K) : Cl Tryz.prog hk 81 [(ii x0),cap1,cap2] w K :=
 fnS_ok (adv := adv81) Tryz.func81 hn (Eq.mpr (by kernel_rfl) h)
def F82 (hk : Hook) (s0 : AV) (v1 : Bool) (w : AW) (K : AV → AW → Prop) : Prop :=
 Cl Tryz.prog hk 111 [s0,(.bool v1)] w fun r2 w3 =>
 ∃ x4 : Int,r2 = (ii x4) ∧
 K (.bool (decide (0 ≤ x4))) w3
def adv82 : Adv := (.sq .lf (.sq .lf .lf))
set_option maxRecDepth 100000 in
theorem in82 {hk : Hook} {s0 : AV} {v1 : Bool} {w : AW} {K : AV → AW → Prop} (hn : hk 82 [s0,(.bool v1)] w = none) (h : F82 hk s0 v1 w K) : Cl Tryz.prog hk 82 [s0,(.bool v1)] w K :=
 fnS_ok (adv := adv82) Tryz.func82 hn (Eq.mpr (by kernel_rfl) h)
def F97 (hk : Hook) (base0 baseTerm1 : Int) (l_2 : AV) (index3 : Int) (w : AW) (K : AV → AW → Prop) : Prop :=
 ifT (decide (index3 = base0)) (K (.tup [(ii baseTerm1),(.bool true)]) w)
 (ifT (decide (index3 < base0)) (K (.tup [(ii 0),(.bool false)]) w)
  (Cl Tryz.prog hk 79 [(ii base0),l_2] w fun r4 w5 =>
  ∃ x6 : Int,r4 = (ii x6) ∧
  ifT (decide (x6 < index3)) (K (.tup [(ii 0),(.bool false)]) w5)
  (be (wi ((wi (index3 - base0)) - 1)) fun x7 =>
 atP (idxS 2 l_2 (ii x7)) fun b8 o9 =>
 ∃ x10 : Int,ld w5 b8 (o9 + 0) = some (ii x10) ∧
 K (.tup [(ii x10),(.bool true)]) w5)))
def adv97 : Adv := (.sq .lf (.sq (.bl (.sq .lf (.cd (.sq .lf .lf) (.sq .lf (.cd (.sq .lf .lf) .lf))))) (.sq .lf .lf)))
set_option maxRecDepth 100000 in
theorem in97 {hk : Hook} {base0 baseTerm1 : Int} {l_2 : AV} {index3 : Int} {w : AW} {K : AV → AW → Prop} (hn : hk 97 [(ii base0),(ii baseTerm1),l_2,(ii index3)] w = none) (h : F97 hk base0 baseTerm1 l_2 index3 w K) : Cl Tryz.prog hk 97 [(ii base0),(ii baseTerm1),l_2,(ii index3)] w K :=
 fnS_ok (adv := adv97) Tryz.func97 hn (Eq.mpr (by kernel_rfl) h)
def F103 (hk : Hook) (base0 baseTerm1 : Int) (l_2 : AV) (index3 : Int) (w : AW) (K : AV → AW → Prop) : Prop :=
 ifT (decide (index3 = base0)) (K (.tup [(ii baseTerm1),(.bool true)]) w)
 (loopP [(ii 0)] w fun R4 l_5 w6 => ∃ i7 : Int,l_5 = [(ii i7)] ∧ ∀ _ : Nat → AV,
  ∃ x8 : Int,lenS l_2 = some (ii x8) ∧
  ifT (decide (i7 < x8)) (ifT (decide ((wi ((wi (base0 + 1)) + i7)) = index3)) (atP (idxS 2 l_2 (ii i7)) fun b9 o10 =>
  ∃ x11 : Int,ld w6 b9 (o10 + 0) = some (ii x11) ∧
  K (.tup [(ii x11),(.bool true)]) w6)
  (R4 [(ii (wi (i7 + 1)))] w6))
  (K (.tup [(ii 0),(.bool false)]) w6))
def adv103 : Adv := (.sq .lf (.sq (.sq .lf (.cd (.sq .lf .lf) .lf)) (.sq (.sq .lf (.bl (.lp [(10,.sc (.int .i64))] (.sq (.sq .lf (.cd .lf .lf)) (.sq (.bl (.sq .lf (.cd (.sq .lf .lf) .lf))) .lf))))) (.sq .lf .lf))))
set_option maxRecDepth 100000 in
theorem in103 {hk : Hook} {base0 baseTerm1 : Int} {l_2 : AV} {index3 : Int} {w : AW} {K : AV → AW → Prop} (hn : hk 103 [(ii base0),(ii baseTerm1),l_2,(ii index3)] w = none) (h : F103 hk base0 baseTerm1 l_2 index3 w K) : Cl Tryz.prog hk 103 [(ii base0),(ii baseTerm1),l_2,(ii index3)] w K :=
 fnS_ok (adv := adv103) Tryz.func103 hn (Eq.mpr (by kernel_rfl) h)
def F104 (hk : Hook) (n0 : Int) (cap1 : AV) (w : AW) (K : AV → AW → Prop) : Prop :=
 onP cap1 fun b2 o3 =>
 onM (ld w b2 o3) fun x4 =>
 ∃ x5 : Int,lenS x4 = some (ii x5) ∧
 loopP [(ii 0),(ii 0)] w fun R6 l_7 w8 => ∃ k9 x10 : Int,l_7 = [(ii k9),(ii x10)] ∧ ∀ _ : Nat → AV,
  ifT (decide (x10 < x5)) (atP (idxS 1 x4 (ii x10)) fun b11 o12 =>
  ∃ m13 : Int,ld w8 b11 o12 = some (ii m13) ∧
  ifT (decide (n0 ≤ m13)) (R6 [(ii (wi (k9 + 1))),(ii (wi (x10 + 1)))] w8)
  (R6 [(ii k9),(ii (wi (x10 + 1)))] w8))
  (K (ii k9) w8)
def adv104 : Adv := (.sq .lf (.sq .lf (.sq (.sq .lf (.bl (.lp [(4,.sc (.int .i64)),(9,.sc (.int .i64))] (.sq .lf (.sq (.cd .lf .lf) (.sq (.bl (.sq .lf (.sq .lf (.cd .lf .lf)))) .lf)))))) (.sq .lf .lf))))
set_option maxRecDepth 100000 in
theorem in104 {hk : Hook} {n0 : Int} {cap1 : AV} {w : AW} {K : AV → AW → Prop} (hn : hk 104 [(ii n0),cap1] w = none) (h : F104 hk n0 cap1 w K) : Cl Tryz.prog hk 104 [(ii n0),cap1] w K :=
 fnS_ok (adv := adv104) Tryz.func104 hn (Eq.mpr (by kernel_rfl) h)
def F105 (hk : Hook) (seq0 : AV) (w : AW) (K : AV → AW → Prop) : Prop :=
 Cl Tryz.prog hk 121 [seq0] w fun r1 w2 =>
 Cl Tryz.prog hk 122 [r1] w2 fun r3 w4 =>
 r3 = .tup [] ∧
 K r1 w4
def adv105 : Adv := (.sq .lf (.sq .lf (.sq .lf (.sq .lf .lf))))
set_option maxRecDepth 100000 in
theorem in105 {hk : Hook} {seq0 : AV} {w : AW} {K : AV → AW → Prop} (hn : hk 105 [seq0] w = none) (h : F105 hk seq0 w K) : Cl Tryz.prog hk 105 [seq0] w K :=
 fnS_ok (adv := adv105) Tryz.func105 hn (Eq.mpr (by kernel_rfl) h)
def F106 (hk : Hook) (s0 : AV) (w : AW) (K : AV → AW → Prop) : Prop :=
 gd (okCell s0) (
 new w [s0] fun b1 w2 =>
 K (.func 123 [] [(.ptr b1 0)]) w2)
def adv106 : Adv := (.sq .lf (.sq .lf .lf))
set_option maxRecDepth 100000 in
theorem in106 {hk : Hook} {s0 : AV} {w : AW} {K : AV → AW → Prop} (hn : hk 106 [s0] w = none) (h : F106 hk s0 w K) : Cl Tryz.prog hk 106 [s0] w K :=
 fnS_ok (adv := adv106) Tryz.func106 hn (Eq.mpr (by kernel_rfl) h)
def F107 (hk : Hook) (s0 : AV) (w : AW) (K : AV → AW → Prop) : Prop :=
 ∃ x1 : Int,lenS s0 = some (ii x1) ∧
 loopP [(ii 0),(ii (wi (x1 - 1)))] w fun R2 l_3 w4 => ∃ i5 j6 : Int,l_3 = [(ii i5),(ii j6)] ∧ ∀ _ : Nat → AV,
  ifT (decide (i5 < j6)) (atP (idxS 1 s0 (ii j6)) fun b7 o8 =>
  ∃ x9 : Int,ld w4 b7 o8 = some (ii x9) ∧
  atP (idxS 1 s0 (ii i5)) fun b10 o11 =>
  ∃ x12 : Int,ld w4 b10 o11 = some (ii x12) ∧
  atP (idxS 1 s0 (ii i5)) fun b13 o14 =>
  onM (AW.putCells w4 b13 o14 [(ii x9)]) fun w15 =>
  atP (idxS 1 s0 (ii j6)) fun b16 o17 =>
  onM (AW.putCells w15 b16 o17 [(ii x12)]) fun w18 =>
  R2 [(ii (wi (i5 + 1))),(ii (wi (j6 - 1)))] w18)
  (K (.tup []) w4)
def adv107 : Adv := (.sq .lf (.bl (.lp [(2,.sc (.int .i64)),(3,.sc (.int .i64))] (.sq (.sq .lf (.cd .lf .lf)) (.sq (.bl .lf) .lf)))))
set_option maxRecDepth 100000 in
theorem in107 {hk : Hook} {s0 : AV} {w : AW} {K : AV → AW → Prop} (hn : hk 107 [s0] w = none) (h : F107 hk s0 w K) : Cl Tryz.prog hk 107 [s0] w K :=
 fnS_ok (adv := adv107) Tryz.func107 hn (Eq.mpr (by kernel_rfl) h)
def F108 (hk : Hook) (n0 size1 : Int) (w : AW) (K : AV → AW → Prop) : Prop :=
 K (.bool (decide ((wi (size1 - n0)) < n0))) w
def adv108 : Adv := (.sq .lf (.sq .lf .lf))
set_option maxRecDepth 100000 in
theorem in108 {hk : Hook} {n0 size1 : Int} {w : AW} {K : AV → AW → Prop} (hn : hk 108 [(ii n0),(ii size1)] w = none) (h : F108 hk n0 size1 w K) : Cl Tryz.prog hk 108 [(ii n0),(ii size1)] w K :=
 fnS_ok (adv := adv108) Tryz.func108 hn (Eq.mpr (by kernel_rfl) h)
def F109 (hk : Hook) (n0 size1 : Int) (w : AW) (K : AV → AW → Prop) : Prop :=
 K (.bool (decide ((wi (Int.tdiv size1 2)) < n0))) w
def adv109 : Adv := (.sq .lf (.sq .lf .lf))
set_option maxRecDepth 100000 in
theorem in109 {hk : Hook} {n0 size1 : Int} {w : AW} {K : AV → AW → Prop} (hn : hk 109 [(ii n0),(ii size1)] w = none) (h : F109 hk n0 size1 w K) : Cl Tryz.prog hk 109 [(ii n0),(ii size1)] w K :=
 fnS_ok (adv := adv109) Tryz.func109 hn (Eq.mpr (by kernel_rfl) h)
def F110 (hk : Hook) (s0 f1 : AV) (w : AW) (K : AV → AW → Prop) : Prop :=
 ∃ x2 : Int,lenS s0 = some (ii x2) ∧
 loopP [(ii 0)] w fun R3 l_4 w5 => ∃ x6 : Int,l_4 = [(ii x6)] ∧ ∀ _ : Nat → AV,
  ifT (decide (x6 < x2)) (atP (idxS 1 s0 (ii x6)) fun b7 o8 =>
  ∃ x9 : Int,ld w5 b7 o8 = some (ii x9) ∧
  Cv Tryz.prog hk f1 [(ii x9)] w5 fun r10 w11 =>
  ∃ x12 : Bool,r10 = (.bool x12) ∧
  ifT x12 (K (ii x6) w11)
  (R3 [(ii (wi (x6 + 1)))] w11))
  (K (ii (-1)) w5)
def adv110 : Adv := (.sq .lf (.sq (.sq .lf (.bl (.lp [(8,.sc (.int .i64))] (.sq .lf (.sq (.cd .lf .lf) (.sq (.bl (.sq .lf (.sq .lf (.cd (.sq .lf .lf) .lf)))) .lf)))))) (.sq .lf .lf)))
set_option maxRecDepth 100000 in
theorem in110 {hk : Hook} {s0 f1 : AV} {w : AW} {K : AV → AW → Prop} (hn : hk 110 [s0,f1] w = none) (h : F110 hk s0 f1 w K) : Cl Tryz.prog hk 110 [s0,f1] w K :=
 fnS_ok (adv := adv110) Tryz.func110 hn (Eq.mpr (by kernel_rfl) h)
def F111 (hk : Hook) (s0 : AV) (v1 : Bool) (w : AW) (K : AV → AW → Prop) : Prop :=
 ∃ x2 : Int,lenS s0 = some (ii x2) ∧
 loopP [(ii 0)] w fun R3 l_4 w5 => ∃ x6 : Int,l_4 = [(ii x6)] ∧ ∀ _ : Nat → AV,
  ifT (decide (x6 < x2)) (atP (idxS 1 s0 (ii x6)) fun b7 o8 =>
  ∃ x9 : Bool,ld w5 b7 o8 = some (.bool x9) ∧
  ifT (v1 == x9) (K (ii x6) w5)
  (R3 [(ii (wi (x6 + 1)))] w5))
  (K (ii (-1)) w5)
def adv111 : Adv := (.sq .lf (.sq (.sq .lf (.bl (.lp [(8,.sc (.int .i64))] (.sq .lf (.sq (.cd .lf .lf) (.sq (.bl (.sq .lf (.sq .lf (.cd (.sq .lf .lf) .lf)))) .lf)))))) (.sq .lf .lf)))
set_option maxRecDepth 100000 in
theorem in111 {hk : Hook} {s0 : AV} {v1 : Bool} {w : AW} {K : AV → AW → Prop} (hn : hk 111 [s0,(.bool v1)] w = none) (h : F111 hk s0 v1 w K) : Cl Tryz.prog hk 111 [s0,(.bool v1)] w K :=
 fnS_ok (adv := adv111) Tryz.func111 hn (Eq.mpr (by kernel_rfl) h)
def F119 (hk : Hook) (commit0 term1 base2 baseTerm3 : Int) (l_4 match5 : AV) (w : AW) (K : AV → AW → Prop) : Prop :=
 Cl Tryz.prog hk 66 [match5] w fun r6 w7 =>
 ∃ x8 : Int,r6 = (ii x8) ∧
 Cl Tryz.prog hk 79 [(ii base2),l_4] w7 fun r9 w10 =>
 ∃ x11 : Int,r9 = (ii x11) ∧
 loopP [(ii (imin x8 x11))] w10 fun R12 l_13 w14 => ∃ n15 : Int,l_13 = [(ii n15)] ∧ ∀ _ : Nat → AV,
  ifT (decide (commit0 < n15)) (ifT (decide (base2 ≤ n15)) (Cl Tryz.prog hk 97 [(ii base2),(ii baseTerm3),l_4,(ii n15)] w14 fun r16 w17 =>
  ∃ x18 : Int,∃ x19 : Bool,r16 = .tup [(ii x18),(.bool x19)] ∧
  ifT x19 (ifT (decide (x18 = term1)) (K (ii n15) w17)
  (R12 [(ii (wi (n15 - 1)))] w17))
  (R12 [(ii (wi (n15 - 1)))] w17))
  (K (ii commit0) w14))
  (K (ii commit0) w14)
def adv119 : Adv := (.sq .lf (.sq (.sq .lf (.bl (.lp [(13,.sc (.int .i64))] (.sq (.sq .lf (.cd .lf .lf)) (.sq (.bl (.sq .lf (.sq .lf (.cd (.sq .lf .lf) .lf)))) .lf))))) (.sq .lf .lf)))
set_option maxRecDepth 100000 in
theorem in119 {hk : Hook} {commit0 term1 base2 baseTerm3 : Int} {l_4 match5 : AV} {w : AW} {K : AV → AW → Prop} (hn : hk 119 [(ii commit0),(ii term1),(ii base2),(ii baseTerm3),l_4,match5] w = none) (h : F119 hk commit0 term1 base2 baseTerm3 l_4 match5 w K) : Cl Tryz.prog hk 119 [(ii commit0),(ii term1),(ii base2),(ii baseTerm3),l_4,match5] w K :=
 fnS_ok (adv := adv119) Tryz.func119 hn (Eq.mpr (by kernel_rfl) h)
def F120 (hk : Hook) (commit0 term1 base2 baseTerm3 : Int) (l_4 match5 : AV) (w : AW) (K : AV → AW → Prop) : Prop :=
 loopP [(ii commit0),(ii base2)] w fun R6 l_7 w8 => ∃ out9 n10 : Int,l_7 = [(ii out9),(ii n10)] ∧ ∀ _ : Nat → AV,
  ∃ x11 : Int,lenS l_4 = some (ii x11) ∧
  ifT (decide (n10 ≤ (wi (base2 + x11)))) (Cl Tryz.prog hk 103 [(ii base2),(ii baseTerm3),l_4,(ii n10)] w8 fun r12 w13 =>
  ∃ x14 : Int,∃ x15 : Bool,r12 = .tup [(ii x14),(.bool x15)] ∧
  ifT x15 (ifT (decide (commit0 < n10)) (Cl Tryz.prog hk 70 [match5] w13 fun r16 w17 =>
  ∃ x18 : Int,r16 = (ii x18) ∧
  ifT (decide (n10 ≤ x18)) (ifT (decide (x14 = term1)) (R6 [(ii n10),(ii (wi (n10 + 1)))] w17)
  (R6 [(ii out9),(ii (wi (n10 + 1)))] w17))
  (R6 [(ii out9),(ii (wi (n10 + 1)))] w17))
  (R6 [(ii out9),(ii (wi (n10 + 1)))] w13))
  (R6 [(ii out9),(ii (wi (n10 + 1)))] w13))
  (K (ii out9) w8)
def adv120 : Adv := (.sq .lf (.sq .lf (.sq (.sq .lf (.bl (.lp [(13,.sc (.int .i64)),(14,.sc (.int .i64))] (.sq (.sq .lf (.cd .lf .lf)) (.sq (.bl (.sq .lf (.sq .lf (.cd .lf .lf)))) .lf))))) (.sq .lf .lf))))
set_option maxRecDepth 100000 in
theorem in120 {hk : Hook} {commit0 term1 base2 baseTerm3 : Int} {l_4 match5 : AV} {w : AW} {K : AV → AW → Prop} (hn : hk 120 [(ii commit0),(ii term1),(ii base2),(ii baseTerm3),l_4,match5] w = none) (h : F120 hk commit0 term1 base2 baseTerm3 l_4 match5 w K) : Cl Tryz.prog hk 120 [(ii commit0),(ii term1),(ii base2),(ii baseTerm3),l_4,match5] w K :=
 fnS_ok (adv := adv120) Tryz.func120 hn (Eq.mpr (by kernel_rfl) h)
def F121 (hk : Hook) (seq0 : AV) (w : AW) (K : AV → AW → Prop) : Prop :=
 Cl Tryz.prog hk 128 [.nilslice,seq0] w fun r1 w2 =>
 K r1 w2
def adv121 : Adv := (.sq .lf (.sq .lf .lf))
set_option maxRecDepth 100000 in
theorem in121 {hk : Hook} {seq0 : AV} {w : AW} {K : AV → AW → Prop} (hn : hk 121 [seq0] w = none) (h : F121 hk seq0 w K) : Cl Tryz.prog hk 121 [seq0] w K :=
 fnS_ok (adv := adv121) Tryz.func121 hn (Eq.mpr (by kernel_rfl) h)
def F123 (hk : Hook) (yield0 cap1 : AV) (w : AW) (K : AV → AW → Prop) : Prop :=
 onP cap1 fun b2 o3 =>
 onM (ld w b2 o3) fun x4 =>
 ∃ x5 : Int,lenS x4 = some (ii x5) ∧
 loopP [(ii 0)] w fun R6 l_7 w8 => ∃ x9 : Int,l_7 = [(ii x9)] ∧ ∀ _ : Nat → AV,
  ifT (decide (x9 < x5)) (atP (idxS 1 x4 (ii x9)) fun b10 o11 =>
  ∃ v12 : Int,ld w8 b10 o11 = some (ii v12) ∧
  Cv Tryz.prog hk yield0 [(ii v12)] w8 fun r13 w14 =>
  ∃ x15 : Bool,r13 = (.bool x15) ∧
  ifT (!x15) (K (.tup []) w14)
  (R6 [(ii (wi (x9 + 1)))] w14))
  (K (.tup []) w8)
def adv123 : Adv := (.sq .lf (.bl (.lp [(7,.sc (.int .i64))] (.sq .lf (.sq (.cd .lf .lf) (.sq (.bl (.sq .lf (.sq .lf (.cd .lf .lf)))) .lf))))))
set_option maxRecDepth 100000 in
theorem in123 {hk : Hook} {yield0 cap1 : AV} {w : AW} {K : AV → AW → Prop} (hn : hk 123 [yield0,cap1] w = none) (h : F123 hk yield0 cap1 w K) : Cl Tryz.prog hk 123 [yield0,cap1] w K :=
 fnS_ok (adv := adv123) Tryz.func123 hn (Eq.mpr (by kernel_rfl) h)
set_option maxRecDepth 100000 in
def F56 (hk : Hook) (n0 n1 n2 n3 n4 n5 n6 n7 : Int) (n8 n9 : AV) (n10 : Int) (n11 n12 n13 n14 : AV) (n15 n16 n17 : Int) (n18 : AV) (w : AW) (K : AV → AW → Prop) : Prop :=
 gd (List.all [(ii n0),(ii n1),(.int .u8 n2),(ii n3),(ii n4),(ii n5),(ii n6),(ii n7),n8,n9,(ii n10),n11,n12,n13,n14,(ii n15),(ii n16),(ii n17),n18] okCell) (
 new w [(ii n0),(ii n1),(.int .u8 n2),(ii n3),(ii n4),(ii n5),(ii n6),(ii n7),n8,n9,(ii n10),n11,n12,n13,n14,(ii n15),(ii n16),(ii n17),n18] fun b19 w20 =>
 ∃ x21 : Int,ld w20 b19 (0 + 1) = some (ii x21) ∧
 ifT (decide (x21 < 1)) (K (.bool false) w20)
 (∃ x22 : Int,ld w20 b19 (0 + 1) = some (ii x22) ∧
 ifT (decide (9 < x22)) (K (.bool false) w20)
 (∃ x23 : Int,ld w20 b19 (0 + 0) = some (ii x23) ∧
 ifT (decide (x23 < 1)) (K (.bool false) w20)
 (∃ x24 : Int,ld w20 b19 (0 + 0) = some (ii x24) ∧
 ∃ x25 : Int,ld w20 b19 (0 + 1) = some (ii x25) ∧
 ifT (decide (x25 < x24)) (K (.bool false) w20)
 (∃ x26 : Int,ld w20 b19 (0 + 2) = some (.int .u8 x26) ∧
 ifT (decide (x26 < 1)) (K (.bool false) w20)
 (∃ x27 : Int,ld w20 b19 (0 + 2) = some (.int .u8 x27) ∧
 ifT (decide (3 < x27)) (K (.bool false) w20)
 (∃ x28 : Int,ld w20 b19 (0 + 3) = some (ii x28) ∧
 ifT (decide (x28 < 0)) (K (.bool false) w20)
 (∃ x29 : Int,ld w20 b19 (0 + 3) = some (ii x29) ∧
 ifT (decide (1099511627776 < x29)) (K (.bool false) w20)
 (∃ x30 : Int,ld w20 b19 (0 + 4) = some (ii x30) ∧
 ifT (decide (x30 < 0)) (K (.bool false) w20)
 (∃ x31 : Int,ld w20 b19 (0 + 4) = some (ii x31) ∧
 ∃ x32 : Int,ld w20 b19 (0 + 1) = some (ii x32) ∧
 ifT (decide (x32 < x31)) (K (.bool false) w20)
 (∃ x33 : Int,ld w20 b19 (0 + 5) = some (ii x33) ∧
 ifT (decide (x33 < 0)) (K (.bool false) w20)
 (∃ x34 : Int,ld w20 b19 (0 + 5) = some (ii x34) ∧
 ∃ x35 : Int,ld w20 b19 (0 + 1) = some (ii x35) ∧
 ifT (decide (x35 < x34)) (K (.bool false) w20)
 (∃ x36 : Int,ld w20 b19 (0 + 6) = some (ii x36) ∧
 ifT (decide (x36 < 0)) (K (.bool false) w20)
 (∃ x37 : Int,ld w20 b19 (0 + 6) = some (ii x37) ∧
 ifT (decide (1099511627776 < x37)) (K (.bool false) w20)
 (∃ x38 : Int,ld w20 b19 (0 + 7) = some (ii x38) ∧
 ifT (decide (x38 < 0)) (K (.bool false) w20)
 (∃ x39 : Int,ld w20 b19 (0 + 7) = some (ii x39) ∧
 ∃ x40 : Int,ld w20 b19 (0 + 3) = some (ii x40) ∧
 onM (ld w20 b19 (0 + 9)) fun x41 =>
 Cl Tryz.prog hk 99 [(ii x39),(ii x40),x41] w20 fun r42 w43 =>
 ∃ x44 : Bool,r42 = (.bool x44) ∧
 ifT (!x44) (K (.bool false) w43)
 (∃ x45 : Int,ld w43 b19 (0 + 10) = some (ii x45) ∧
 ∃ x46 : Int,ld w43 b19 (0 + 6) = some (ii x46) ∧
 ifT (decide (x45 < x46)) (K (.bool false) w43)
 (∃ x47 : Int,ld w43 b19 (0 + 10) = some (ii x47) ∧
 ∃ x48 x49 x50 x51 x52 x53 x54 x55 : Int,∃ x56 x57 : AV,∃ x58 : Int,∃ x59 x60 x61 x62 : AV,∃ x63 x64 x65 : Int,∃ x66 : AV,ldN 19 w43 b19 0 = some (.agg [(ii x48),(ii x49),(.int .u8 x50),(ii x51),(ii x52),(ii x53),(ii x54),(ii x55),x56,x57,(ii x58),x59,x60,x61,x62,(ii x63),(ii x64),(ii x65),x66]) ∧
 Cl Tryz.prog hk 58 [(.agg [(ii x48),(ii x49),(.int .u8 x50),(ii x51),(ii x52),(ii x53),(ii x54),(ii x55),x56,x57,(ii x58),x59,x60,x61,x62,(ii x63),(ii x64),(ii x65),x66])] w43 fun r67 w68 =>
 ∃ x69 : Int,r67 = (ii x69) ∧
 ld w68 b19 (0 + 10) = some (ii x47) ∧
 ifT (decide (x69 < x47)) (K (.bool false) w68)
 (onM (ld w68 b19 (0 + 8)) fun x70 =>
 ∃ x71 : Int,lenS x70 = some (ii x71) ∧
 ifT (decide (60000 < x71)) (K (.bool false) w68)
 (∃ x72 : Int,ld w68 b19 (0 + 16) = some (ii x72) ∧
 ifT (decide (x72 < 0)) (K (.bool false) w68)
 (∃ x73 : Int,ld w68 b19 (0 + 16) = some (ii x73) ∧
 ifT (decide (1099511627776 < x73)) (K (.bool false) w68)
 (∃ x74 : Int,ld w68 b19 (0 + 17) = some (ii x74) ∧
 ifT (decide (x74 < 1)) (K (.bool false) w68)
 (∃ x75 : Int,ld w68 b19 (0 + 17) = some (ii x75) ∧
 ifT (decide (1099511627776 < x75)) (K (.bool false) w68)
 (∃ x76 : Int,ld w68 b19 (0 + 15) = some (ii x76) ∧
 ifT (decide (x76 < 0)) (K (.bool false) w68)
 (∃ x77 : Int,ld w68 b19 (0 + 15) = some (ii x77) ∧
 ifT (decide (1099511627776 < x77)) (K (.bool false) w68)
 (onM (ld w68 b19 (0 + 18)) fun x78 =>
 ∃ x79 : Int,lenS x78 = some (ii x79) ∧
 ifT (decide (64 < x79)) (K (.bool false) w68)
 (onM (ld w68 b19 (0 + 11)) fun x80 =>
 ∃ x81 : Int,lenS x80 = some (ii x81) ∧
 ∃ x82 : Int,ld w68 b19 (0 + 1) = some (ii x82) ∧
 ifT (!decide (x81 = x82)) (K (.bool false) w68)
 (onM (ld w68 b19 (0 + 12)) fun x83 =>
 ∃ x84 : Int,lenS x83 = some (ii x84) ∧
 ∃ x85 : Int,ld w68 b19 (0 + 1) = some (ii x85) ∧
 ifT (!decide (x84 = x85)) (K (.bool false) w68)
 (onM (ld w68 b19 (0 + 13)) fun x86 =>
 ∃ x87 : Int,lenS x86 = some (ii x87) ∧
 ∃ x88 : Int,ld w68 b19 (0 + 1) = some (ii x88) ∧
 ifT (!decide (x87 = x88)) (K (.bool false) w68)
 (onM (ld w68 b19 (0 + 14)) fun x89 =>
 ∃ x90 : Int,lenS x89 = some (ii x90) ∧
 ∃ x91 : Int,ld w68 b19 (0 + 1) = some (ii x91) ∧
 ifT (!decide (x90 = x91)) (K (.bool false) w68)
 (loopP [(ii 0)] w68 fun R92 l_93 w94 => ∃ i95 : Int,l_93 = [(ii i95)] ∧ ∀ _ : Nat → AV,
  onM (ld w94 b19 (0 + 18)) fun x96 =>
  ∃ x97 : Int,lenS x96 = some (ii x97) ∧
  ifT (decide (i95 < x97)) (join (fun l_98 w99 => ∃ low101 : Int,l_98 = [(ii low101)] ∧ ∀ _ : Nat → AV,
  onM (ld w99 b19 (0 + 18)) fun x102 =>
  atP (idxS 3 x102 (ii i95)) fun b103 o104 =>
  ∃ x105 : Int,ld w99 b103 (o104 + 2) = some (ii x105) ∧
  ifT (decide (x105 < low101)) (K (.bool false) w99)
  (onM (ld w99 b19 (0 + 18)) fun x106 =>
  atP (idxS 3 x106 (ii i95)) fun b107 o108 =>
  ∃ x109 : Int,ld w99 b107 (o108 + 2) = some (ii x109) ∧
  ∃ x110 : Int,ld w99 b19 (0 + 15) = some (ii x110) ∧
  ifT (decide (x110 < x109)) (K (.bool false) w99)
  (R92 [(ii (wi (i95 + 1)))] w99))) fun J100 =>
  ifT (decide (0 < i95)) (onM (ld w94 b19 (0 + 18)) fun x111 =>
  atP (idxS 3 x111 (ii (wi (i95 - 1)))) fun b112 o113 =>
  ∃ low114 : Int,ld w94 b112 (o113 + 2) = some (ii low114) ∧
  ∃ x115 : Int,ld w94 b19 (0 + 15) = some (ii x115) ∧
  ifT (decide (low114 < x115)) (J100 [(ii (wi (low114 + 1)))] w94)
  (K (.bool false) w94))
  (J100 [(ii 1)] w94))
  (∃ x116 x117 x118 x119 x120 x121 x122 x123 : Int,∃ x124 x125 : AV,∃ x126 : Int,∃ x127 x128 x129 x130 : AV,∃ x131 x132 x133 : Int,∃ x134 : AV,ldN 19 w94 b19 0 = some (.agg [(ii x116),(ii x117),(.int .u8 x118),(ii x119),(ii x120),(ii x121),(ii x122),(ii x123),x124,x125,(ii x126),x127,x128,x129,x130,(ii x131),(ii x132),(ii x133),x134]) ∧
 Cl Tryz.prog hk 100 [(.agg [(ii x116),(ii x117),(.int .u8 x118),(ii x119),(ii x120),(ii x121),(ii x122),(ii x123),x124,x125,(ii x126),x127,x128,x129,x130,(ii x131),(ii x132),(ii x133),x134])] w94 fun r135 w136 =>
 ∃ x137 : Bool,r135 = (.bool x137) ∧
 K (.bool x137) w136))))))))))))))))))))))))))))))))
def adv56 : Adv := (.sq .lf (.sq (.sq .lf (.cd (.sq .lf .lf) .lf)) (.sq (.sq .lf (.cd (.sq .lf .lf) .lf)) (.sq (.sq .lf (.cd (.sq .lf .lf) .lf)) (.sq (.sq .lf (.cd (.sq .lf .lf) .lf)) (.sq (.sq .lf (.cd (.sq .lf .lf) .lf)) (.sq (.sq .lf (.bl (.lp [(3,.sc (.int .i64))] (.sq (.sq .lf (.cd .lf .lf)) (.sq (.bl (.sq .lf (.sj [(4,.sc (.int .i64))] (.sq .lf (.cd (.sq .lf (.sq .lf (.cd .lf (.sq .lf .lf)))) .lf)) (.sq .lf (.cd (.sq .lf .lf) .lf))))) .lf))))) (.sq .lf .lf))))))))
set_option maxRecDepth 100000 in
theorem in56 {hk : Hook} {n0 n1 n2 n3 n4 n5 n6 n7 : Int} {n8 n9 : AV} {n10 : Int} {n11 n12 n13 n14 : AV} {n15 n16 n17 : Int} {n18 : AV} {w : AW} {K : AV → AW → Prop} (hn : hk 56 [(.agg [(ii n0),(ii n1),(.int .u8 n2),(ii n3),(ii n4),(ii n5),(ii n6),(ii n7),n8,n9,(ii n10),n11,n12,n13,n14,(ii n15),(ii n16),(ii n17),n18])] w = none) (h : F56 hk n0 n1 n2 n3 n4 n5 n6 n7 n8 n9 n10 n11 n12 n13 n14 n15 n16 n17 n18 w K) : Cl Tryz.prog hk 56 [(.agg [(ii n0),(ii n1),(.int .u8 n2),(ii n3),(ii n4),(ii n5),(ii n6),(ii n7),n8,n9,(ii n10),n11,n12,n13,n14,(ii n15),(ii n16),(ii n17),n18])] w K :=
 fnS_ok (adv := adv56) Tryz.func56 hn (Eq.mpr (by kernel_rfl) h)
def F58 (hk : Hook) (n0 n1 n2 n3 n4 n5 n6 n7 : Int) (n8 n9 : AV) (n10 : Int) (n11 n12 n13 n14 : AV) (n15 n16 n17 : Int) (n18 : AV) (w : AW) (K : AV → AW → Prop) : Prop :=
 gd (List.all [(ii n0),(ii n1),(.int .u8 n2),(ii n3),(ii n4),(ii n5),(ii n6),(ii n7),n8,n9,(ii n10),n11,n12,n13,n14,(ii n15),(ii n16),(ii n17),n18] okCell) (
 new w [(ii n0),(ii n1),(.int .u8 n2),(ii n3),(ii n4),(ii n5),(ii n6),(ii n7),n8,n9,(ii n10),n11,n12,n13,n14,(ii n15),(ii n16),(ii n17),n18] fun b19 w20 =>
 ∃ x21 : Int,ld w20 b19 (0 + 6) = some (ii x21) ∧
 onM (ld w20 b19 (0 + 9)) fun x22 =>
 ∃ x23 : Int,lenS x22 = some (ii x23) ∧
 K (ii (wi (x21 + x23))) w20)
def adv58 : Adv := (.sq .lf (.sq .lf .lf))
set_option maxRecDepth 100000 in
theorem in58 {hk : Hook} {n0 n1 n2 n3 n4 n5 n6 n7 : Int} {n8 n9 : AV} {n10 : Int} {n11 n12 n13 n14 : AV} {n15 n16 n17 : Int} {n18 : AV} {w : AW} {K : AV → AW → Prop} (hn : hk 58 [(.agg [(ii n0),(ii n1),(.int .u8 n2),(ii n3),(ii n4),(ii n5),(ii n6),(ii n7),n8,n9,(ii n10),n11,n12,n13,n14,(ii n15),(ii n16),(ii n17),n18])] w = none) (h : F58 hk n0 n1 n2 n3 n4 n5 n6 n7 n8 n9 n10 n11 n12 n13 n14 n15 n16 n17 n18 w K) : Cl Tryz.prog hk 58 [(.agg [(ii n0),(ii n1),(.int .u8 n2),(ii n3),(ii n4),(ii n5),(ii n6),(ii n7),n8,n9,(ii n10),n11,n12,n13,n14,(ii n15),(ii n16),(ii n17),n18])] w K :=
 fnS_ok (adv := adv58) Tryz.func58 hn (Eq.mpr (by kernel_rfl) h)
def F64 (hk : Hook) (n0 n1 n2 n3 n4 n5 n6 n7 : Int) (n8 n9 : AV) (n10 : Int) (n11 n12 n13 n14 : AV) (n15 n16 n17 : Int) (n18 : AV) (index19 : Int) (w : AW) (K : AV → AW → Prop) : Prop :=
 gd (List.all [(ii n0),(ii n1),(.int .u8 n2),(ii n3),(ii n4),(ii n5),(ii n6),(ii n7),n8,n9,(ii n10),n11,n12,n13,n14,(ii n15),(ii n16),(ii n17),n18] okCell) (
 new w [(ii n0),(ii n1),(.int .u8 n2),(ii n3),(ii n4),(ii n5),(ii n6),(ii n7),n8,n9,(ii n10),n11,n12,n13,n14,(ii n15),(ii n16),(ii n17),n18] fun b20 w21 =>
 ∃ x22 : Int,ld w21 b20 (0 + 6) = some (ii x22) ∧
 ∃ x23 : Int,ld w21 b20 (0 + 7) = some (ii x23) ∧
 onM (ld w21 b20 (0 + 9)) fun x24 =>
 Cl Tryz.prog hk 103 [(ii x22),(ii x23),x24,(ii index19)] w21 fun r25 w26 =>
 ∃ x27 : Int,∃ x28 : Bool,r25 = .tup [(ii x27),(.bool x28)] ∧
 K (.tup [(ii x27),(.bool x28)]) w26)
def adv64 : Adv := (.sq .lf (.sq .lf .lf))
set_option maxRecDepth 100000 in
theorem in64 {hk : Hook} {n0 n1 n2 n3 n4 n5 n6 n7 : Int} {n8 n9 : AV} {n10 : Int} {n11 n12 n13 n14 : AV} {n15 n16 n17 : Int} {n18 : AV} {index19 : Int} {w : AW} {K : AV → AW → Prop} (hn : hk 64 [(.agg [(ii n0),(ii n1),(.int .u8 n2),(ii n3),(ii n4),(ii n5),(ii n6),(ii n7),n8,n9,(ii n10),n11,n12,n13,n14,(ii n15),(ii n16),(ii n17),n18]),(ii index19)] w = none) (h : F64 hk n0 n1 n2 n3 n4 n5 n6 n7 n8 n9 n10 n11 n12 n13 n14 n15 n16 n17 n18 index19 w K) : Cl Tryz.prog hk 64 [(.agg [(ii n0),(ii n1),(.int .u8 n2),(ii n3),(ii n4),(ii n5),(ii n6),(ii n7),n8,n9,(ii n10),n11,n12,n13,n14,(ii n15),(ii n16),(ii n17),n18]),(ii index19)] w K :=
 fnS_ok (adv := adv64) Tryz.func64 hn (Eq.mpr (by kernel_rfl) h)
def F99 (hk : Hook) (low0 high1 : Int) (l_2 : AV) (w : AW) (K : AV → AW → Prop) : Prop :=
 loopP [(ii low0),(ii 0)] w fun R3 l_4 w5 => ∃ low6 i7 : Int,l_4 = [(ii low6),(ii i7)] ∧ ∀ _ : Nat → AV,
  ∃ x8 : Int,lenS l_2 = some (ii x8) ∧
  ifT (decide (i7 < x8)) (atP (idxS 2 l_2 (ii i7)) fun b9 o10 =>
  ∃ x11 : Int,ld w5 b9 (o10 + 0) = some (ii x11) ∧
  ifT (decide (x11 < low6)) (K (.bool false) w5)
  (atP (idxS 2 l_2 (ii i7)) fun b12 o13 =>
  ∃ x14 : Int,ld w5 b12 (o13 + 0) = some (ii x14) ∧
  ifT (decide (high1 < x14)) (K (.bool false) w5)
  (atP (idxS 2 l_2 (ii i7)) fun b15 o16 =>
  onM (ld w5 b15 (o16 + 1)) fun x17 =>
  ∃ x18 : Int,lenS x17 = some (ii x18) ∧
  ifT (decide (60000 < x18)) (K (.bool false) w5)
  (atP (idxS 2 l_2 (ii i7)) fun b19 o20 =>
  ∃ low21 : Int,ld w5 b19 (o20 + 0) = some (ii low21) ∧
  R3 [(ii low21),(ii (wi (i7 + 1)))] w5))))
  (K (.bool (decide (low6 ≤ high1))) w5)
def adv99 : Adv := (.sq .lf (.sq (.sq .lf (.bl (.lp [(0,.sc (.int .i64)),(7,.sc (.int .i64))] (.sq (.sq .lf (.cd .lf .lf)) (.sq (.bl (.sq (.sq .lf (.cd (.sq .lf .lf) .lf)) .lf)) .lf))))) (.sq .lf .lf)))
set_option maxRecDepth 100000 in
theorem in99 {hk : Hook} {low0 high1 : Int} {l_2 : AV} {w : AW} {K : AV → AW → Prop} (hn : hk 99 [(ii low0),(ii high1),l_2] w = none) (h : F99 hk low0 high1 l_2 w K) : Cl Tryz.prog hk 99 [(ii low0),(ii high1),l_2] w K :=
 fnS_ok (adv := adv99) Tryz.func99 hn (Eq.mpr (by kernel_rfl) h)
set_option maxRecDepth 100000 in
def F100 (hk : Hook) (n0 n1 n2 n3 n4 n5 n6 n7 : Int) (n8 n9 : AV) (n10 : Int) (n11 n12 n13 n14 : AV) (n15 n16 n17 : Int) (n18 : AV) (w : AW) (K : AV → AW → Prop) : Prop :=
 gd (List.all [(ii n0),(ii n1),(.int .u8 n2),(ii n3),(ii n4),(ii n5),(ii n6),(ii n7),n8,n9,(ii n10),n11,n12,n13,n14,(ii n15),(ii n16),(ii n17),n18] okCell) (
 new w [(ii n0),(ii n1),(.int .u8 n2),(ii n3),(ii n4),(ii n5),(ii n6),(ii n7),n8,n9,(ii n10),n11,n12,n13,n14,(ii n15),(ii n16),(ii n17),n18] fun b19 w20 =>
 join (fun l_21 w22 => l_21 = [] ∧ ∀ _ : Nat → AV,
  loopP [(ii 0)] w22 fun R24 l_25 w26 => ∃ i27 : Int,l_25 = [(ii i27)] ∧ ∀ _ : Nat → AV,
  ∃ x28 : Int,ld w26 b19 (0 + 1) = some (ii x28) ∧
  ifT (decide (i27 < x28)) (join (fun l_29 w30 => l_29 = [] ∧ ∀ _ : Nat → AV,
   ∃ x32 : Int,ld w30 b19 (0 + 2) = some (.int .u8 x32) ∧
   ifT (!decide (x32 = 2)) (onM (ld w30 b19 (0 + 11)) fun x33 =>
   atP (idxS 1 x33 (ii i27)) fun b34 o35 =>
   ∃ x36 : Bool,ld w30 b34 o35 = some (.bool x36) ∧
   ifT x36 (K (.bool false) w30)
   (R24 [(ii (wi (i27 + 1)))] w30))
   (R24 [(ii (wi (i27 + 1)))] w30)) fun J31 =>
  ∃ x37 : Int,ld w26 b19 (0 + 2) = some (.int .u8 x37) ∧
  ifT (decide (x37 = 3)) (onM (ld w26 b19 (0 + 12)) fun x38 =>
   atP (idxS 1 x38 (ii i27)) fun b39 o40 =>
   ∃ x41 : Int,ld w26 b39 o40 = some (ii x41) ∧
   ifT (decide (x41 < 1)) (K (.bool false) w26)
   (onM (ld w26 b19 (0 + 12)) fun x42 =>
   atP (idxS 1 x42 (ii i27)) fun b43 o44 =>
   ∃ x45 : Int,ld w26 b43 o44 = some (ii x45) ∧
   ∃ x46 x47 x48 x49 x50 x51 x52 x53 : Int,∃ x54 x55 : AV,∃ x56 : Int,∃ x57 x58 x59 x60 : AV,∃ x61 x62 x63 : Int,∃ x64 : AV,ldN 19 w26 b19 0 = some (.agg [(ii x46),(ii x47),(.int .u8 x48),(ii x49),(ii x50),(ii x51),(ii x52),(ii x53),x54,x55,(ii x56),x57,x58,x59,x60,(ii x61),(ii x62),(ii x63),x64]) ∧
   Cl Tryz.prog hk 58 [(.agg [(ii x46),(ii x47),(.int .u8 x48),(ii x49),(ii x50),(ii x51),(ii x52),(ii x53),x54,x55,(ii x56),x57,x58,x59,x60,(ii x61),(ii x62),(ii x63),x64])] w26 fun r65 w66 =>
   ∃ x67 : Int,r65 = (ii x67) ∧
   ld w66 b43 o44 = some (ii x45) ∧
   ld w66 b19 (0 + 12) = some x42 ∧
   ifT (decide ((wi (x67 + 1)) < x45)) (K (.bool false) w66)
   (onM (ld w66 b19 (0 + 13)) fun x68 =>
   atP (idxS 1 x68 (ii i27)) fun b69 o70 =>
   ∃ x71 : Int,ld w66 b69 o70 = some (ii x71) ∧
   ifT (decide (x71 < 0)) (K (.bool false) w66)
   (onM (ld w66 b19 (0 + 13)) fun x72 =>
   atP (idxS 1 x72 (ii i27)) fun b73 o74 =>
   ∃ x75 : Int,ld w66 b73 o74 = some (ii x75) ∧
   ∃ x76 x77 x78 x79 x80 x81 x82 x83 : Int,∃ x84 x85 : AV,∃ x86 : Int,∃ x87 x88 x89 x90 : AV,∃ x91 x92 x93 : Int,∃ x94 : AV,ldN 19 w66 b19 0 = some (.agg [(ii x76),(ii x77),(.int .u8 x78),(ii x79),(ii x80),(ii x81),(ii x82),(ii x83),x84,x85,(ii x86),x87,x88,x89,x90,(ii x91),(ii x92),(ii x93),x94]) ∧
   Cl Tryz.prog hk 58 [(.agg [(ii x76),(ii x77),(.int .u8 x78),(ii x79),(ii x80),(ii x81),(ii x82),(ii x83),x84,x85,(ii x86),x87,x88,x89,x90,(ii x91),(ii x92),(ii x93),x94])] w66 fun r95 w96 =>
   ∃ x97 : Int,r95 = (ii x97) ∧
   ld w96 b73 o74 = some (ii x75) ∧
   ld w96 b19 (0 + 13) = some x72 ∧
   ifT (decide (x97 < x75)) (K (.bool false) w96)
   (onM (ld w96 b19 (0 + 14)) fun x98 =>
   atP (idxS 1 x98 (ii i27)) fun b99 o100 =>
   ∃ x101 : Int,ld w96 b99 o100 = some (ii x101) ∧
   ifT (decide (x101 < 0)) (K (.bool false) w96)
   (onM (ld w96 b19 (0 + 14)) fun x102 =>
   atP (idxS 1 x102 (ii i27)) fun b103 o104 =>
   ∃ x105 : Int,ld w96 b103 o104 = some (ii x105) ∧
   ∃ x106 : Int,ld w96 b19 (0 + 15) = some (ii x106) ∧
   ifT (decide (x106 < x105)) (K (.bool false) w96)
   (J31 [] w96)))))))
  (onM (ld w26 b19 (0 + 12)) fun x107 =>
   atP (idxS 1 x107 (ii i27)) fun b108 o109 =>
   ∃ x110 : Int,ld w26 b108 o109 = some (ii x110) ∧
   ifT (!decide (x110 = 0)) (K (.bool false) w26)
   (onM (ld w26 b19 (0 + 13)) fun x111 =>
   atP (idxS 1 x111 (ii i27)) fun b112 o113 =>
   ∃ x114 : Int,ld w26 b112 o113 = some (ii x114) ∧
   ifT (!decide (x114 = 0)) (K (.bool false) w26)
   (onM (ld w26 b19 (0 + 14)) fun x115 =>
   atP (idxS 1 x115 (ii i27)) fun b116 o117 =>
   ∃ x118 : Int,ld w26 b116 o117 = some (ii x118) ∧
   ifT (!decide (x118 = 0)) (K (.bool false) w26)
   (J31 [] w26)))))
  (∃ x119 : Int,ld w26 b19 (0 + 2) = some (.int .u8 x119) ∧
  ifT (!decide (x119 = 2)) (K (.bool true) w26)
  (onM (ld w26 b19 (0 + 11)) fun x120 =>
  ∃ x121 : Int,ld w26 b19 (0 + 0) = some (ii x121) ∧
  atP (idxS 1 x120 (ii (wi (x121 - 1)))) fun b122 o123 =>
  ∃ x124 : Bool,ld w26 b122 o123 = some (.bool x124) ∧
  K (.bool x124) w26))) fun J23 =>
 ∃ x125 : Int,ld w20 b19 (0 + 2) = some (.int .u8 x125) ∧
 ifT (!decide (x125 = 3)) (∃ x126 : Int,ld w20 b19 (0 + 15) = some (ii x126) ∧
 ifT (!decide (x126 = 0)) (K (.bool false) w20)
 (onM (ld w20 b19 (0 + 18)) fun x127 =>
 ∃ x128 : Int,lenS x127 = some (ii x128) ∧
 ifT (!decide (x128 = 0)) (K (.bool false) w20)
 (∃ x129 : Int,ld w20 b19 (0 + 2) = some (.int .u8 x129) ∧
 ifT (decide (x129 = 3)) (∃ x130 : Int,ld w20 b19 (0 + 5) = some (ii x130) ∧
 ∃ x131 : Int,ld w20 b19 (0 + 0) = some (ii x131) ∧
 ifT (!decide (x130 = x131)) (K (.bool false) w20)
 (J23 [] w20))
 (J23 [] w20))))
 (∃ x132 : Int,ld w20 b19 (0 + 2) = some (.int .u8 x132) ∧
 ifT (decide (x132 = 3)) (∃ x133 : Int,ld w20 b19 (0 + 5) = some (ii x133) ∧
 ∃ x134 : Int,ld w20 b19 (0 + 0) = some (ii x134) ∧
 ifT (!decide (x133 = x134)) (K (.bool false) w20)
 (J23 [] w20))
 (J23 [] w20)))
def adv100 : Adv := (.sq .lf (.sj [] (.sq .lf (.cd (.sq .lf .lf) .lf)) (.sq (.sq .lf (.bl (.lp [(3,.sc (.int .i64))] (.sq (.sq .lf (.cd .lf .lf)) (.sq (.bl (.sj [] (.sq .lf (.cd (.sq .lf (.cd (.sq .lf .lf) .lf)) (.sq .lf (.cd (.sq .lf .lf) .lf)))) (.sq .lf (.cd (.sq .lf .lf) .lf)))) .lf))))) (.sq .lf .lf))))
set_option maxRecDepth 100000 in
theorem in100 {hk : Hook} {n0 n1 n2 n3 n4 n5 n6 n7 : Int} {n8 n9 : AV} {n10 : Int} {n11 n12 n13 n14 : AV} {n15 n16 n17 : Int} {n18 : AV} {w : AW} {K : AV → AW → Prop} (hn : hk 100 [(.agg [(ii n0),(ii n1),(.int .u8 n2),(ii n3),(ii n4),(ii n5),(ii n6),(ii n7),n8,n9,(ii n10),n11,n12,n13,n14,(ii n15),(ii n16),(ii n17),n18])] w = none) (h : F100 hk n0 n1 n2 n3 n4 n5 n6 n7 n8 n9 n10 n11 n12 n13 n14 n15 n16 n17 n18 w K) : Cl Tryz.prog hk 100 [(.agg [(ii n0),(ii n1),(.int .u8 n2),(ii n3),(ii n4),(ii n5),(ii n6),(ii n7),n8,n9,(ii n10),n11,n12,n13,n14,(ii n15),(ii n16),(ii n17),n18])] w K :=
 fnS_ok (adv := adv100) Tryz.func100 hn (Eq.mpr (by kernel_rfl) h)
end Go.Proofs.YtghoifolghelnaaGreat
/-
 What the functions of this chapter do.
 No condition beyond those that each theorem names.
-/
set_option linter.unusedSimpArgs false
open Go.Sx
set_option linter.unusedVariables false
namespace Go.Proofs.YtghoifolghelnaaGreat
def cL : Code → Code | .seq a _ => a | c => c
def cR : Code → Code | .seq _ b => b | c => c
def cB : Code → Code | .block _ b => b | c => c
def cA : Code → Code | .rangeFunc _ _ a _ => a | c => c
def cY : Code → Code | .rangeFunc _ _ _ b => b | c => c
noncomputable def b128 : Code := (Tryz.f128.body).getD .skip
noncomputable def rf128 : Code := cB (cR (cL (cR b128)))
theorem body128 : Tryz.f128.body = some (.seq (cL b128) (.seq (.seq (cL (cL (cR b128))) (.block 0 (.rangeFunc (.tmp 6) #[7] (cA rf128) (.block 1 (cB (cY rf128)))))) (.seq (cL (cR (cR b128))) .ret))) := by kernel_rfl
abbrev u : AV := Go.Sx.undef
theorem r0_128 (hk : Hook) (sv : AV) (w : AW) (K : AExit → Tm → AW → Prop) : codeS Tryz.prog hk false 13 .lf (cL b128) [.nilslice,sv,u,u,u,u,u,u,u,u,u,u,u] w K = K .normal [.nilslice,sv,.ptr w.size 0,u,.nilslice,u,u,u,u,u,u,u,u] (newCells w [.nilslice]) := by kernel_rfl
theorem r1_128 (hk : Hook) (sv p : AV) (w : AW) (K : AExit → Tm → AW → Prop) : codeS Tryz.prog hk false 13 .lf (cL (cL (cR b128))) [.nilslice,sv,p,u,.nilslice,u,u,u,u,u,u,u,u] w K = K .normal [.nilslice,sv,p,u,.nilslice,u,sv,u,u,u,u,u,u] w := by kernel_rfl
theorem r2_128 (hk : Hook) (sv p x : AV) (w : AW) (K : AExit → Tm → AW → Prop) : codeS Tryz.prog hk false 13 .lf (cA rf128) (setParams (#[7].toList.zip [x]) [.nilslice,sv,p,u,.nilslice,u,sv,u,u,u,u,u,u]) w K = K .normal [.nilslice,sv,p,u,.nilslice,x,sv,x,u,u,u,u,u] w := by kernel_rfl
theorem r3_128 (hk : Hook) (sv : AV) (b : Nat) (x : Int) (w : AW) (K : AExit → Tm → AW → Prop) : codeS Tryz.prog hk false 13 (.bl .lf) (.block 1 (cB (cY rf128))) [.nilslice,sv,.ptr b 0,u,.nilslice,.int .i64 x,sv,.int .i64 x,u,u,u,u,u] w K =
  onM (ld w b 0) fun v => new w [.int .i64 x] fun c w1 => onE (appS 1 8 w1 v (.slice c 0 1 1 none)) fun r w2 => gd (okCell r) (onM (AW.putCells w2 b 0 [r]) fun w3 => K .normal [.nilslice,sv,.ptr b 0,u,.nilslice,.int .i64 x,sv,.int .i64 x,v,.int .i64 x,.slice c 0 1 1 none,r,u] w3) := by kernel_rfl
theorem r4_128 (hk : Hook) (sv : AV) (b : Nat) (w : AW) (K : AExit → Tm → AW → Prop) : codeS Tryz.prog hk false 13 .lf (cL (cR (cR b128))) [.nilslice,sv,.ptr b 0,u,.nilslice,u,sv,u,u,u,u,u,u] w K = onM (ld w b 0) fun v => K .normal [.nilslice,sv,.ptr b 0,u,v,u,sv,u,u,u,u,u,v] w := by kernel_rfl
theorem s123 {hk : Hook} {w : AW} {y : AV} {b : Nat} {v : AV} {l : List Int} {K : AV → AW → Prop} (hn : hk 123 [y,.ptr b 0] w = none) (hs : l.length < 2 ^ 62) (I : Nat → AW → Prop) (h0 : I 0 w)
  (hrd : ∀ i w,I i w → Box w b [v] ∧ RsI w v l)
  (hstep : ∀ (i : Nat) (hi : i < l.length) w (Q : AW → Prop),I i w → (∀ w',I (i + 1) w' → Q w') → Cv Tryz.prog hk y [.int .i64 l[i]] w fun r w' => r = .bool true ∧ Q w')
  (hK : ∀ w',I l.length w' → K (.tup []) w') : Cl Tryz.prog hk 123 [y,.ptr b 0] w K := by
 apply in123 hn
 unfold F123
 obtain ⟨hb,hl⟩ := hrd 0 w h0
 refine onM_s (v := v) (by simp [hb.ld]) ⟨_,hl.len,?_⟩
 refine loopP_ind (fun m lv w' => ∃ i : Nat,i ≤ l.length ∧ m = l.length - i ∧ lv = [.int .i64 i] ∧ I i w') ?_ ⟨0,Nat.zero_le _,rfl,rfl,h0⟩
 rintro m lv w' ⟨i,hi,rfl,rfl,hI⟩ R ih
 refine ⟨_,rfl,fun _ => ifT_d (fun h => ?_) fun h => ?_⟩
 ·have h : i < l.length := by omega
  refine (hrd i w' hI).2.atN h fun b o hld => ⟨_,hld,?_⟩
  have hc := hstep i h w' (fun w2 => R [.int .i64 (wi (i + 1))] w2) hI fun w2 h2 => ih (l.length - (i + 1)) (by omega) _ _ ⟨i + 1,h,rfl,by rw [wi_eq (by omega) (by omega)]; rfl,h2⟩
  have mono : ∀ {fv : AV} {xs : List AV} {w : AW} {K K' : AV → AW → Prop},(∀ v w,K v w → K' v w) → Cv Tryz.prog hk fv xs w K → Cv Tryz.prog hk fv xs w K' := fun {fv xs w K K2} h hc => by
   cases fv <;> first | exact wpL_mono _ _ _ (valK_mono h) hc | exact hc
  exact mono (fun r w2 hr => ⟨true,hr.1,hr.2⟩) hc
 ·have : i = l.length := by omega
  subst this
  exact hK w' hI
theorem s128 {hk : Hook} {w : AW} {b : Nat} {v : AV} {l : List Int} {K : AV → AW → Prop} (hn : hk 128 [.nilslice,.func 123 [] [.ptr b 0]] w = none) (hn123 : ∀ a w,hk 123 a w = none) (hm : Mem w) (hb : Box w b [v]) (hl : RsI w v l) (hs : l.length < 2 ^ 40)
  (hK : ∀ v' w',Fr w.size w w' → Acc w.size w' 1 v' (l.map (AV.int .i64)) → K v' w') : Cl Tryz.prog hk 128 [.nilslice,.func 123 [] [.ptr b 0]] w K := by
 have hbl := hb.lt hm
 have hwpos : 0 < w.size := by omega
 refine wpL_in (t := .call _ _ _) ?_
 show wCall Tryz.prog _ hk 128 _ w _
 unfold wCall
 rw [hn]
 refine ⟨Tryz.f128,Tryz.func128,?_⟩
 unfold wEnter
 rw [body128]
 show wpL Tryz.prog hk (.code none _ ⟨[.nilslice,.func 123 [] [.ptr b 0],u,u,u,u,u,u,u,u,u,u,u],[],w⟩) _
 refine lf_step (n := 13) (Kn := fun t' w' => t' = [.nilslice,.func 123 [] [.ptr b 0],.ptr w.size 0,u,.nilslice,u,u,u,u,u,u,u,u] ∧ w' = newCells w [.nilslice]) (by rw [r0_128]; exact ⟨rfl,rfl,rfl⟩) fun t' w' h => ?_
 obtain ⟨rfl,rfl⟩ := h
 have hm1 : Mem (newCells w [.nilslice]) := (Fr.push hm fun cs' f own d e => by cases e; exact Nat.le_refl _).mem
 have hsz1 : (newCells w [AV.nilslice]).size = w.size + 1 := rfl
 have hf1 : Fr w.size w (newCells w [.nilslice]) := Fr.push hm fun cs' f own d e => by cases e; exact Nat.le_refl _
 have hbx1 : Box (newCells w [.nilslice]) w.size [.nilslice] := by simp [Box,newCells,cellsAO]
 generalize newCells w [.nilslice] = w1 at *
 -- the range, and what is behind it
 refine wpL_in (t := .code none _ _) (show wpL Tryz.prog hk (.code none _ _) _ from ?_)
 refine lf_step (n := 13) (Kn := fun t' w' => t' = [.nilslice,.func 123 [] [.ptr b 0],.ptr w.size 0,u,.nilslice,u,.func 123 [] [.ptr b 0],u,u,u,u,u,u] ∧ w' = w1) (by rw [r1_128]; exact ⟨rfl,rfl,rfl⟩) fun t' w' h => ?_
 obtain ⟨rfl,rfl⟩ := h
 refine wpL_in (t := .code none (.block 0 _) _) (show wpL Tryz.prog hk (.code none _ _) _ from ?_)
 refine wpL_in (t := .code none (.rangeFunc _ _ _ _) _) ?_
 let T : Tm := [.nilslice,.func 123 [] [.ptr b 0],.ptr w.size 0,u,.nilslice,u,.func 123 [] [.ptr b 0],u,u,u,u,u,u]
 let R0 : LoopA := ⟨.ready,none,0,T,[7],cA rf128,.block 1 (cB (cY rf128)),w'.size⟩
 refine ⟨w'.size,[w'.size],w'.push .deferred,.func 123 [] [.ptr b 0],rfl,rfl,?_⟩
 show wpL Tryz.prog hk (.call 123 ([] ++ ([.yield (w'.push .deferred).size] ++ [.ptr b 0])) ((w'.push .deferred).push R0.ob)) (valK _)
 have hm2 : Mem (w'.push .deferred) := hm1.push fun cs f own d e => by cases e
 have hm3 : Mem ((w'.push .deferred).push R0.ob) := hm2.push fun cs f own d e => by cases e
 have hf3 : Fr w'.size w' ((w'.push .deferred).push R0.ob) := (Fr.push hm1 fun cs f own d e => by cases e).trans (Fr.push hm2 fun cs f own d e => by cases e) (by simp)
 have hl3 : ((w'.push .deferred).push R0.ob).get (w'.size + 1) = some R0.ob := by simp
 have hd3 : ((w'.push .deferred).push R0.ob).get w'.size = some .deferred := by simp
 have hz : (w'.push .deferred).size = w'.size + 1 := by simp
 rw [hz]
 -- what holds when i items have come
 refine s123 (hn123 _ _) (by omega) (fun i x => Mem x ∧ Fr w.size w x ∧ w'.size ≤ x.size ∧ x.get (w'.size + 1) = some R0.ob ∧ x.get w'.size = some .deferred ∧ ∃ a,Box x w.size [a] ∧ Acc w.size x 1 a ((l.take i).map (AV.int .i64)) ∧ blk a ≠ some w.size)
  ⟨hm3,(hf1.trans hf3 (by omega)),by simp; omega,hl3,hd3,.nilslice,hbx1.fr hf3 (by omega),Acc.nil,by simp [blk]⟩ (fun i x hI => ⟨hb.fr hI.2.1 hbl,hl.fr hm hI.2.1 (Nat.le_refl _)⟩) ?_ ?_
 ·rintro i hi x Q ⟨i1,i2,i3,i4,i5,a,i6,i7,i8⟩ hQ
  show wpL Tryz.prog hk (.yield (w'.size + 1) _ x) (valK _)
  refine yield_of (n := 13) (r := R0) (t2 := [.nilslice,.func 123 [] [.ptr b 0],.ptr w.size 0,u,.nilslice,.int .i64 l[i],.func 123 [] [.ptr b 0],.int .i64 l[i],u,u,u,u,u]) (by unfold loopAt; rw [i4]; rfl) rfl rfl (fun Kn hKn => by
   show codeS Tryz.prog hk false 13 .lf (cA rf128) (setParams (#[7].toList.zip [.int .i64 l[i]]) [.nilslice,.func 123 [] [.ptr b 0],.ptr w.size 0,u,.nilslice,u,.func 123 [] [.ptr b 0],u,u,u,u,u,u]) x _
   rw [r2_128]; exact ⟨rfl,hKn⟩) ?_
  -- the body
  let R1 : LoopA := { R0 with st := .busy }
  have hxl : w'.size + 1 < x.size := i1.lt _ _ i4
  have hm4 : Mem (x.set (w'.size + 1) R1.ob) := i1.set hxl fun cs f own d e => by cases e
  have hg4 : ∀ c,c ≠ w'.size + 1 → (x.set (w'.size + 1) R1.ob).get c = x.get c := fun c hc => by simp [hc]
  have hl4 : (x.set (w'.size + 1) R1.ob).get (w'.size + 1) = some R1.ob := by simp
  have hf4 : Fr w.size x (x.set (w'.size + 1) R1.ob) := ⟨Nat.le_refl _,fun c hc => hg4 c (by omega),hm4⟩
  have hbx4 : Box (x.set (w'.size + 1) R1.ob) w.size [a] := by unfold Box; rw [hg4 _ (by omega)]; exact i6
  have hd4 : (x.set (w'.size + 1) R1.ob).get w'.size = some .deferred := by rw [hg4 _ (by omega)]; exact i5
  have hacc4 : Acc w.size (x.set (w'.size + 1) R1.ob) 1 a ((l.take i).map (AV.int .i64)) := by
   rcases i7 with h | ⟨c,f,n,o,d,h1,h2,h3,h4,h5,h6,h7⟩
   ·exact .inl h
   ·obtain ⟨c0,hc0,_⟩ := AW.root?_iff.1 h7
    have n1 : c ≠ w'.size + 1 := fun e => by rw [e,i4] at h6; cases h6
    have n2 : f ≠ w'.size + 1 := fun e => by rw [e,i4] at hc0; cases hc0
    exact .inr ⟨c,f,n,o,d,h1,h2,h3,h4,h5,by rw [hg4 _ n1]; exact h6,by rw [AW.root?_congr (hg4 _ n2)]; exact h7⟩
  have hsz4 : (x.set (w'.size + 1) R1.ob).size = x.size := rfl
  show codeL Tryz.prog hk (some (w'.size + 1)) (.block 1 (cB (cY rf128))) _ [] (x.set (w'.size + 1) R1.ob) _
  generalize x.set (w'.size + 1) R1.ob = y at *
  refine codeL_mono (fun e t w2 h => h.2) (codeS_ok (big := false) (n := 13) (a := .bl .lf) (t := [.nilslice,.func 123 [] [.ptr b 0],.ptr w.size 0,u,.nilslice,.int .i64 l[i],.func 123 [] [.ptr b 0],.int .i64 l[i],u,u,u,u,u]) ?_)
  rw [r3_128]
  refine onM_s (v := a) (by rw [hbx4.ld]; rfl) (new_of hm4 fun y1 f1 b1 z1 => ?_)
  have hrs : Rs y1 1 1 (.slice y.size 0 1 1 none) [.int .i64 l[i]] := .inr ⟨y.size,0,1,none,_,rfl,b1.cells,by simp,rfl⟩
  have hlen : ((l.take i).map (AV.int .i64)).length / 1 = i := by simp; omega
  refine Acc.app (hacc4.fr hm4 f1 (Nat.le_refl _)) f1.mem (by omega) (by omega) (by omega) hrs (by rw [hlen]; omega) (by rw [hlen]; omega) fun a' y2 hacc hgrow => gd_t ?_ ?_
  ·rcases hacc with ⟨rfl,_⟩ | ⟨c,f,n,o,d,rfl,_⟩ <;> rfl
  have hbx5 : Box y2 w.size [a] := hgrow.box _ _ (hbx4.fr f1 (by omega)) i8
  have hne : blk a' ≠ some w.size := by
   intro e
   have := hgrow.blk _ e (by omega)
   rw [this] at e
   exact i8 e
  have hput := hbx5.put (o := 0) (vs := [a']) (by omega) (by simp)
  refine onM_s hput ?_
  have hl5 : y2.get (w'.size + 1) = some R1.ob := hgrow.obj _ _ ((f1.old _ (by omega)).trans hl4) fun cs f own d e => by cases e
  have hd5 : y2.get w'.size = some .deferred := hgrow.obj _ _ ((f1.old _ (by omega)).trans hd4) fun cs f own d e => by cases e
  have hm5 := hgrow.fr.mem
  have hw5 : w.size < y2.size := hbx5.lt hm5
  refine ⟨rfl,R1,by unfold loopAt; simp only [AW.set_get]; rw [if_neg (by omega),hl5]; rfl,rfl,hQ _ ?_⟩
  -- the memory behind
  have hlp : listPut [a] 0 [a'] = [a'] := rfl
  rw [hlp]
  have hg6 : ∀ c,c ≠ w.size → c ≠ w'.size + 1 → ((y2.set w.size (.cells [a'] w.size w.size false)).set (w'.size + 1) R0.ob).get c = y2.get c := fun c h1 h2 => by simp [h1,h2]
  have hxl2 : w'.size + 1 < y2.size := hm5.lt _ _ hl5
  have hm6 : Mem ((y2.set w.size (.cells [a'] w.size w.size false)).set (w'.size + 1) R0.ob) := (hm5.set hw5 fun cs f own d e => by cases e; exact Nat.le_refl _).set hxl2 fun cs f own d e => by cases e
  refine ⟨hm6,⟨?_,fun c hc => ?_,hm6⟩,?_,by simp; rfl,?_,a',?_,?_,hne⟩
  ·have h1 := i2.size
   have h2 := hgrow.fr.size
   simp only [AW.set_size]; omega
  ·rw [hg6 c (by omega) (by omega),hgrow.fr.old c hc,f1.old c (by omega),hf4.old c hc,i2.old c hc]
  ·have h2 := hgrow.fr.size
   simp only [AW.set_size]; omega
  ·rw [hg6 _ (by omega) (by omega)]; exact hd5
  ·unfold Box; simp only [AW.set_get]; rw [if_neg (by omega)]; simp
  ·have : (l.take (i + 1)).map (AV.int .i64) = (l.take i).map (AV.int .i64) ++ [.int .i64 l[i]] := by rw [← List.take_append_getElem hi,List.map_append]; rfl
   rw [this]
   rcases hacc with h | ⟨c,f,n,o,d,h1,h2,h3,h4,h5,h6,h7⟩
   ·exact .inl h
   ·obtain ⟨c0,hc0,_⟩ := AW.root?_iff.1 h7
    have n1 : c ≠ w'.size + 1 := fun e => by rw [e,hl5] at h6; cases h6
    have n2 : f ≠ w'.size + 1 := fun e => by rw [e,hl5] at hc0; cases hc0
    have n3 : c ≠ w.size := fun e => hne (by rw [h1,e]; rfl)
    have n4 : f ≠ w.size := fun e => by
     rw [e] at hc0
     have := hbx5
     unfold Box at this
     rw [hc0] at this
     cases this
     exact n3 rfl
    exact .inr ⟨c,f,n,o,d,h1,h2,h3,h4,h5,by rw [hg6 _ n3 n1]; exact h6,by rw [AW.root?_congr (hg6 _ n4 n2)]; exact h7⟩
 ·rintro x ⟨i1,i2,i3,i4,i5,a,i6,i7,i8⟩
  rw [List.take_length] at i7
  refine ⟨R0,by unfold loopAt; rw [i4]; rfl,by simp [R0],?_⟩
  have hxl : w'.size + 1 < x.size := i1.lt _ _ i4
  have hg4 : ∀ c o,c ≠ w'.size + 1 → (x.set (w'.size + 1) o).get c = x.get c := fun c o hc => by simp [hc]
  show wpL Tryz.prog hk (.code none (.seq (cL (cR (cR b128))) .ret) ⟨_,[w'.size],x.set (w'.size + 1) _⟩) _
  refine lf_step (n := 13) (Kn := fun t' w2 => t' = [.nilslice,.func 123 [] [.ptr b 0],.ptr w.size 0,u,a,u,.func 123 [] [.ptr b 0],u,u,u,u,u,a] ∧ w2 = x.set (w'.size + 1) (LoopA.ob { R0 with st := .exhausted })) (by
   have hbx : Box (x.set (w'.size + 1) (LoopA.ob { R0 with st := .exhausted })) w.size [a] := by unfold Box; rw [hg4 _ _ (by omega)]; exact i6
   rw [r4_128]; exact onM_s (v := a) (by rw [hbx.ld]; rfl) ⟨rfl,rfl,rfl⟩) fun t' w2 h => ?_
  obtain ⟨rfl,rfl⟩ := h
  refine wpL_in (t := .code none .ret _) ?_
  let x1 := x.set (w'.size + 1) (LoopA.ob { R0 with st := .exhausted })
  have hd : x1.get w'.size = some .deferred := by rw [hg4 _ _ (by omega)]; exact i5
  refine ⟨.inr rfl,x1.set w'.size .gone,[a],by simp only [takeAll]; rw [hd],rfl,?_⟩
  have hg7 : ∀ c,c ≠ w'.size + 1 → c ≠ w'.size → (x1.set w'.size .gone).get c = x.get c := fun c h1 h2 => by simp [x1,h1,h2]
  have hm7 : Mem (x1.set w'.size .gone) := (i1.set hxl fun cs f own d e => by cases e).set (by show w'.size < x.size; omega) fun cs f own d e => by cases e
  refine hK _ _ ⟨by simp only [x1,AW.set_size]; exact i2.size,fun c hc => by rw [hg7 c (by omega) (by omega)]; exact i2.old c hc,hm7⟩ ?_
  rcases i7 with h | ⟨c,f,n,o,d,h1,h2,h3,h4,h5,h6,h7⟩
  ·exact .inl h
  ·obtain ⟨c0,hc0,_⟩ := AW.root?_iff.1 h7
   have n1 : c ≠ w'.size + 1 := fun e => by rw [e,i4] at h6; cases h6
   have n2 : f ≠ w'.size + 1 := fun e => by rw [e,i4] at hc0; cases hc0
   have n3 : c ≠ w'.size := fun e => by rw [e,i5] at h6; cases h6
   have n4 : f ≠ w'.size := fun e => by rw [e,i5] at hc0; cases hc0
   exact .inr ⟨c,f,n,o,d,h1,h2,h3,h4,h5,by rw [hg7 _ n1 n3]; exact h6,by rw [AW.root?_congr (hg7 _ n2 n4)]; exact h7⟩
end Go.Proofs.YtghoifolghelnaaGreat
/-
 What the functions of this chapter do.
 No condition beyond those that each theorem names.
-/
set_option linter.unusedSimpArgs false
open Go.Sx
set_option linter.unusedVariables false
namespace Go.Proofs.YtghoifolghelnaaGreat
def cnt (n : Int) (l : List Int) : Nat := (l.filter fun m => decide (n ≤ m)).length
theorem cnt_snoc (n m : Int) (l : List Int) : cnt n (l ++ [m]) = cnt n l + if n ≤ m then 1 else 0 := by
 unfold cnt; rw [List.filter_append]; by_cases h : n ≤ m <;> simp [h]
theorem cnt_le (n : Int) (l : List Int) : cnt n l ≤ l.length := List.length_filter_le _ _
theorem take_snoc {α : Type} {l : List α} {i : Nat} (h : i < l.length) : l.take (i + 1) = l.take i ++ [l[i]] := by rw [List.take_append_getElem h]
theorem s104 {hk : Hook} {w : AW} {n : Int} {b : Nat} {v : AV} {l : List Int} {K : AV → AW → Prop} (hn : hk 104 [ii n,.ptr b 0] w = none) (hb : Box w b [v]) (hl : RsI w v l) (hs : l.length < 2 ^ 62)
  (hK : K (ii (cnt n l)) w) : Cl Tryz.prog hk 104 [ii n,.ptr b 0] w K := by
 apply in104 hn
 unfold F104
 refine onM_s (v := v) (by simp [hb.ld]) ⟨_,hl.len,?_⟩
 refine loopP_ind (fun m lv w' => w' = w ∧ ∃ i : Nat,i ≤ l.length ∧ m = l.length - i ∧ lv = [ii (cnt n (l.take i)),ii i]) ?_ ⟨rfl,0,Nat.zero_le _,rfl,rfl⟩
 rintro m lv w' ⟨rfl,i,hi,rfl,rfl⟩ R ih
 have hc := cnt_le n (l.take i)
 simp at hc
 refine ⟨_,_,rfl,fun _ => ifT_d (fun h => ?_) fun h => ?_⟩
 ·have h : i < l.length := by omega
  have hstep := cnt_snoc n l[i] (l.take i)
  rw [← take_snoc h] at hstep
  refine hl.atN h fun b o hld => ⟨_,hld,ifT_d (fun h2 => ?_) fun h2 => ?_⟩
  all_goals
   refine ih (l.length - (i + 1)) (by omega) _ _ ⟨rfl,i + 1,h,rfl,?_⟩
   rw [hstep]
   simp only [h2,if_true,if_false]
   simp
  ·rw [wi_eq (by omega) (by omega),wi_eq (by omega) (by omega)]; exact ⟨rfl,rfl⟩
  ·rw [wi_eq (by omega) (by omega)]
 ·have : i = l.length := by omega
  subst this
  rw [List.take_length]
  exact hK
structure HK (hk : Hook) : Prop where
 no : ∀ f a w,f ≠ 9 → f ≠ 122 → hk f a w = none
 sort : ∀ a w x,hookSort w a = some x → hk 122 a w = some (some x)
 awake : ∀ w,hk 9 [] w = some (some (.bool true,w))
theorem s106 {hk : Hook} {w : AW} {v : AV} {K : AV → AW → Prop} (hh : HK hk) (hm : Mem w) (hv : okCell v = true)
  (hK : ∀ w',Fr w.size w w' → Box w' w.size [v] → w'.size = w.size + 1 → K (.func 123 [] [.ptr w.size 0]) w') : Cl Tryz.prog hk 106 [v] w K :=
 in106 (hh.no _ _ _ (by decide) (by decide)) (gd_t hv (new_of hm fun w' h1 h2 h3 => hK w' h1 h2 h3))
theorem read_own {n0 : Nat} {w : AW} {b n cap : Nat} {ex : Option Nat} {cs : List AV} (h : Own n0 w 1 (.slice b 0 n cap ex) cs) : w.read b 0 n = some cs := by
 rcases h with ⟨h,_⟩ | ⟨b',n',cap',ex',f,o,d,dd,h0,h1,h2,h3,h4,h5⟩
 ·cases h
 cases h0
 have hcells : w.cells? b = some cs := AW.cells?_iff.2 ⟨(f,b,dd),o,d,AW.fam?_iff.2 ⟨cs,o,d,h4,h5⟩,.inr rfl,h4⟩
 unfold AW.read
 rw [hcells]
 simp only []
 have hn : n = cs.length := by simpa using h1
 rw [takeCells_some (by omega),List.drop_zero,hn,List.take_length]
theorem s105 {hk : Hook} {w : AW} {b : Nat} {v : AV} {l : List Int} {K : AV → AW → Prop} (hh : HK hk) (hm : Mem w) (hb : Box w b [v]) (hl : RsI w v l) (hs : l.length < 2 ^ 40)
  (hK : ∀ v' w',Fr w.size w w' → Own w.size w' 1 v' ((sortI l).map (AV.int .i64)) → K v' w') : Cl Tryz.prog hk 105 [.func 123 [] [.ptr b 0]] w K := by
 refine in105 (hh.no _ _ _ (by decide) (by decide)) (in121 (hh.no _ _ _ (by decide) (by decide)) (s128 (hh.no _ _ _ (by decide) (by decide)) (fun _ _ => hh.no _ _ _ (by decide) (by decide)) hm hb hl hs fun v' w1 hf ha => ?_))
 have hm1 := hf.mem
 have ho := ha.own
 rcases ha with ⟨rfl,hnil⟩ | ⟨b',f,n,o,d,rfl,h1,h2,h3,h4,h5,h6⟩
 ·have : l = [] := by simpa using hnil
  subst this
  exact Cl_hook (hh.sort _ _ _ rfl) ⟨rfl,hK _ _ hf (.inl ⟨rfl,by simp [sortI]⟩)⟩
 ·have hn : n = l.length := by simpa using h1
  obtain ⟨w2,hw,hf2,ho2,hsz⟩ := ho.put hm1 (i := 0) (vs := (sortI l).map (AV.int .i64)) (by simp [sortI_length])
  have hlp : listPut (l.map (AV.int .i64)) 0 ((sortI l).map (AV.int .i64)) = (sortI l).map (AV.int .i64) := by simp [listPut,sortI_length]
  rw [hlp] at ho2
  refine Cl_hook (hh.sort _ _ (Go.Sx.undef,w2) ?_) ⟨rfl,hK _ _ (hf.trans hf2 (Nat.le_refl _)) ho2⟩
  simp only [hookSort]
  rw [if_neg (by omega),read_own ho]
  simp only [Option.bind_some,intsOf_map]
  rw [if_pos (by omega),hw]
  rfl
def swapped (i : Nat) (l c : List Int) : Prop := c.length = l.length ∧ ∀ k,k < l.length → c.getD k 0 = if k < i ∨ l.length - i ≤ k then l.getD (l.length - 1 - k) 0 else l.getD k 0
theorem getD_map_int (l : List Int) (k : Nat) (h : k < l.length) : (l.map (AV.int .i64))[k]? = some (ii (l.getD k 0)) := by
 rw [List.getElem?_map,List.getElem?_eq_getElem h,List.getD_eq_getElem?_getD,List.getElem?_eq_getElem h]; rfl
theorem listPut_one (c : List Int) (i : Nat) (x : Int) (h : i < c.length) : listPut (c.map (AV.int .i64)) i [ii x] = (c.set i x).map (AV.int .i64) := by
 unfold listPut
 rw [List.set_eq_take_append_cons_drop,if_pos h]
 simp [List.map_take,List.map_drop]
theorem s107 {hk : Hook} {w : AW} {n0 : Nat} {v : AV} {l : List Int} {K : AV → AW → Prop} (hh : HK hk) (hm : Mem w) (hl : Own n0 w 1 v (l.map (AV.int .i64))) (hs : l.length < 2 ^ 40)
  (hK : ∀ w',Fr n0 w w' → Own n0 w' 1 v (l.reverse.map (AV.int .i64)) → K (.tup []) w') : Cl Tryz.prog hk 107 [v] w K := by
 apply in107 (hh.no _ _ _ (by decide) (by decide))
 unfold F107
 have hlen : lenS v = some (ii l.length) := by have := (hl.rs (by decide)).len; simpa using this
 refine ⟨_,hlen,?_⟩
 refine loopP_ind (fun m lv w' => ∃ (i : Nat) (c : List Int),i ≤ l.length ∧ m = l.length - i ∧ lv = [ii i,ii ((l.length : Int) - 1 - i)] ∧ (2 * i ≤ l.length + 1) ∧ swapped i l c ∧ Fr n0 w w' ∧ Own n0 w' 1 v (c.map (AV.int .i64))) ?_
  ⟨0,l,Nat.zero_le _,rfl,by rw [wi_eq (by omega) (by omega)]; simp,by omega,⟨rfl,fun k hk => by rw [if_neg (by omega)]⟩,Fr.refl hm,hl⟩
 rintro m lv w' ⟨i,c,hi,rfl,rfl,h2i,⟨hcl,hc⟩,hf,ho⟩ R ih
 refine ⟨_,_,rfl,fun _ => ifT_d (fun h => ?_) fun h => ?_⟩
 ·-- two items change places
  have hj : ((l.length : Int) - 1 - i) = ((l.length - 1 - i : Nat) : Int) := by omega
  rw [hj] at h ⊢
  have hij : i < l.length - 1 - i := by omega
  rcases ho with ⟨rfl,hnil⟩ | ⟨b,n,cap,ex,f,o,d,dd,rfl,h1,h2,h3,h4,h5⟩
  ·have : c = [] := by simpa using hnil
   subst this; simp at hcl; omega
  have hn : n = l.length := by rw [Nat.mul_one,List.length_map] at h1; omega
  have ho : Own n0 w' 1 (.slice b 0 n cap ex) (c.map (AV.int .i64)) := .inr ⟨b,n,cap,ex,f,o,d,dd,rfl,h1,h2,h3,h4,h5⟩
  have hcells : w'.cells? b = some (c.map (AV.int .i64)) := AW.cells?_iff.2 ⟨(f,b,dd),o,d,AW.fam?_iff.2 ⟨_,o,d,h4,h5⟩,.inr rfl,h4⟩
  have rd : ∀ k,k < l.length → ld w' b (0 + k * 1) = some (ii (c.getD k 0)) := fun k hk => by
   unfold ld
   rw [hcells,Option.bind_some,Nat.zero_add,Nat.mul_one,getD_map_int _ _ (by omega)]
  have pl : ∀ k : Nat,k < l.length → idxS 1 (.slice b 0 n cap ex) (ii (k : Int)) = some (.ptr b (0 + k * 1)) := fun k hk => ho.at (by omega)
  rw [atP_iff]; refine ⟨_,_,pl _ (by omega),_,rd _ (by omega),?_⟩
  rw [atP_iff]; refine ⟨_,_,pl _ (by omega),_,rd _ (by omega),?_⟩
  rw [atP_iff]; refine ⟨_,_,pl _ (by omega),?_⟩
  rw [Nat.zero_add,Nat.mul_one]
  obtain ⟨w1,hw1,hf1,ho1,hs1⟩ := ho.put hf.mem (i := i) (vs := [ii (c.getD (l.length - 1 - i) 0)]) (by simp; omega)
  refine onM_s hw1 ?_
  rw [listPut_one _ _ _ (by omega)] at ho1
  rw [atP_iff]; refine ⟨_,_,pl _ (by omega),?_⟩
  rw [Nat.zero_add,Nat.mul_one]
  obtain ⟨w2,hw2,hf2,ho2,hs2⟩ := ho1.put hf1.mem (i := l.length - 1 - i) (vs := [ii (c.getD i 0)]) (by simp; omega)
  refine onM_s hw2 ?_
  rw [listPut_one _ _ _ (by simp; omega)] at ho2
  refine ih (l.length - (i + 1)) (by omega) _ _ ⟨i + 1,_,by omega,rfl,?_,by omega,⟨by simp [hcl],fun k hk => ?_⟩,(hf.trans hf1 (Nat.le_refl _)).trans hf2 (Nat.le_refl _),ho2⟩
  ·rw [wi_eq (by omega) (by omega),wi_eq (by omega) (by omega)]
   congr 2
   congr 1
   omega
  ·have hck := hc k hk
   have hci := hc i (by omega)
   have hcj := hc (l.length - 1 - i) (by omega)
   simp only [List.getD_eq_getElem?_getD] at *
   by_cases e1 : k = l.length - 1 - i
   ·subst e1
    rw [List.getElem?_set_self (by simp; omega)]
    rw [if_pos (by omega)]
    simp only [Option.getD_some]
    rw [hci,if_neg (by omega)]
    congr 2; omega
   ·rw [List.getElem?_set_ne (Ne.symm e1)]
    by_cases e2 : k = i
    ·subst e2
     rw [List.getElem?_set_self (by omega),if_pos (by omega)]
     simp only [Option.getD_some]
     rw [hcj,if_neg (by omega)]
    ·rw [List.getElem?_set_ne (Ne.symm e2),hck]
     by_cases e3 : k < i ∨ l.length - i ≤ k
     ·rw [if_pos e3,if_pos (by omega)]
     ·rw [if_neg e3,if_neg (by omega)]
 ·have : c = l.reverse := by
   apply List.ext_getElem (by simp [hcl])
   intro k h1 h2
   have hck := hc k (by omega)
   have hk : k < l.length := by omega
   simp only [List.getD_eq_getElem?_getD,List.getElem?_eq_getElem h1,Option.getD_some] at hck
   rw [hck,List.getElem_reverse]
   by_cases e3 : k < i ∨ l.length - i ≤ k
   ·rw [if_pos e3,List.getElem?_eq_getElem (by omega)]; rfl
   ·rw [if_neg e3,List.getElem?_eq_getElem hk]
    simp only [Option.getD_some]
    congr 1; omega
  subst this
  exact hK w' hf ho
end Go.Proofs.YtghoifolghelnaaGreat
/-
 What the functions of this chapter do.
 No condition beyond those that each theorem names.
-/
set_option linter.unusedSimpArgs false
open Go.Sx
set_option linter.unusedVariables false
namespace Go.Proofs.YtghoifolghelnaaGreat
def IsRule (l : List Int) (r : Int) : Prop := (l = [] ∧ r = 0) ∨ (r ∈ l ∧ l.length < 2 * cnt r l ∧ ∀ x ∈ l,l.length < 2 * cnt x l → x ≤ r)
theorem IsRule.uniq {l : List Int} {r r' : Int} (h : IsRule l r) (h' : IsRule l r') : r = r' := by
 rcases h with ⟨rfl,rfl⟩ | ⟨h1,h2,h3⟩
 ·rcases h' with ⟨_,rfl⟩ | ⟨h1,_⟩
  ·rfl
  ·simp at h1
 ·rcases h' with ⟨rfl,rfl⟩ | ⟨g1,g2,g3⟩
  ·simp at h1
  ·have a := h3 _ g1 g2
   have b := g3 _ h1 h2
   omega
theorem cnt_perm (n : Int) {l l' : List Int} (h : l.Perm l') : cnt n l = cnt n l' := (h.filter _).length_eq
theorem s108 {hk : Hook} {w : AW} {k n : Nat} {K : AV → AW → Prop} (hh : HK hk) (hkn : k ≤ n) (hs : n < 2 ^ 62) (hK : K (.bool (decide (n < 2 * k))) w) : Cl Tryz.prog hk 108 [ii k,ii n] w K := by
 apply in108 (hh.no _ _ _ (by decide) (by decide))
 unfold F108
 rw [wi_eq (by omega) (by omega)]
 have : decide (((n : Int) - k) < k) = decide (n < 2 * k) := by rw [decide_eq_decide]; omega
 rw [this]; exact hK
theorem s109 {hk : Hook} {w : AW} {k n : Nat} {K : AV → AW → Prop} (hh : HK hk) (hs : n < 2 ^ 62) (hK : K (.bool (decide (n < 2 * k))) w) : Cl Tryz.prog hk 109 [ii k,ii n] w K := by
 apply in109 (hh.no _ _ _ (by decide) (by decide))
 unfold F109
 have h1 : Int.tdiv (n : Int) 2 = (n / 2 : Nat) := by rw [Int.tdiv_eq_ediv_of_nonneg (by omega)]; rfl
 rw [h1,wi_eq (by omega) (by omega)]
 have : decide (((n / 2 : Nat) : Int) < (k : Int)) = decide (n < 2 * k) := by rw [decide_eq_decide]; omega
 rw [this]; exact hK
theorem sorted_desc (l : List Int) : (sortI l).reverse.Pairwise fun a b => b ≤ a := by
 have h := List.pairwise_mergeSort (le := fun x y : Int => decide (x ≤ y)) (fun a b c h1 h2 => by simp at *; omega) (fun a b => by simp; omega) l
 rw [List.pairwise_reverse]
 exact h.imp fun h => by simpa using h
theorem sorted_perm (l : List Int) : (sortI l).reverse.Perm l := (List.reverse_perm _).trans (List.mergeSort_perm l _)
theorem rule_found {l sd : List Int} (hp : sd.Perm l) (hd : sd.Pairwise fun a b => b ≤ a) {i : Nat} (hi : i < sd.length) (hno : ∀ k (hk : k < i),¬ l.length < 2 * cnt (sd[k]'(by omega)) l) (hy : l.length < 2 * cnt sd[i] l) : IsRule l sd[i] := by
 refine .inr ⟨hp.mem_iff.1 (List.getElem_mem hi),hy,fun x hx h => ?_⟩
 obtain ⟨k,hk,rfl⟩ := List.getElem_of_mem (hp.mem_iff.2 hx)
 by_cases hki : k < i
 ·exact absurd h (hno k hki)
 ·by_cases e : k = i
  ·subst e; exact Int.le_refl _
  ·exact List.pairwise_iff_getElem.1 hd i k hi hk (by omega)
theorem rule_none {l sd : List Int} (hp : sd.Perm l) (hd : sd.Pairwise fun a b => b ≤ a) (hno : ∀ k (hk : k < sd.length),¬ l.length < 2 * cnt sd[k] l) : IsRule l 0 := by
 by_cases hl : l = []
 ·exact .inl ⟨hl,rfl⟩
 ·exfalso
  have hpos : 0 < sd.length := by rw [hp.length_eq]; exact List.length_pos_iff.2 hl
  have h := hno (sd.length - 1) (by omega)
  apply h
  have : cnt sd[sd.length - 1] l = l.length := by
   rw [← cnt_perm _ hp,← hp.length_eq]
   unfold cnt
   rw [List.filter_eq_self.2]
   intro x hx
   obtain ⟨k,hk,rfl⟩ := List.getElem_of_mem hx
   by_cases e : k = sd.length - 1
   ·subst e; simp
   ·simpa using List.pairwise_iff_getElem.1 hd k (sd.length - 1) hk (by omega) (by omega)
  rw [this]
  have := hp.length_eq
  omega
theorem s66 {hk : Hook} {w : AW} {v : AV} {l : List Int} {K : AV → AW → Prop} (hh : HK hk) (hm : Mem w) (hl : RsI w v l) (hs : l.length < 2 ^ 40)
  (hK : ∀ r w',IsRule l r → Fr w.size w w' → K (ii r) w') : Cl Tryz.prog hk 66 [v] w K := by
 apply in66 (hh.no _ _ _ (by decide) (by decide))
 unfold F66
 refine gd_t hl.ok (new_of hm fun w2 f2 b2 z2 => onM_s (v := v) (by rw [b2.ld]; rfl) ?_)
 have hl2 := hl.fr hm f2 (Nat.le_refl _)
 refine s106 hh f2.mem hl2.ok fun w5 f5 b5 z5 => ?_
 have hl5 := hl2.fr f2.mem f5 (Nat.le_refl _)
 refine s105 hh f5.mem b5 hl5 hs fun r w7 f7 o7 => ?_
 refine s107 hh f7.mem o7 (by rw [sortI_length]; exact hs) fun w9 f9 o9 => ⟨rfl,?_⟩
 have hlen : lenS r = some (ii (sortI l).reverse.length) := by have := (o9.rs (by decide)).len; simpa using this
 refine ⟨_,hlen,?_⟩
 have hsd : RsI w9 r (sortI l).reverse := by have := o9.rs (by decide); unfold RsI; simpa using this
 have hp := sorted_perm l
 have hd := sorted_desc l
 have f79 : Fr w5.size w5 w9 := f7.trans f9 (Nat.le_refl _)
 have fall : Fr w.size w w9 := (f2.trans f5 (by omega)).trans f79 (by omega)
 have bx : Box w9 w.size [v] := (b2.fr f5 (by omega)).fr f79 (by omega)
 have hlv : RsI w9 v l := hl5.fr f5.mem f79 (Nat.le_refl _)
 generalize (sortI l).reverse = sd at *
 have hsdl : sd.length = l.length := hp.length_eq
 refine loopP_ind (fun m lv w' => w' = w9 ∧ ∃ i : Nat,i ≤ sd.length ∧ m = sd.length - i ∧ lv = [ii i] ∧ ∀ k (hk : k < i) (hks : k < sd.length),¬ l.length < 2 * cnt sd[k] l) ?_ ⟨rfl,0,Nat.zero_le _,rfl,rfl,fun k hk => absurd hk (Nat.not_lt_zero _)⟩
 rintro m lv w' ⟨rfl,i,hi,rfl,rfl,hno⟩ R ih
 refine ⟨_,rfl,fun _ => ifT_d (fun h => ?_) fun h => ?_⟩
 ·have h : i < sd.length := by omega
  refine hsd.atN h fun b o hld => ⟨_,hld,onM_s (v := v) (by rw [bx.ld]; rfl) ⟨_,hlv.len,?_⟩⟩
  refine s104 (hh.no _ _ _ (by decide) (by decide)) bx hlv (by omega) ⟨_,rfl,by rw [bx.ld]; rfl,?_⟩
  refine s108 hh (cnt_le _ _) (by omega) ⟨_,rfl,ifT_d (fun hy => ?_) fun hy => ?_⟩
  ·exact hK _ _ (rule_found hp hd h (fun k hk => hno k hk (by omega)) hy) fall
  ·refine ih (sd.length - (i + 1)) (by omega) _ _ ⟨rfl,i + 1,h,rfl,by rw [wi_eq (by omega) (by omega)]; rfl,fun k hk hks => ?_⟩
   by_cases e : k = i
   ·subst e; exact hy
   ·exact hno k (by omega) hks
 ·exact hK _ _ (rule_none hp hd fun k hk => hno k (by omega) hk) fall
end Go.Proofs.YtghoifolghelnaaGreat
/-
 What the functions of this chapter do.
 No condition beyond those that each theorem names.
-/
set_option linter.unusedSimpArgs false
open Go.Sx
set_option linter.unusedVariables false
namespace Go.Proofs.YtghoifolghelnaaGreat
end Go.Proofs.YtghoifolghelnaaGreat
/-
 What the functions of this chapter do.
 No condition beyond those that each theorem names.
-/
set_option linter.unusedSimpArgs false
open Go.Sx
set_option linter.unusedVariables false
namespace Go.Proofs.YtghoifolghelnaaGreat
def RsE (w : AW) (v : AV) (ts : List Int) : Prop := ∃ cs,Rs w 2 ts.length v cs ∧ ∀ i,i < ts.length → cs[i * 2 + 0]? = some (ii (ts.getD i 0))
theorem RsE.len {w : AW} {v : AV} {ts : List Int} (h : RsE w v ts) : lenS v = some (ii ts.length) := by obtain ⟨cs,h,_⟩ := h; exact h.len
theorem RsE.fr {w w' : AW} {v : AV} {ts : List Int} (h : RsE w v ts) (hm : Mem w) {k : Nat} (hf : Fr k w w') (hk : w.size ≤ k) : RsE w' v ts := by obtain ⟨cs,h,h2⟩ := h; exact ⟨cs,h.fr hm hf hk,h2⟩
theorem RsE.at {w : AW} {v : AV} {ts : List Int} (h : RsE w v ts) {i : Nat} (hi : i < ts.length) {K : Nat → Nat → Prop} (hK : ∀ b o,ld w b (o + 0) = some (ii (ts.getD i 0)) → K b o) : atP (idxS 2 v (ii (i : Int))) K := by
 obtain ⟨cs,h,h2⟩ := h
 exact h.at (by omega) (by omega) fun b o hf _ => hK b o (by rw [hf 0 (by decide)]; exact h2 i hi)
def termAt (base bt : Int) (ts : List Int) (n : Int) : Int × Bool :=
 if n = base then (bt,true) else if n < base ∨ base + ts.length < n then (0,false) else (ts.getD (n - base - 1).toNat 0,true)
theorem s79 {hk : Hook} {w : AW} {base : Int} {v : AV} {ts : List Int} {K : AV → AW → Prop} (hh : HK hk) (hl : RsE w v ts) (hb : 0 ≤ base) (hb2 : base < 2 ^ 41) (hs : ts.length < 2 ^ 40) (hK : K (ii (base + ts.length)) w) : Cl Tryz.prog hk 79 [ii base,v] w K := by
 apply in79 (hh.no _ _ _ (by decide) (by decide))
 refine ⟨_,hl.len,?_⟩
 rw [wi_eq (by omega) (by omega)]; exact hK
theorem s97 {hk : Hook} {w : AW} {base bt n : Int} {v : AV} {ts : List Int} {K : AV → AW → Prop} (hh : HK hk) (hl : RsE w v ts) (hb : 0 ≤ base) (hb2 : base < 2 ^ 41) (hs : ts.length < 2 ^ 40)
  (hK : K (.tup [ii (termAt base bt ts n).1,.bool (termAt base bt ts n).2]) w) : Cl Tryz.prog hk 97 [ii base,ii bt,v,ii n] w K := by
 apply in97 (hh.no _ _ _ (by decide) (by decide))
 unfold F97
 unfold termAt at hK
 refine ifT_d (fun h => by rwa [if_pos h] at hK) fun h => ifT_d (fun h2 => ?_) fun h2 => ?_
 ·rw [if_neg h,if_pos (.inl h2)] at hK; exact hK
 ·refine s79 hh hl hb hb2 hs ⟨_,rfl,ifT_d (fun h3 => ?_) fun h3 => ?_⟩
  ·rw [if_neg h,if_pos (.inr h3)] at hK; exact hK
  ·rw [if_neg h,if_neg (by omega)] at hK
   unfold be
   obtain ⟨j,hj⟩ := Int.eq_ofNat_of_zero_le (show 0 ≤ n - base - 1 by omega)
   have e : wi (wi (n - base) - 1) = (j : Int) := by rw [wi_eq (x := n - base) (by omega) (by omega),wi_eq (by omega) (by omega),hj]
   rw [e]
   rw [hj] at hK
   refine hl.at (by omega) fun b o hld => ⟨_,hld,hK⟩
theorem s103 {hk : Hook} {w : AW} {base bt n : Int} {v : AV} {ts : List Int} {K : AV → AW → Prop} (hh : HK hk) (hl : RsE w v ts) (hb : 0 ≤ base) (hb2 : base < 2 ^ 41) (hs : ts.length < 2 ^ 40)
  (hK : K (.tup [ii (termAt base bt ts n).1,.bool (termAt base bt ts n).2]) w) : Cl Tryz.prog hk 103 [ii base,ii bt,v,ii n] w K := by
 apply in103 (hh.no _ _ _ (by decide) (by decide))
 unfold F103
 unfold termAt at hK
 refine ifT_d (fun h => by rwa [if_pos h] at hK) fun h => ?_
 rw [if_neg h] at hK
 refine loopP_ind (fun m lv w' => w' = w ∧ ∃ i : Nat,i ≤ ts.length ∧ m = ts.length - i ∧ lv = [ii i] ∧ (n ≤ base ∨ base + i < n)) ?_ ⟨rfl,0,Nat.zero_le _,rfl,rfl,by omega⟩
 rintro m lv w' ⟨rfl,i,hi,rfl,rfl,hno⟩ R ih
 refine ⟨_,rfl,fun _ => ⟨_,hl.len,ifT_d (fun h1 => ?_) fun h1 => ?_⟩⟩
 ·have h1 : i < ts.length := by omega
  have e : wi (wi (base + 1) + (i : Int)) = base + 1 + i := by rw [wi_eq (x := base + 1) (by omega) (by omega),wi_eq (by omega) (by omega)]
  rw [e]
  refine ifT_d (fun h2 => ?_) fun h2 => ?_
  ·rw [if_neg (by omega),show (n - base - 1).toNat = i by omega] at hK
   exact hl.at h1 fun b o hld => ⟨_,hld,hK⟩
  ·exact ih (ts.length - (i + 1)) (by omega) _ _ ⟨rfl,i + 1,h1,rfl,by rw [wi_eq (by omega) (by omega)]; rfl,by omega⟩
 ·rw [if_pos (by omega)] at hK; exact hK
def SetS (commit term base bt : Int) (ts : List Int) (r n : Int) : Prop := commit < n ∧ n ≤ r ∧ base ≤ n ∧ n ≤ base + ts.length ∧ (termAt base bt ts n).1 = term
def IsAdv (commit term base bt : Int) (ts : List Int) (r x : Int) : Prop := (x = commit ∧ ∀ n,¬ SetS commit term base bt ts r n) ∨ (SetS commit term base bt ts r x ∧ ∀ n,SetS commit term base bt ts r n → n ≤ x)
theorem IsAdv.uniq {commit term base bt : Int} {ts : List Int} {r x y : Int} (h : IsAdv commit term base bt ts r x) (h' : IsAdv commit term base bt ts r y) : x = y := by
 rcases h with ⟨rfl,h⟩ | ⟨h1,h2⟩
 ·rcases h' with ⟨rfl,_⟩ | ⟨h1,_⟩
  ·rfl
  ·exact absurd h1 (h _)
 ·rcases h' with ⟨_,h⟩ | ⟨g1,g2⟩
  ·exact absurd h1 (h _)
  ·have := h2 _ g1; have := g2 _ h1; omega
theorem termAt_ok {base bt : Int} {ts : List Int} {n : Int} : (termAt base bt ts n).2 = true ↔ (base ≤ n ∧ n ≤ base + ts.length) := by
 unfold termAt
 by_cases h : n = base
 ·rw [if_pos h]; simp; omega
 ·rw [if_neg h]
  by_cases h2 : n < base ∨ base + ts.length < n
  ·rw [if_pos h2]; simp; omega
  ·rw [if_neg h2]; simp; omega
theorem s119 {hk : Hook} {w : AW} {commit term base bt : Int} {v vm : AV} {ts l : List Int} {K : AV → AW → Prop} (hh : HK hk) (hm : Mem w) (hl : RsE w v ts) (hlm : RsI w vm l) (hb : 0 ≤ base) (hb2 : base < 2 ^ 41) (hs : ts.length < 2 ^ 40) (hs2 : l.length < 2 ^ 40)
  (hc1 : -9223372036854775808 ≤ commit) (hr : ∀ x ∈ l,-9223372036854775808 ≤ x ∧ x < 9223372036854775808)
  (hK : ∀ r x w',IsRule l r → IsAdv commit term base bt ts r x → Fr w.size w w' → K (ii x) w') : Cl Tryz.prog hk 119 [ii commit,ii term,ii base,ii bt,v,vm] w K := by
 apply in119 (hh.no _ _ _ (by decide) (by decide))
 unfold F119
 refine s66 hh hm hlm hs2 fun r w1 hrule f1 => ⟨_,rfl,s79 hh (hl.fr hm f1 (Nat.le_refl _)) hb hb2 hs ⟨_,rfl,?_⟩⟩
 have hl1 := hl.fr hm f1 (Nat.le_refl _)
 have hrr : -9223372036854775808 ≤ r ∧ r < 9223372036854775808 := by
  rcases hrule with ⟨_,rfl⟩ | ⟨h,_⟩
  ·omega
  ·exact hr r h
 refine loopP_ind (fun m lv w' => w' = w1 ∧ ∃ n : Int,m = (n - base + 1).toNat ∧ lv = [ii n] ∧ n ≤ r ∧ n ≤ base + ts.length ∧ ∀ k,n < k → ¬ SetS commit term base bt ts r k) ?_
  (n := (imin r (base + ts.length) - base + 1).toNat) ⟨rfl,_,rfl,rfl,?_,?_,fun k hk hS => ?_⟩
 ·rintro m lv w' ⟨rfl,n,rfl,rfl,hnr,hnl,hno⟩ R ih
  refine ⟨_,rfl,fun _ => ifT_d (fun h1 => ifT_d (fun h2 => ?_) fun h2 => ?_) fun h1 => ?_⟩
  ·have hok := (termAt_ok (base := base) (bt := bt) (ts := ts) (n := n)).2 ⟨h2,hnl⟩
   have next : ¬ SetS commit term base bt ts r n → R [ii (wi (n - 1))] w' := fun hS => ih ((n - 1) - base + 1).toNat (by omega) _ _ ⟨rfl,n - 1,rfl,by rw [wi_eq (by omega) (by omega)],by omega,by omega,fun k hk => by
    by_cases e : k = n
    ·subst e; exact hS
    ·exact hno k (by omega)⟩
   refine s97 hh hl1 hb hb2 hs ⟨_,_,rfl,?_⟩
   rw [hok]
   refine ifT_t (ifT_d (fun h3 => ?_) fun h3 => ?_)
   ·exact hK r n _ hrule (.inr ⟨⟨h1,hnr,h2,hnl,h3⟩,fun k hk => by
     by_cases e : n < k
     ·exact absurd hk (hno k e)
     ·omega⟩) f1
   ·exact next fun h => h3 h.2.2.2.2
  ·refine hK r _ _ hrule (.inl ⟨rfl,fun k hk => ?_⟩) f1
   by_cases e : n < k
   ·exact hno k e hk
   ·exact absurd hk.2.2.1 (by omega)
  ·refine hK r _ _ hrule (.inl ⟨rfl,fun k hk => ?_⟩) f1
   by_cases e : n < k
   ·exact hno k e hk
   ·exact absurd hk.1 (by omega)
 ·unfold imin; split <;> omega
 ·unfold imin; split <;> omega
 ·unfold imin at hk
  have := hS.2.1
  have := hS.2.2.2.1
  split at hk <;> omega
theorem s70 {hk : Hook} {w : AW} {v : AV} {l : List Int} {K : AV → AW → Prop} (hh : HK hk) (hl : RsI w v l) (hs : l.length < 2 ^ 40) (hK : ∀ r, IsRule l r → K (ii r) w) : Cl Tryz.prog hk 70 [v] w K := by
  apply in70 (hh.no _ _ _ (by decide) (by decide))
  unfold F70
  let good (x : Int) : Prop := l.length < 2 * cnt x l
  refine loopP_ind (fun m lv w' => w' = w ∧ ∃ (i : Nat) (out : Int) (any : Bool), i ≤ l.length ∧ m = l.length - i ∧ lv = [ii out, .bool any, ii i] ∧
    (any = true → out ∈ l ∧ good out) ∧ (any = false → out = 0) ∧ ∀ k (hk : k < i) (hkl : k < l.length), good l[k] → any = true ∧ l[k] ≤ out) ?_ ⟨rfl, 0, 0, false, Nat.zero_le _, rfl, rfl, by simp, fun _ => rfl, fun k hk => absurd hk (Nat.not_lt_zero _)⟩
  rintro m lv w' ⟨rfl, i, out, any, hi, rfl, rfl, ha, ha2, hk⟩ R ih
  refine ⟨_, _, _, rfl, fun _ => ⟨_, hl.len, ifT_d (fun h => ?_) fun h => ?_⟩⟩
  · have h : i < l.length := by omega
    refine loopP_ind (fun m lv w2 => w2 = w' ∧ ∃ j : Nat, j ≤ l.length ∧ m = l.length - j ∧ lv = [ii (cnt l[i] (l.take j)), ii j]) ?_ ⟨rfl, 0, Nat.zero_le _, rfl, rfl⟩
    rintro m lv w2 ⟨rfl, j, hj, rfl, rfl⟩ R2 ih2
    have hc := cnt_le l[i] (l.take j)
    simp at hc
    refine ⟨_, _, rfl, fun _ => ⟨_, hl.len, ifT_d (fun h2 => ?_) fun h2 => ?_⟩⟩
    · have h2 : j < l.length := by omega
      have hstep := cnt_snoc l[i] l[j] (l.take j)
      rw [← take_snoc h2] at hstep
      refine hl.atN h2 fun b o hld => ⟨_, hld, hl.atN h fun b2 o2 hld2 => ⟨_, hld2, ifT_d (fun h3 => ?_) fun h3 => ?_⟩⟩
      all_goals
        refine ih2 (l.length - (j + 1)) (by omega) _ _ ⟨rfl, j + 1, h2, rfl, ?_⟩
        rw [hstep]
        simp only [h3, if_true, if_false]
        simp
      · rw [wi_eq (by omega) (by omega), wi_eq (by omega) (by omega)]; exact ⟨rfl, rfl⟩
      · rw [wi_eq (by omega) (by omega)]
    · have : j = l.length := by omega
      subst this
      rw [List.take_length]
      -- on to the next
      have next : ∀ (out' : Int) (any' : Bool), (any' = true → out' ∈ l ∧ good out') → (any' = false → out' = 0) → (∀ k (hk : k < i + 1) (hkl : k < l.length), good l[k] → any' = true ∧ l[k] ≤ out') → R [ii out', .bool any', ii (wi ((i : Int) + 1))] w2 := fun out' any' g1 g2 g3 =>
        ih (l.length - (i + 1)) (by omega) _ _ ⟨rfl, i + 1, out', any', h, rfl, by rw [wi_eq (by omega) (by omega)]; rfl, g1, g2, g3⟩
      refine ⟨_, hl.len, s109 hh (by omega) ⟨_, rfl, ifT_d (fun h3 => ?_) fun h3 => ?_⟩⟩
      · cases any with
        | false =>
          refine ifT_t (hl.atN h fun b o hld => ⟨_, hld, next _ _ (fun _ => ⟨List.getElem_mem h, h3⟩) (by simp) fun k hk1 hk2 hg => ⟨rfl, ?_⟩⟩)
          by_cases e : k = i
          · subst e; exact Int.le_refl _
          · exact absurd (hk k (by omega) hk2 hg).1 (by simp)
        | true =>
          refine ifT_f (hl.atN h fun b o hld => ⟨_, hld, ifT_d (fun h4 => hl.atN h fun b2 o2 hld2 => ⟨_, hld2, ?_⟩) fun h4 => ?_⟩)
          · refine next _ _ (fun _ => ⟨List.getElem_mem h, h3⟩) (by simp) fun k hk1 hk2 hg => ⟨rfl, ?_⟩
            by_cases e : k = i
            · subst e; exact Int.le_refl _
            · have := (hk k (by omega) hk2 hg).2; omega
          · refine next _ _ ha ha2 fun k hk1 hk2 hg => ⟨rfl, ?_⟩
            by_cases e : k = i
            · subst e; omega
            · exact (hk k (by omega) hk2 hg).2
      · refine next _ _ ha ha2 fun k hk1 hk2 hg => ?_
        by_cases e : k = i
        · subst e; exact absurd hg h3
        · exact hk k (by omega) hk2 hg
  · have : i = l.length := by omega
    subst this
    refine hK _ ?_
    cases any with
    | true =>
      refine .inr ⟨(ha rfl).1, (ha rfl).2, fun x hx hg => ?_⟩
      obtain ⟨k, hk1, rfl⟩ := List.getElem_of_mem hx
      exact (hk k hk1 hk1 hg).2
    | false =>
      rw [ha2 rfl]
      refine rule_none (sorted_perm l) (sorted_desc l) fun k hk1 hg => ?_
      have hmem := (sorted_perm l).mem_iff.1 (List.getElem_mem hk1)
      obtain ⟨k2, hk2, e⟩ := List.getElem_of_mem hmem
      rw [← e] at hg
      exact absurd (hk k2 hk2 hk2 hg).1 (by simp)
theorem s120 {hk : Hook} {w : AW} {commit term base bt : Int} {v vm : AV} {ts l : List Int} {K : AV → AW → Prop} (hh : HK hk) (hl : RsE w v ts) (hlm : RsI w vm l) (hb : 0 ≤ base) (hb2 : base < 2 ^ 41) (hs : ts.length < 2 ^ 40) (hs2 : l.length < 2 ^ 40)
  {r : Int} (hr : IsRule l r) (hK : ∀ x,IsAdv commit term base bt ts r x → K (ii x) w) : Cl Tryz.prog hk 120 [ii commit,ii term,ii base,ii bt,v,vm] w K := by
 apply in120 (hh.no _ _ _ (by decide) (by decide))
 unfold F120
 refine loopP_ind (fun m lv w' => w' = w ∧ ∃ (i : Nat) (out : Int),i ≤ ts.length + 1 ∧ m = ts.length + 1 - i ∧ lv = [ii out,ii (base + i)] ∧
  ((out = commit ∧ ∀ n,n < base + i → ¬ SetS commit term base bt ts r n) ∨ (SetS commit term base bt ts r out ∧ ∀ n,n < base + i → SetS commit term base bt ts r n → n ≤ out))) ?_
  ⟨rfl,0,commit,Nat.zero_le _,rfl,by simp,.inl ⟨rfl,fun n hn hS => absurd hS.2.2.1 (by omega)⟩⟩
 rintro m lv w' ⟨rfl,i,out,hi,rfl,rfl,hinv⟩ R ih
 refine ⟨_,_,rfl,fun _ => ⟨_,hl.len,?_⟩⟩
 rw [wi_eq (x := base + (ts.length : Int)) (by omega) (by omega)]
 refine ifT_d (fun h => ?_) fun h => ?_
 ·have hok := (termAt_ok (base := base) (bt := bt) (ts := ts) (n := base + i)).2 ⟨by omega,h⟩
  have skip : ¬ SetS commit term base bt ts r (base + i) → R [ii out,ii (wi (base + i + 1))] w' := fun hS => by
   refine ih (ts.length + 1 - (i + 1)) (by omega) _ _ ⟨rfl,i + 1,out,by omega,rfl,by rw [wi_eq (by omega) (by omega)]; congr 3; omega,?_⟩
   rcases hinv with ⟨h1,h2⟩ | ⟨h1,h2⟩
   ·refine .inl ⟨h1,fun n hn => ?_⟩
    by_cases e : n = base + i
    ·rw [e]; exact hS
    ·exact h2 n (by omega)
   ·refine .inr ⟨h1,fun n hn hn2 => ?_⟩
    by_cases e : n = base + i
    ·rw [e] at hn2; exact absurd hn2 hS
    ·exact h2 n (by omega) hn2
  refine s103 hh hl hb hb2 hs ⟨_,_,rfl,?_⟩
  rw [hok]
  refine ifT_t (ifT_d (fun h1 => s70 hh hlm hs2 fun r' hr' => ⟨_,rfl,?_⟩) fun h1 => skip fun hS => h1 hS.1)
  have e : r' = r := hr'.uniq hr
  subst e
  refine ifT_d (fun h2 => ifT_d (fun h3 => ?_) fun h3 => skip fun hS => h3 hS.2.2.2.2) fun h2 => skip fun hS => h2 hS.2.1
  have hS : SetS commit term base bt ts r' (base + i) := ⟨h1,h2,by omega,h,h3⟩
  refine ih (ts.length + 1 - (i + 1)) (by omega) _ _ ⟨rfl,i + 1,base + i,by omega,rfl,by rw [wi_eq (by omega) (by omega)]; congr 3; omega,.inr ⟨hS,fun n hn _ => by omega⟩⟩
 ·refine hK _ ?_
  rcases hinv with ⟨h1,h2⟩ | ⟨h1,h2⟩
  ·exact .inl ⟨h1,fun n hS => h2 n (by have := hS.2.2.2.1; omega) hS⟩
  ·exact .inr ⟨h1,fun n hS => h2 n (by have := hS.2.2.2.1; omega) hS⟩
end Go.Proofs.YtghoifolghelnaaGreat
