/-
 What the functions of this chapter do.
 No condition beyond those that each theorem names.
-/
import Derived.Test.YtghoifolghelnaaGreatMe
import Derived.Test.YtghoifolghelnaaGreatSxu
import Derived.Test.YtghoifolghelnaaGreatSxn
import Derived.Test.YtghoifolghelnaaGreatProg
import Derived.KernelRfl
import Derived.Test.YtghoifolghelnaaGreatSxl
import Derived.Test.YtghoifolghelnaaGreatSxm
import Derived.Test.YtghoifolghelnaaGreatSxo
import Derived.Shelf.SortM.Plain
import Derived.Shelf.SortM.SortNone
import Derived.Ground.SlgmProg
set_option linter.unusedSimpArgs false
open Go.Sx
set_option linter.unusedVariables false
namespace Go.Proofs.YtghoifolghelnaaGreat
noncomputable def b3_0 : Code := match Tryz.f3.body with
 | some c => c
 | none => .skip
set_option maxRecDepth 100000 in
def F3_0 (hk : Hook) (n0 : AV) (m1 : List UInt8) (m2 m3 m4 m5 m6 m7 m8 m9 : Int) (m10 : Bool) (m11 m12 : AV) (draw13 : Int) (data14 : AV) (index15 : Int) (w : AW) (K : AV → AW → Prop) : Prop :=
 onA n0 fun cs16 => gd (List.all cs16 okCell) (
 new w cs16 fun b17 w18 =>
 gd (List.all [(.str m1),(.int .u8 m2),(ii m3),(ii m4),(ii m5),(ii m6),(ii m7),(ii m8),(ii m9),(.bool m10),m11,m12] okCell) (
 new w18 [(.str m1),(.int .u8 m2),(ii m3),(ii m4),(ii m5),(ii m6),(ii m7),(ii m8),(ii m9),(.bool m10),m11,m12] fun b19 w20 =>
 onM (ldN 19 w20 b17 0) fun x21 =>
 ∃ x22 : List UInt8,∃ x23 x24 x25 x26 x27 x28 x29 x30 : Int,∃ x31 : Bool,∃ x32 x33 : AV,ldN 12 w20 b19 0 = some (.agg [(.str x22),(.int .u8 x23),(ii x24),(ii x25),(ii x26),(ii x27),(ii x28),(ii x29),(ii x30),(.bool x31),x32,x33]) ∧
 Cl Tryz.prog hk 7 [x21,(.agg [(.str x22),(.int .u8 x23),(ii x24),(ii x25),(ii x26),(ii x27),(ii x28),(ii x29),(ii x30),(.bool x31),x32,x33])] w20 fun r34 w35 =>
 ∃ x36 : Bool,r34 = (.bool x36) ∧
 ifT x36 (Cl Tryz.prog hk 9 [] w35 fun r37 w38 =>
 ∃ x39 : Bool,r37 = (.bool x39) ∧
 K (.bool x39) w38)
 (onM (ldN 19 w35 b17 0) fun x40 =>
 Cl Tryz.prog hk 8 [x40] w35 fun r41 w42 =>
 ∃ x43 : Bool,r41 = (.bool x43) ∧
 ifT (!x43) (Cl Tryz.prog hk 9 [] w42 fun r44 w45 =>
  ∃ x46 : Bool,r44 = (.bool x46) ∧
  K (.bool x46) w45)
 (onM (ldN 19 w42 b17 0) fun x47 =>
 ∃ x48 : List UInt8,∃ x49 x50 x51 x52 x53 x54 x55 x56 : Int,∃ x57 : Bool,∃ x58 x59 : AV,ldN 12 w42 b19 0 = some (.agg [(.str x48),(.int .u8 x49),(ii x50),(ii x51),(ii x52),(ii x53),(ii x54),(ii x55),(ii x56),(.bool x57),x58,x59]) ∧
 new w42 [(ii 0),(ii 0),(.int .u8 0),(ii 0),(ii 0),(ii 0),(ii 0),(ii 0),.nilslice,.nilslice,(ii 0),.nilslice,.nilslice,.nilslice,.nilslice,(ii 0),(ii 0),(ii 0),.nilslice] fun b60 w61 =>
 ldN 12 w61 b19 0 = some (.agg [(.str x48),(.int .u8 x49),(ii x50),(ii x51),(ii x52),(ii x53),(ii x54),(ii x55),(ii x56),(.bool x57),x58,x59]) ∧
 ldN 19 w61 b17 0 = some x47 ∧
 Cl Tryz.prog hk 11 [x47] w61 fun r62 w63 =>
 ldN 12 w63 b19 0 = some (.agg [(.str x48),(.int .u8 x49),(ii x50),(ii x51),(ii x52),(ii x53),(ii x54),(ii x55),(ii x56),(.bool x57),x58,x59]) ∧
 Cl Tryz.prog hk 10 [r62,(.agg [(.str x48),(.int .u8 x49),(ii x50),(ii x51),(ii x52),(ii x53),(ii x54),(ii x55),(ii x56),(.bool x57),x58,x59]),(ii draw13)] w63 fun r64 w65 =>
 ∃ x66 x67 : AV,∃ x68 : Int,r64 = .tup [x66,x67,(ii x68)] ∧
 onA x66 fun cs69 => gd (List.all cs69 okCell) (
 gd (Nat.beq cs69.length 19) (onM (AW.putCells w65 b60 0 cs69) fun w70 =>
 onM (ldN 19 w70 b17 0) fun x71 =>
 Cl Tryz.prog hk 11 [x71] w70 fun r72 w73 =>
 Cl Tryz.prog hk 12 [r72,(ii draw13)] w73 fun r74 w75 =>
 ∃ x76 x77 : AV,∃ x78 : Int,r74 = .tup [x76,x77,(ii x78)] ∧
 new w75 [(ii 0),(ii 0),(.int .u8 0),(ii 0),(ii 0),(ii 0),(ii 0),(ii 0),.nilslice,.nilslice,(ii 0),.nilslice,.nilslice,.nilslice,.nilslice,(ii 0),(ii 0),(ii 0),.nilslice] fun b79 w80 =>
 onA x76 fun cs81 => gd (List.all cs81 okCell) (
 gd (Nat.beq cs81.length 19) (onM (AW.putCells w80 b79 0 cs81) fun w82 =>
 onM (ldN 19 w82 b17 0) fun x83 =>
 Cl Tryz.prog hk 11 [x83] w82 fun r84 w85 =>
 Cl Tryz.prog hk 13 [r84,data14] w85 fun r86 w87 =>
 ∃ x88 : AV,∃ x89 : Int,∃ x90 : AV,∃ x91 : Int,r86 = .tup [x88,(ii x89),x90,(ii x91)] ∧
 new w87 [(ii 0),(ii 0),(.int .u8 0),(ii 0),(ii 0),(ii 0),(ii 0),(ii 0),.nilslice,.nilslice,(ii 0),.nilslice,.nilslice,.nilslice,.nilslice,(ii 0),(ii 0),(ii 0),.nilslice] fun b92 w93 =>
 onA x88 fun cs94 => gd (List.all cs94 okCell) (
 gd (Nat.beq cs94.length 19) (onM (AW.putCells w93 b92 0 cs94) fun w95 =>
 onM (ldN 19 w95 b17 0) fun x96 =>
 Cl Tryz.prog hk 11 [x96] w95 fun r97 w98 =>
 Cl Tryz.prog hk 14 [r97,(ii draw13)] w98 fun r99 w100 =>
 ∃ x101 x102 : AV,∃ x103 : Int,r99 = .tup [x101,x102,(ii x103)] ∧
 new w100 [(ii 0),(ii 0),(.int .u8 0),(ii 0),(ii 0),(ii 0),(ii 0),(ii 0),.nilslice,.nilslice,(ii 0),.nilslice,.nilslice,.nilslice,.nilslice,(ii 0),(ii 0),(ii 0),.nilslice] fun b104 w105 =>
 onA x101 fun cs106 => gd (List.all cs106 okCell) (
 gd (Nat.beq cs106.length 19) (onM (AW.putCells w105 b104 0 cs106) fun w107 =>
 onM (ldN 19 w107 b17 0) fun x108 =>
 Cl Tryz.prog hk 11 [x108] w107 fun r109 w110 =>
 Cl Tryz.prog hk 15 [r109,(ii index15),data14] w110 fun r111 w112 =>
 ∃ x113 : AV,∃ x114 : Int,r111 = .tup [x113,(ii x114)] ∧
 new w112 [(ii 0),(ii 0),(.int .u8 0),(ii 0),(ii 0),(ii 0),(ii 0),(ii 0),.nilslice,.nilslice,(ii 0),.nilslice,.nilslice,.nilslice,.nilslice,(ii 0),(ii 0),(ii 0),.nilslice] fun b115 w116 =>
 onA x113 fun cs117 => gd (List.all cs117 okCell) (
 gd (Nat.beq cs117.length 19) (onM (AW.putCells w116 b115 0 cs117) fun w118 =>
 onM (ldN 19 w118 b60 0) fun x119 =>
 onM (ldN 19 w118 b79 0) fun x120 =>
 onM (ldN 19 w118 b92 0) fun x121 =>
 onM (ldN 19 w118 b104 0) fun x122 =>
 onM (ldN 19 w118 b115 0) fun x123 =>
 onA x119 fun cs124 => gd (List.all cs124 okCell) (
 gd (Nat.beq cs124.length 19 && Nat.ble 19 95) (
 onA x120 fun cs125 => gd (List.all cs125 okCell) (
 gd (Nat.beq cs125.length 19 && Nat.ble 38 (List.length (listPut [(ii 0),(ii 0),(.int .u8 0),(ii 0),(ii 0),(ii 0),(ii 0),(ii 0),.nilslice,.nilslice,(ii 0),.nilslice,.nilslice,.nilslice,.nilslice,(ii 0),(ii 0),(ii 0),.nilslice,(ii 0),(ii 0),(.int .u8 0),(ii 0),(ii 0),(ii 0),(ii 0),(ii 0),.nilslice,.nilslice,(ii 0),.nilslice,.nilslice,.nilslice,.nilslice,(ii 0),(ii 0),(ii 0),.nilslice,(ii 0),(ii 0),(.int .u8 0),(ii 0),(ii 0),(ii 0),(ii 0),(ii 0),.nilslice,.nilslice,(ii 0),.nilslice,.nilslice,.nilslice,.nilslice,(ii 0),(ii 0),(ii 0),.nilslice,(ii 0),(ii 0),(.int .u8 0),(ii 0),(ii 0),(ii 0),(ii 0),(ii 0),.nilslice,.nilslice,(ii 0),.nilslice,.nilslice,.nilslice,.nilslice,(ii 0),(ii 0),(ii 0),.nilslice,(ii 0),(ii 0),(.int .u8 0),(ii 0),(ii 0),(ii 0),(ii 0),(ii 0),.nilslice,.nilslice,(ii 0),.nilslice,.nilslice,.nilslice,.nilslice,(ii 0),(ii 0),(ii 0),.nilslice] 0 cs124))) (
 onA x121 fun cs126 => gd (List.all cs126 okCell) (
 gd (Nat.beq cs126.length 19 && Nat.ble 57 (List.length (listPut (listPut [(ii 0),(ii 0),(.int .u8 0),(ii 0),(ii 0),(ii 0),(ii 0),(ii 0),.nilslice,.nilslice,(ii 0),.nilslice,.nilslice,.nilslice,.nilslice,(ii 0),(ii 0),(ii 0),.nilslice,(ii 0),(ii 0),(.int .u8 0),(ii 0),(ii 0),(ii 0),(ii 0),(ii 0),.nilslice,.nilslice,(ii 0),.nilslice,.nilslice,.nilslice,.nilslice,(ii 0),(ii 0),(ii 0),.nilslice,(ii 0),(ii 0),(.int .u8 0),(ii 0),(ii 0),(ii 0),(ii 0),(ii 0),.nilslice,.nilslice,(ii 0),.nilslice,.nilslice,.nilslice,.nilslice,(ii 0),(ii 0),(ii 0),.nilslice,(ii 0),(ii 0),(.int .u8 0),(ii 0),(ii 0),(ii 0),(ii 0),(ii 0),.nilslice,.nilslice,(ii 0),.nilslice,.nilslice,.nilslice,.nilslice,(ii 0),(ii 0),(ii 0),.nilslice,(ii 0),(ii 0),(.int .u8 0),(ii 0),(ii 0),(ii 0),(ii 0),(ii 0),.nilslice,.nilslice,(ii 0),.nilslice,.nilslice,.nilslice,.nilslice,(ii 0),(ii 0),(ii 0),.nilslice] 0 cs124) 19 cs125))) (
 onA x122 fun cs127 => gd (List.all cs127 okCell) (
 gd (Nat.beq cs127.length 19 && Nat.ble 76 (List.length (listPut (listPut (listPut [(ii 0),(ii 0),(.int .u8 0),(ii 0),(ii 0),(ii 0),(ii 0),(ii 0),.nilslice,.nilslice,(ii 0),.nilslice,.nilslice,.nilslice,.nilslice,(ii 0),(ii 0),(ii 0),.nilslice,(ii 0),(ii 0),(.int .u8 0),(ii 0),(ii 0),(ii 0),(ii 0),(ii 0),.nilslice,.nilslice,(ii 0),.nilslice,.nilslice,.nilslice,.nilslice,(ii 0),(ii 0),(ii 0),.nilslice,(ii 0),(ii 0),(.int .u8 0),(ii 0),(ii 0),(ii 0),(ii 0),(ii 0),.nilslice,.nilslice,(ii 0),.nilslice,.nilslice,.nilslice,.nilslice,(ii 0),(ii 0),(ii 0),.nilslice,(ii 0),(ii 0),(.int .u8 0),(ii 0),(ii 0),(ii 0),(ii 0),(ii 0),.nilslice,.nilslice,(ii 0),.nilslice,.nilslice,.nilslice,.nilslice,(ii 0),(ii 0),(ii 0),.nilslice,(ii 0),(ii 0),(.int .u8 0),(ii 0),(ii 0),(ii 0),(ii 0),(ii 0),.nilslice,.nilslice,(ii 0),.nilslice,.nilslice,.nilslice,.nilslice,(ii 0),(ii 0),(ii 0),.nilslice] 0 cs124) 19 cs125) 38 cs126))) (
 onA x123 fun cs128 => gd (List.all cs128 okCell) (
 gd (Nat.beq cs128.length 19 && Nat.ble 95 (List.length (listPut (listPut (listPut (listPut [(ii 0),(ii 0),(.int .u8 0),(ii 0),(ii 0),(ii 0),(ii 0),(ii 0),.nilslice,.nilslice,(ii 0),.nilslice,.nilslice,.nilslice,.nilslice,(ii 0),(ii 0),(ii 0),.nilslice,(ii 0),(ii 0),(.int .u8 0),(ii 0),(ii 0),(ii 0),(ii 0),(ii 0),.nilslice,.nilslice,(ii 0),.nilslice,.nilslice,.nilslice,.nilslice,(ii 0),(ii 0),(ii 0),.nilslice,(ii 0),(ii 0),(.int .u8 0),(ii 0),(ii 0),(ii 0),(ii 0),(ii 0),.nilslice,.nilslice,(ii 0),.nilslice,.nilslice,.nilslice,.nilslice,(ii 0),(ii 0),(ii 0),.nilslice,(ii 0),(ii 0),(.int .u8 0),(ii 0),(ii 0),(ii 0),(ii 0),(ii 0),.nilslice,.nilslice,(ii 0),.nilslice,.nilslice,.nilslice,.nilslice,(ii 0),(ii 0),(ii 0),.nilslice,(ii 0),(ii 0),(.int .u8 0),(ii 0),(ii 0),(ii 0),(ii 0),(ii 0),.nilslice,.nilslice,(ii 0),.nilslice,.nilslice,.nilslice,.nilslice,(ii 0),(ii 0),(ii 0),.nilslice] 0 cs124) 19 cs125) 38 cs126) 57 cs127))) (
 new w118 (listPut (listPut (listPut (listPut (listPut [(ii 0),(ii 0),(.int .u8 0),(ii 0),(ii 0),(ii 0),(ii 0),(ii 0),.nilslice,.nilslice,(ii 0),.nilslice,.nilslice,.nilslice,.nilslice,(ii 0),(ii 0),(ii 0),.nilslice,(ii 0),(ii 0),(.int .u8 0),(ii 0),(ii 0),(ii 0),(ii 0),(ii 0),.nilslice,.nilslice,(ii 0),.nilslice,.nilslice,.nilslice,.nilslice,(ii 0),(ii 0),(ii 0),.nilslice,(ii 0),(ii 0),(.int .u8 0),(ii 0),(ii 0),(ii 0),(ii 0),(ii 0),.nilslice,.nilslice,(ii 0),.nilslice,.nilslice,.nilslice,.nilslice,(ii 0),(ii 0),(ii 0),.nilslice,(ii 0),(ii 0),(.int .u8 0),(ii 0),(ii 0),(ii 0),(ii 0),(ii 0),.nilslice,.nilslice,(ii 0),.nilslice,.nilslice,.nilslice,.nilslice,(ii 0),(ii 0),(ii 0),.nilslice,(ii 0),(ii 0),(.int .u8 0),(ii 0),(ii 0),(ii 0),(ii 0),(ii 0),.nilslice,.nilslice,(ii 0),.nilslice,.nilslice,.nilslice,.nilslice,(ii 0),(ii 0),(ii 0),.nilslice] 0 cs124) 19 cs125) 38 cs126) 57 cs127) 76 cs128) fun b129 w130 =>
 new w130 [(ii x68),(ii x78),(ii x91),(ii x103),(ii x114)] fun b131 w132 =>
 loopP [(ii 0)] w132 fun R133 l_134 w135 => ∃ k136 : Int,l_134 = [(ii k136)] ∧ ∀ _ : Nat → AV,
  ifT (decide (k136 < 5)) (atP (idxS 19 (.slice b129 0 5 5 none) (ii k136)) fun b137 o138 =>
  onM (ldN 19 w135 b137 o138) fun x139 =>
  new w135 [(ii 0),(ii 0),(.int .u8 0),(ii 0),(ii 0),(ii 0),(ii 0),(ii 0),.nilslice,.nilslice,(ii 0),.nilslice,.nilslice,.nilslice,.nilslice,(ii 0),(ii 0),(ii 0),.nilslice] fun b140 w141 =>
  onA x139 fun cs142 => gd (List.all cs142 okCell) (
  gd (Nat.beq cs142.length 19) (onM (AW.putCells w141 b140 0 cs142) fun w143 =>
  atP (idxS 1 (.slice b131 0 5 5 none) (ii k136)) fun b144 o145 =>
  ∃ x146 : Int,ld w143 b144 o145 = some (ii x146) ∧
  ifT (!decide (x146 = 0)) (R133 [(ii (wi (k136 + 1)))] w143)
  (onM (ldN 19 w143 b140 0) fun x147 =>
  Cl Tryz.prog hk 8 [x147] w143 fun r148 w149 =>
  ∃ x150 : Bool,r148 = (.bool x150) ∧
  gd (!(!x150)) (
  ∃ x151 : Int,ld w149 b140 (0 + 3) = some (ii x151) ∧
  ∃ x152 : Int,ld w149 b17 (0 + 3) = some (ii x152) ∧
  gd (!(decide (x151 < x152))) (
  ∃ x153 : Int,ld w149 b140 (0 + 10) = some (ii x153) ∧
  ∃ x154 : Int,ld w149 b17 (0 + 10) = some (ii x154) ∧
  gd (!(decide (x153 < x154))) (
  ∃ x155 : Int,ld w149 b140 (0 + 6) = some (ii x155) ∧
  ∃ x156 : Int,ld w149 b17 (0 + 6) = some (ii x156) ∧
  gd (!(decide (x155 < x156))) (
  ∃ x157 : Int,ld w149 b140 (0 + 3) = some (ii x157) ∧
  ∃ x158 : Int,ld w149 b17 (0 + 3) = some (ii x158) ∧
  ifT (decide (x157 = x158)) (∃ x159 : Int,ld w149 b17 (0 + 4) = some (ii x159) ∧
  ifT (!decide (x159 = 0)) (∃ x160 : Int,ld w149 b140 (0 + 4) = some (ii x160) ∧
  ∃ x161 : Int,ld w149 b17 (0 + 4) = some (ii x161) ∧
  ifT (!decide (x160 = x161)) (K (.bool false) w149)
  (R133 [(ii (wi (k136 + 1)))] w149))
  (R133 [(ii (wi (k136 + 1)))] w149))
  (R133 [(ii (wi (k136 + 1)))] w149)))))))))
  (ifT (decide (x78 = 0)) (Cl Tryz.prog hk 9 [] w135 fun r162 w163 =>
 ∃ x164 : Bool,r162 = (.bool x164) ∧
 K (.bool x164) w163)
 (K (.bool false) w135))))))))))))))))))))))))))
def adv3_0 : Adv := (.sq .lv (.sq (.sq .lv (.cd (.sq .lv .lf) .lf)) (.sq .lv (.sq .lv (.sq .lv (.sq .lv (.sq .lv (.sq .lv (.sq .lv (.sq (.sq .lv (.bl (.lp [(28,.sc (.int .i64))] (.sq (.sq .lv (.cd .lf .lf)) (.sq (.bl (.sq .lv (.sq (.sq .lv (.cd .lf .lf)) (.sq .fv (.cd (.sq .lv .lf) .lf))))) .lv))))) (.sq .lv .lf)))))))))))
set_option maxRecDepth 100000 in
theorem eq3_0 (hk : Hook) (n0 : AV) (m1 : List UInt8) (m2 m3 m4 m5 m6 m7 m8 m9 : Int) (m10 : Bool) (m11 m12 : AV) (draw13 : Int) (data14 : AV) (index15 : Int) (w : AW) (K : AV → AW → Prop) : codeS Tryz.prog hk true 154 adv3_0 b3_0 ([n0,(.agg [(.str m1),(.int .u8 m2),(ii m3),(ii m4),(ii m5),(ii m6),(ii m7),(ii m8),(ii m9),(.bool m10),m11,m12]),(ii draw13),data14,(ii index15)] ++ List.replicate (Tryz.f3.ntmps - List.length [n0,(.agg [(.str m1),(.int .u8 m2),(ii m3),(ii m4),(ii m5),(ii m6),(ii m7),(ii m8),(ii m9),(.bool m10),m11,m12]),(ii draw13),data14,(ii index15)]) Go.Sx.undef) w (fun e t w => leaveS Tryz.prog true Tryz.f3 e t w K) = F3_0 hk n0 m1 m2 m3 m4 m5 m6 m7 m8 m9 m10 m11 m12 draw13 data14 index15 w K := by kernel_rfl
theorem in3 {hk : Hook} {n0 : AV} {m1 : List UInt8} {m2 m3 m4 m5 m6 m7 m8 m9 : Int} {m10 : Bool} {m11 m12 : AV} {draw13 : Int} {data14 : AV} {index15 : Int} {w : AW} {K : AV → AW → Prop} (hn : hk 3 [n0,(.agg [(.str m1),(.int .u8 m2),(ii m3),(ii m4),(ii m5),(ii m6),(ii m7),(ii m8),(ii m9),(.bool m10),m11,m12]),(ii draw13),data14,(ii index15)] w = none) (h : F3_0 hk n0 m1 m2 m3 m4 m5 m6 m7 m8 m9 m10 m11 m12 draw13 data14 index15 w K) : Cl Tryz.prog hk 3 [n0,(.agg [(.str m1),(.int .u8 m2),(ii m3),(ii m4),(ii m5),(ii m6),(ii m7),(ii m8),(ii m9),(.bool m10),m11,m12]),(ii draw13),data14,(ii index15)] w K :=
 fnL_ok (big := true) (c := b3_0) Tryz.func3 hn (by kernel_rfl) (last_ok (big := true) (n := 154) (adv := adv3_0) (by rw [eq3_0]; exact h))
end Go.Proofs.YtghoifolghelnaaGreat
/-
 RaftRight: whatever is done to a right node,it stays right,over memory.
 No condition beyond those that each theorem names.
-/
set_option linter.unusedSimpArgs false
open Go.Sx
set_option linter.unusedVariables false
set_option linter.unusedSimpArgs false
namespace Go.Proofs.YtghoifolghelnaaGreat
structure Bn (n : Nd) : Prop where
 bd : Bd n
 data : ∀ e ∈ n.log,e.2.length ≤ 140737488351232
theorem Bn.sm {n : Nd} (h : Bn n) : Sm n := by
 obtain ⟨⟨h1,h2,h3,h4,h5,h6,h7⟩,_⟩ := h
 exact ⟨by omega,by omega,by omega,by omega,by omega,by omega,by omega⟩
theorem RightN.sm {n : Nd} (h : RightN n) (hl : n.log.length < 2 ^ 40) : Sm n := by
 have := h.size
 have := h.snap
 have := h.votes
 have := h.next
 have := h.mtch
 have := h.seen
 have := h.reads.2
 exact ⟨by omega,hl,by omega,by omega,by omega,by omega,by omega⟩
section
variable {n : Nd} {m : Msg} {dr : Int} {d : Byts}
theorem len_put : (putN n d).log.length = n.log.length + 1 := by unfold putN settledN; simp
theorem len_elected : (electedN n).log.length ≤ n.log.length + 1 := by
 unfold electedN
 split
 ·rw [len_put]; exact Nat.le_refl _
 ·omega
theorem len_follow {t : Int} : (followN n t dr).log.length = n.log.length := by rw [(fol_same n t dr).2.2.2.2.2.2.2.1]
theorem len_tick : (tickN n dr).log.length ≤ n.log.length + 1 := by
 unfold tickN
 split
 ·split <;> exact Nat.le_succ _
 ·split
  ·rw [standsN_el]
   unfold standsN
   split
   ·exact Nat.le_succ _
   ·exact len_elected
  ·exact Nat.le_succ _
theorem len_take : (takeN n m dr).log.length ≤ n.log.length + m.ents.length + 1 := by
 have h0 : (if n.term < m.term then followN n m.term dr else n).log.length = n.log.length := by
  split
  ·exact len_follow
  ·rfl
 unfold takeN
 rw [← h0]
 generalize (if n.term < m.term then followN n m.term dr else n) = y
 unfold doesN
 split
 ·unfold askedN; split
  ·show y.log.length ≤ _; omega
  ·omega
 ·split
  ·unfold votedN
   split
   ·refine Nat.le_trans len_elected ?_
    show y.log.length + 1 ≤ _; omega
   ·omega
  ·split
   ·unfold appendedN
    split
    ·omega
    ·split
     ·omega
     ·have e : (ledN y m dr).log.length = y.log.length := len_follow
      unfold appN
      split
      ·have := mergeF_len (l := (ledN y m dr).log) (es := m.ents) (base := (ledN y m dr).base) (bt := (ledN y m dr).bt) (index := m.index) (term := m.lt)
       show (mergeF _ _ _ _ _ _).1.length ≤ _; omega
      ·omega
   ·split
    ·unfold toldN
     split
     ·unfold telN seenN
      split
      ·split
       ·show y.log.length ≤ _; omega
       ·show y.log.length ≤ _; omega
      ·split
       ·split
        ·show y.log.length ≤ _; omega
        ·show y.log.length ≤ _; omega
       ·split
        ·show y.log.length ≤ _; omega
        ·show y.log.length ≤ _; omega
     ·omega
    ·unfold installedN
     split
     ·omega
     ·split
      ·omega
      ·have e : (ledN y m dr).log.length = y.log.length := len_follow
       unfold instN
       split
       ·show (if _ then _ else _ : List Ent).length ≤ _
        split
        ·rw [List.length_drop]; omega
        ·simp
       ·omega
end
section
variable {hk : Hook} {T A A' B : Nat → Prop} {I : List Nat} {w0 w w' : AW} {K : AV → AW → Prop} {n y : Nd} {m : Msg} {e sv dv r : AV} {s s0 : Sl} {dr id index : Int} {d : Byts} {L : Obs} {U U' : List Nat}
theorem NR.x (h : NR (fz B U) w n s) (x : Xt U w U' w') : NR (fz B U') w' n s := h.xa x.xw.xa
theorem NR.new (h : NR (Nw w) w' n s) (st : Ow T I w0 w L) : NR (fz T (ids L)) w' n s := h.xa ⟨fun c f _ a b d => ⟨st.P.new c a,st.P.new f b,d⟩⟩
theorem nr_z : NR T w zNd zSl := ⟨Rp.rd.nil,Rp.rd.nil,Rp.rd.nil,Rp.rd.nil,Rp.rd.nil,Rp.rd.nil,Rp.rd.nil⟩
def Uq (n y : Nd) (e : Int) : Prop := e = 0 → Up n y ∧ y.log.length ≤ 1000
theorem uq_z {e : Int} (h : e ≠ 0) : Uq n zNd e := fun h0 => absurd h0 h
theorem takQ (hr : RightN n) (hl : n.log.length ≤ 300) (hm : m.ents.length ≤ 300) (h : TakR T n m dr w r) : ∃ y s' o e,r = .tup [.agg (ndC y s'),o,.int .i64 e] ∧ NR T w y s' ∧ Uq n y e := by
 rcases h with ⟨_,h⟩ | ⟨⟨_,hp⟩,s',o,h,h2,_⟩
 ·exact ⟨_,_,_,_,h,nr_z,uq_z (by decide)⟩
 ·exact ⟨_,_,_,_,h,h2,fun _ => ⟨right_take hr hp,by have := len_take (n := n) (m := m) (dr := dr); omega⟩⟩
theorem ticQ (hr : RightN n) (hl : n.log.length ≤ 300) (h : TicR T n dr w r) : ∃ y s' o,r = .tup [.agg (ndC y s'),o,.int .i64 0] ∧ NR T w y s' ∧ Uq n y 0 := by
 rcases h with ⟨h,_⟩ | ⟨_,s',o,h,h2,_⟩
 ·exact absurd hr h
 ·exact ⟨_,_,_,h,h2,fun _ => ⟨right_tick hr,by have := len_tick (n := n) (dr := dr); omega⟩⟩
theorem proQ (hr : RightN n) (hl : n.log.length ≤ 300) (h : ProR T n d w r) : ∃ y s' i o e,r = .tup [.agg (ndC y s'),.int .i64 i,o,.int .i64 e] ∧ NR T w y s' ∧ Uq n y e := by
 rcases h with ⟨h0,h⟩ | ⟨_,h0,s',o,h,h2,_⟩
 ·exact ⟨_,_,_,_,_,h,nr_z,uq_z h0⟩
 ·refine ⟨_,_,_,_,_,h,h2,fun _ => ?_⟩
  unfold proE at h0
  rw [if_neg (not_not_intro hr)] at h0
  split at h0
  ·cases h0
  ·rename_i h3
   split at h0
   ·cases h0
   ·have h3 : n.role = 3 := by simpa using h3
    exact ⟨right_put hr h3 (by omega),by rw [len_put]; omega⟩
theorem reaQ (hr : RightN n) (hl : n.log.length ≤ 300) (h : ReaR T n id w r) : ∃ y s' o e,r = .tup [.agg (ndC y s'),o,.int .i64 e] ∧ NR T w y s' ∧ Uq n y e := by
 rcases h with ⟨h0,h⟩ | ⟨_,h0,s',o,h,h2,_⟩
 ·exact ⟨_,_,_,_,h,nr_z,uq_z h0⟩
 ·refine ⟨_,_,_,_,h,h2,fun _ => ?_⟩
  unfold reaE at h0
  rw [if_neg (not_not_intro hr)] at h0
  split at h0
  ·cases h0
  ·rename_i h3
   split at h0
   ·cases h0
   ·split at h0
    ·cases h0
    ·have h3 : n.role = 3 := Classical.byContradiction fun h => h3 (.inl h)
     exact ⟨right_read hr h3 (by omega) (by assumption),by show n.log.length ≤ _; omega⟩
theorem comQ (hr : RightN n) (hl : n.log.length ≤ 300) (h : ComR T n index d w r) : ∃ y s' e,r = .tup [.agg (ndC y s'),.int .i64 e] ∧ NR T w y s' ∧ Uq n y e := by
 rcases h with ⟨h0,h⟩ | ⟨_,h0,s',h,h2⟩
 ·exact ⟨_,_,_,h,nr_z,uq_z h0⟩
 ·refine ⟨_,_,_,h,h2,fun _ => ?_⟩
  unfold comE at h0
  rw [if_neg (not_not_intro hr)] at h0
  split at h0
  ·cases h0
  ·split at h0
   ·cases h0
   ·split at h0
    ·cases h0
    ·split at h0
     ·cases h0
     ·exact ⟨right_comp hr (by omega) (by omega) (by omega) (by omega),by show (n.log.drop _).length ≤ _; rw [List.length_drop]; omega⟩
theorem s7 (hh : HK hk) (hm : Mem w) (hpos : 0 < w.size) (h : NR A w n s) (he : (rL rE).rd B w [e] m.ents) (hs : (rL rU).rd B w [sv] m.snap) (hK : ∀ (c : Bool) w',Fr w.size w w' → (c = false → n.log.length ≤ 300 ∧ m.ents.length ≤ 300) → K (.bool c) w') : Cl Tryz.prog hk 7 [.agg (ndC n s),.agg (mC m e sv)] w K := by
 refine in7 (hh.no _ _ _ (by decide) (by decide)) ?_
 unfold F7
 have pv : Pv (Nw w) w := ⟨hm,hpos,fun _ h => h⟩
 refine gd_t h.ok (pv.st.new' fun b31 w32 st32 x32 => gd_t (okM he hs) (st32.new' fun b33 w34 st34 x34 => ?_))
 have st34 : Ow (Nw w) [] w w34 [(b33,.row (mC m e sv)),(b31,.row (ndC n s))] := st34
 refine onM_s (v := s.log) (st34.ld 1 rfl rfl) ⟨_,(h.arg hm st34).log.len',ifT_d (fun hc => hK _ _ st34.fr fun e => by cases e) fun hc => onM_s (v := e) (st34.ld 0 rfl rfl) ⟨_,(st34.arg hm he).len',ifT_d (fun hc2 => hK _ _ st34.fr fun e => by cases e) fun hc2 => onM_s (v := s.reads) (st34.ld 1 rfl rfl) ⟨_,(h.arg hm st34).reads.len',hK _ _ st34.fr fun _ => ⟨by omega,by omega⟩⟩⟩⟩
abbrev RT3 : AV → AW → Prop := fun r _ => r = .bool true
set_option maxHeartbeats 2000000 in
set_option maxRecDepth 40000 in
theorem s3 (hh : HK hk) (pv : Pv TA w) (h : NR TA w n s0) (bn : n.log.length ≤ 300 → Bn n) (he : (rL rE).rd TA w [e] m.ents) (hs : (rL rU).rd TA w [sv] m.snap) (hd : (rL rU).rd TA w [dv] d) (hk8 : 0 ≤ m.kind ∧ m.kind < 256) : Cl Tryz.prog hk 3 [.agg (ndC n s0),.agg (mC m e sv),.int .i64 dr,dv,.int .i64 index] w RT3 := by
 refine in3 (hh.no _ _ _ (by decide) (by decide)) ?_
 unfold F3_0
 refine gd_t h.ok (pv.st.new' fun b17 w18 st18 x18 => gd_t (okM he hs) (st18.new' fun b19 w20 st20 x20 => ?_))
 have st20 : Ow TA [] w w20 [(b19,.row (mC m e sv)),(b17,.row (ndC n s0))] := st20
 refine onM_s (st20.ldN 1 rfl rfl rfl) ⟨_,_,_,_,_,_,_,_,_,_,_,_,st20.ldN 0 rfl rfl rfl,?_⟩
 refine s7 (m := m) hh st20.mem st20.P0.pos (h.arg pv.mem st20) (st20.arg pv.mem he) (st20.arg pv.mem hs) fun c w35 f35 hc => ⟨_,rfl,?_⟩
 cases c with
 | true => exact ifT_t (Cl_hook (hh.awake _) ⟨_,rfl,rfl⟩)
 | false =>
 obtain ⟨lg,lm⟩ := hc rfl
 have bn := bn lg
 have sm := bn.sm
 obtain ⟨st35,x35⟩ := st20.call f35
 refine ifT_f (onM_s (st35.ldN 1 rfl rfl rfl) (s8 hh st35.mem st35.P0.pos (h.arg pv.mem st35) sm fun c w42 f42 hc => ⟨_,rfl,?_⟩))
 cases c with
 | false => exact ifT_t (Cl_hook (hh.awake _) ⟨_,rfl,rfl⟩)
 | true =>
 have hr := hc.1 rfl
 clear hc
 obtain ⟨st42,x42⟩ := st35.call f42
 refine ifT_f (onM_s (st42.ldN 1 rfl rfl rfl) ⟨_,_,_,_,_,_,_,_,_,_,_,_,st42.ldN 0 rfl rfl rfl,st42.new' fun b60 w61 st61 x61 => ⟨st61.ldN 1 rfl rfl rfl,st61.ldN 2 rfl rfl rfl,?_⟩⟩)
 -- Take
 refine s11 hh st61.mem st61.P0.pos (h.arg pv.mem st61) sm bn.data bn.bd fun s1 w63 f63 nr63 _ => ?_
 obtain ⟨st63,x63⟩ := st61.call f63
 refine ⟨st63.ldN 1 rfl rfl rfl,s10 hh st63.mem st63.P0.pos nr63 sm (by omega) (st63.arg pv.mem he).out (st63.arg pv.mem hs).out hk8 (by omega) fun r w65 f65 hr65 => ?_⟩
 obtain ⟨y1,s1,o1,e1,rfl,ny1,u1⟩ := takQ hr lg lm hr65
 have ny1 := ny1.new st63
 obtain ⟨st65,x65⟩ := st63.call f65
 refine ⟨_,_,_,rfl,gd_t ny1.ok (gd_t rfl (st65.put 0 rfl (Nat.le_of_ble_eq_true rfl) fun w70 st70 x70 => ?_))⟩
 have ny1 := ny1.x x70
 -- Tick
 refine onM_s (st70.ldN 2 rfl rfl rfl) (s11 hh st70.mem st70.P0.pos (h.arg pv.mem st70) sm bn.data bn.bd fun s2 w73 f73 nr73 _ => ?_)
 obtain ⟨st73,x73⟩ := st70.call f73
 refine s12 hh st73.mem st73.P0.pos nr73 sm (by omega) fun r w75 f75 hr75 => ?_
 obtain ⟨y2,s2,o2,rfl,ny2,u2⟩ := ticQ hr lg hr75
 have ny2 := ny2.new st73
 obtain ⟨st75,x75⟩ := st73.call f75
 refine ⟨_,_,_,rfl,st75.new' fun b79 w80 st80 x80 => gd_t ny2.ok (gd_t rfl (st80.put 0 rfl (Nat.le_of_ble_eq_true rfl) fun w82 st82 x82 => ?_))⟩
 have ny2 := ny2.x (x80.trans x82)
 have ny1 := ny1.x ((x73.trans x75).trans (x80.trans x82))
 -- Propose
 refine onM_s (st82.ldN 3 rfl rfl rfl) (s11 hh st82.mem st82.P0.pos (h.arg pv.mem st82) sm bn.data bn.bd fun s3 w85 f85 nr85 _ => ?_)
 obtain ⟨st85,x85⟩ := st82.call f85
 refine s13 hh st85.mem st85.P0.pos nr85 sm (st85.arg pv.mem hd).out fun r w87 f87 hr87 => ?_
 obtain ⟨y3,s3,i3,o3,e3,rfl,ny3,u3⟩ := proQ hr lg hr87
 have ny3 := ny3.new st85
 obtain ⟨st87,x87⟩ := st85.call f87
 refine ⟨_,_,_,_,rfl,st87.new' fun b92 w93 st93 x93 => gd_t ny3.ok (gd_t rfl (st93.put 0 rfl (Nat.le_of_ble_eq_true rfl) fun w95 st95 x95 => ?_))⟩
 have ny3 := ny3.x (x93.trans x95)
 have x8295 := (x85.trans x87).trans (x93.trans x95)
 have ny2 := ny2.x x8295
 have ny1 := ny1.x x8295
 -- Read
 refine onM_s (st95.ldN 4 rfl rfl rfl) (s11 hh st95.mem st95.P0.pos (h.arg pv.mem st95) sm bn.data bn.bd fun s4 w98 f98 nr98 _ => ?_)
 obtain ⟨st98,x98⟩ := st95.call f98
 refine s14 hh st98.mem st98.P0.pos nr98 sm (by omega) fun r w100 f100 hr100 => ?_
 obtain ⟨y4,s4,o4,e4,rfl,ny4,u4⟩ := reaQ hr lg hr100
 have ny4 := ny4.new st98
 obtain ⟨st100,x100⟩ := st98.call f100
 refine ⟨_,_,_,rfl,st100.new' fun b104 w105 st105 x105 => gd_t ny4.ok (gd_t rfl (st105.put 0 rfl (Nat.le_of_ble_eq_true rfl) fun w107 st107 x107 => ?_))⟩
 have ny4 := ny4.x (x105.trans x107)
 have x95107 := (x98.trans x100).trans (x105.trans x107)
 have ny3 := ny3.x x95107
 have ny2 := ny2.x x95107
 have ny1 := ny1.x x95107
 -- Compact
 refine onM_s (st107.ldN 5 rfl rfl rfl) (s11 hh st107.mem st107.P0.pos (h.arg pv.mem st107) sm bn.data bn.bd fun s5 w110 f110 nr110 _ => ?_)
 obtain ⟨st110,x110⟩ := st107.call f110
 refine s15 hh st110.mem st110.P0.pos nr110 sm (by omega) (st110.arg pv.mem hd).out fun r w112 f112 hr112 => ?_
 obtain ⟨y5,s5,e5,rfl,ny5,u5⟩ := comQ hr lg hr112
 have ny5 := ny5.new st110
 obtain ⟨st112,x112⟩ := st110.call f112
 refine ⟨_,_,rfl,st112.new' fun b115 w116 st116 x116 => gd_t ny5.ok (gd_t rfl (st116.put 0 rfl (Nat.le_of_ble_eq_true rfl) fun w118 st118 x118 => ?_))⟩
 have ny5 := ny5.x (x116.trans x118)
 have x107118 := (x110.trans x112).trans (x116.trans x118)
 have ny4 := ny4.x x107118
 have ny3 := ny3.x x107118
 have ny2 := ny2.x x107118
 have ny1 := ny1.x x107118
 have st118 : Ow TA [] w w118 [(b115,.row (ndC y5 s5)),(b104,.row (ndC y4 s4)),(b92,.row (ndC y3 s3)),(b79,.row (ndC y2 s2)),(b60,.row (ndC y1 s1)),(b19,.row (mC m e sv)),(b17,.row (ndC n s0))] := st118
 refine onM_s (st118.ldN 4 rfl rfl rfl) (onM_s (st118.ldN 3 rfl rfl rfl) (onM_s (st118.ldN 2 rfl rfl rfl) (onM_s (st118.ldN 1 rfl rfl rfl) (onM_s (st118.ldN 0 rfl rfl rfl) ?_))))
 refine gd_t ny1.ok (gd_t rfl (gd_t ny2.ok (gd_t rfl (gd_t ny3.ok (gd_t rfl (gd_t ny4.ok (gd_t rfl (gd_t ny5.ok (gd_t rfl (st118.new' fun b129 w130 st130 x130 => st130.new' fun b131 w132 st132 x132 => ?_))))))))))
 obtain ⟨LL,hL⟩ : ∃ LL : Obs,LL = [(b131,Ob.row [.int .i64 e1,.int .i64 0,.int .i64 e3,.int .i64 e4,.int .i64 e5]),(b129,.row (ndC y1 s1 ++ (ndC y2 s2 ++ (ndC y3 s3 ++ (ndC y4 s4 ++ ndC y5 s5))))),(b115,.row (ndC y5 s5)),(b104,.row (ndC y4 s4)),(b92,.row (ndC y3 s3)),(b79,.row (ndC y2 s2)),(b60,.row (ndC y1 s1)),(b19,.row (mC m e sv)),(b17,.row (ndC n s0))] := ⟨_,rfl⟩
 have st132 : Ow TA [] w w132 LL := by rw [hL]; exact st132
 have x132 : Xt [b115,b104,b92,b79,b60,b19,b17] w118 (ids LL) w132 := by rw [hL]; exact Xt.trans x130 x132
 have ny5 := ny5.x x132
 have ny4 := ny4.x x132
 have ny3 := ny3.x x132
 have ny2 := ny2.x x132
 have ny1 := ny1.x x132
 clear x18 x20 x35 x42 x61 x63 x65 x70 x73 x75 x80 x82 x85 x87 x93 x95 x98 x100 x105 x107 x110 x112 x116 x118 x130 st18 st20 st35 st42 st61 st63 st65 st70 st73 st75 st80 st82 st85 st87 st93 st95 st98 st100 st105 st107 st110 st112 st116 st118 st130 hr65 hr75 hr87 hr100 hr112
 have i0 : nth LL 0 = some (b131,.row [.int .i64 e1,.int .i64 0,.int .i64 e3,.int .i64 e4,.int .i64 e5]) := by rw [hL]; rfl
 have i1 : nth LL 1 = some (b129,.row (ndC y1 s1 ++ (ndC y2 s2 ++ (ndC y3 s3 ++ (ndC y4 s4 ++ ndC y5 s5))))) := by rw [hL]; rfl
 have i8 : nth LL 8 = some (b17,.row (ndC n s0)) := by rw [hL]; rfl
 clear hL
 refine loopP_ind (fun mm lv w' => ∃ k : Nat,k ≤ 5 ∧ mm = 5 - k ∧ lv = [.int .i64 k] ∧ Ow TA [] w w' LL ∧ Xt (ids LL) w132 (ids LL) w') ?_ ⟨0,by omega,rfl,rfl,st132,Xt.refl⟩
 rintro mm lv w135 ⟨k,hk5,rfl,rfl,st135,x135⟩ R ih
 refine ⟨_,rfl,fun _ => ifT_d (fun hc => ?_) fun hc => ifT_t (Cl_hook (hh.awake _) ⟨_,rfl,rfl⟩)⟩
 have hk5 : k < 5 := by omega
 have go : R [.int .i64 (wi ((k : Int) + 1))] = R [.int .i64 ((k + 1 : Nat) : Int)] := by rw [wi_eq (by omega) (by omega)]; rfl
 have next : ∀ {w9 : AW},Ow TA [] w w9 LL → Xt (ids LL) w135 (ids LL) w9 → R [.int .i64 (wi ((k : Int) + 1))] w9 := fun st9 x9 => ih (5 - (k + 1)) (by omega) _ _ ⟨k + 1,hk5,rfl,by rw [wi_eq (by omega) (by omega)]; rfl,st9,x135.trans x9⟩
 clear ih go
 have one : ∀ (y : Nd) (s' : Sl) (e' : Int),NR (fz TA (ids LL)) w132 y s' → Uq n y e' → ldN 19 w135 b129 (k * 19) = some (.agg (ndC y s')) → ([AV.int .i64 e1,.int .i64 0,.int .i64 e3,.int .i64 e4,.int .i64 e5])[0 + k * 1]? = some (.int .i64 e') →
   onM (ldN 19 w135 b129 (k * 19)) fun x_139 => new w135 (ndC zNd zSl) fun b_140 w_141 => onA x_139 fun cs_142 => gd (List.all cs_142 okCell) (gd (Nat.beq cs_142.length 19) (onM (AW.putCells w_141 b_140 0 cs_142) fun w_143 =>
   atP (idxS 1 (.slice b131 0 5 5 none) (.int .i64 (k : Int))) fun b_144 o_145 => ∃ x_146 : Int,ld w_143 b_144 o_145 = some (.int .i64 x_146) ∧
   ifT (!decide (x_146 = 0)) (R [(.int .i64 (wi ((k : Int) + 1)))] w_143) (onM (ldN 19 w_143 b_140 0) fun x_147 => Cl Tryz.prog hk 8 [x_147] w_143 fun r_148 w_149 => ∃ x_150 : Bool,r_148 = (.bool x_150) ∧
   gd (!(!x_150)) (∃ x_151 : Int,ld w_149 b_140 (0 + 3) = some (.int .i64 x_151) ∧ ∃ x_152 : Int,ld w_149 b17 (0 + 3) = some (.int .i64 x_152) ∧ gd (!(decide (x_151 < x_152))) (
   ∃ x_153 : Int,ld w_149 b_140 (0 + 10) = some (.int .i64 x_153) ∧ ∃ x_154 : Int,ld w_149 b17 (0 + 10) = some (.int .i64 x_154) ∧ gd (!(decide (x_153 < x_154))) (
   ∃ x_155 : Int,ld w_149 b_140 (0 + 6) = some (.int .i64 x_155) ∧ ∃ x_156 : Int,ld w_149 b17 (0 + 6) = some (.int .i64 x_156) ∧ gd (!(decide (x_155 < x_156))) (
   ∃ x_157 : Int,ld w_149 b_140 (0 + 3) = some (.int .i64 x_157) ∧ ∃ x_158 : Int,ld w_149 b17 (0 + 3) = some (.int .i64 x_158) ∧
   ifT (decide (x_157 = x_158)) (∃ x_159 : Int,ld w_149 b17 (0 + 4) = some (.int .i64 x_159) ∧ ifT (!decide (x_159 = 0)) (∃ x_160 : Int,ld w_149 b_140 (0 + 4) = some (.int .i64 x_160) ∧ ∃ x_161 : Int,ld w_149 b17 (0 + 4) = some (.int .i64 x_161) ∧
   ifT (!decide (x_160 = x_161)) (RT3 (.bool false) w_149) (R [(.int .i64 (wi ((k : Int) + 1)))] w_149)) (R [(.int .i64 (wi ((k : Int) + 1)))] w_149)) (R [(.int .i64 (wi ((k : Int) + 1)))] w_149)))))))) := fun y s' e' ny uq h1 h2 => by
  refine onM_s h1 (st135.new' fun b140 w141 st141 x141 => gd_t ny.ok (gd_t rfl (st141.put 0 rfl (Nat.le_of_ble_eq_true rfl) fun w143 st143 x143 => idxk hk5 ?_)))
  have st143 : Ow TA [] w w143 ((b140,.row (ndC y s')) :: LL) := st143
  have ny143 := (ny.x x135).x (x141.trans x143)
  have j0 : nth ((b140,Ob.row (ndC y s')) :: LL) 1 = some (b131,.row [.int .i64 e1,.int .i64 0,.int .i64 e3,.int .i64 e4,.int .i64 e5]) := i0
  have j8 : nth ((b140,Ob.row (ndC y s')) :: LL) 9 = some (b17,.row (ndC n s0)) := i8
  obtain ⟨st144,x144,_⟩ := st143.drop
  refine ⟨e',st143.ld 1 j0 (by rw [Nat.zero_add] at h2; exact h2),ifT_nd (fun _ => next st144 ((x141.trans x143).trans x144)) fun h0 => ?_⟩
  obtain ⟨up,ul⟩ := uq h0
  refine onM_s (st143.ldN 0 rfl rfl rfl) (s8 hh st143.mem st143.P0.pos ny143 (up.right.sm (by omega)) fun c w149 f149 hc => ⟨_,rfl,?_⟩)
  obtain ⟨st149,x149⟩ := st143.call f149
  obtain ⟨st150,x150,_⟩ := st149.drop
  have x09 := ((x141.trans x143).trans x149).trans x150
  rw [hc.2 up.right]
  have q1 := up.term
  have q2 := up.commit
  have q3 := up.base
  refine gd_t rfl ⟨y.term,st149.ld 0 rfl rfl,n.term,st149.ld 9 j8 rfl,gd_t (by rw [decide_eq_false (by omega)]; rfl) ⟨y.commit,st149.ld 0 rfl rfl,n.commit,st149.ld 9 j8 rfl,gd_t (by rw [decide_eq_false (by omega)]; rfl) ⟨y.base,st149.ld 0 rfl rfl,n.base,st149.ld 9 j8 rfl,gd_t (by rw [decide_eq_false (by omega)]; rfl) ⟨y.term,st149.ld 0 rfl rfl,n.term,st149.ld 9 j8 rfl,ifT_d (fun ht => ⟨n.vote,st149.ld 9 j8 rfl,ifT_nd (fun hv => ⟨y.vote,st149.ld 0 rfl rfl,n.vote,st149.ld 9 j8 rfl,ifT_nd (fun hne => absurd (up.vote ht hv) hne) fun _ => next st150 x09⟩) fun _ => next st150 x09⟩) fun _ => next st150 x09⟩⟩⟩⟩
 refine idxk hk5 ?_
 match k,hk5 with
 | 0,_ => exact one y1 s1 e1 ny1 u1 (st135.ldN 1 i1 rfl rfl) rfl
 | 1,_ => exact one y2 s2 0 ny2 u2 (st135.ldN 1 i1 rfl rfl) rfl
 | 2,_ => exact one y3 s3 e3 ny3 u3 (st135.ldN 1 i1 rfl rfl) rfl
 | 3,_ => exact one y4 s4 e4 ny4 u4 (st135.ldN 1 i1 rfl rfl) rfl
 | 4,_ => exact one y5 s5 e5 ny5 u5 (st135.ldN 1 i1 rfl rfl) rfl
end
end Go.Proofs.YtghoifolghelnaaGreat
/-
 The chapter's first example comes out as written,by evaluation; numbers are sorted in their place.
 No condition beyond those that each theorem names.
-/
set_option linter.unusedSimpArgs false
set_option linter.unusedSimpArgs false
set_option linter.unusedVariables false
namespace Go.Proofs
open Go.RowKit Go.Maps Go.Sort Go.Shelf
shelf_lay_g SlLaysM.n5 Slgm 5 at Tryz 122 as Tryz.sorthk0
theorem Tryz.sortPhk0 : Go.Sx.SortP Tryz.prog 122 :=
 ⟨fun blk off cap ss W h1 h2 h3 => AnyM.slices_Sort_int Tryz.sorthk0 blk off cap ss W h1 h2 h3,fun p cap W => AnyM.slices_Sort_int_none Tryz.sorthk0 p cap W⟩
end Go.Proofs
namespace Go.Proofs.YtghoifolghelnaaGreat.raftRight
open Go.Sx
noncomputable def hooks0 : List HR := []
theorem hooks0_ok : ∀ h ∈ hooks0,HRok Tryz.prog h := by
 intro h hh
 cases hh
set_option maxRecDepth 100000 in
theorem apart9 : kN Tryz.prog (hookOf hooks0) 100000 (.call 9 [] ⟨1,.nil⟩) (says (.bool true)) = true := by kernel_rfl
end Go.Proofs.YtghoifolghelnaaGreat.raftRight
