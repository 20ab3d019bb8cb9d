/-
 What the functions of this chapter do.
 No condition beyond those that each theorem names.
-/
import Derived.Test.YtbjeebgdjlemjaaMa
import Derived.Test.YtbjeebgdjlemjaaSxn
import Derived.Test.YtbjeebgdjlemjaaProg
import Derived.KernelRfl
set_option linter.unusedSimpArgs false
open Go.Sx
set_option linter.unusedVariables false
namespace Go.Proofs.Ytbjeebgdjlemjaa
def z64 : List AV := List.replicate 64 (.int .u8 0)
def stepC (what file n : AV) (data : List AV) (name to : AV) : List AV := what :: file :: n :: (data ++ [name,to])
def F8 (hk : Hook) (script_0 : AV) (w : AW) (K : AV → AW → Prop) : Prop :=
 Cl Try.prog hk 10 [] w fun r_1 w_2 =>
 Cl Try.prog hk 10 [] w_2 fun r_3 w_4 =>
 gd (okCell r_1) (
 gd (okCell r_3) (
 new w_4 [.nilptr,.nilptr] fun b_5 w_6 =>
 gd (List.all [r_1,r_3] okCell) (
 onM (AW.putCells w_6 b_5 0 [r_1,r_3]) fun w_7 =>
 Cl Try.prog hk 35 [] w_7 fun r_8 w_9 =>
 ∃ x_10 : AV,∃ x_11 : AV,∃ x_12 : AV,∃ x_13 : Int,∃ x_14 : Bool,∃ x_15 : Int,∃ x_16 : Int,∃ x_17 : Int,r_8 = (.agg [x_10,x_11,x_12,(.int .i64 x_13),(.bool x_14),(.int .i64 x_15),(.int .i64 x_16),(.int .i64 x_17)]) ∧
 Cl Try.prog hk 35 [] w_9 fun r_18 w_19 =>
 ∃ x_20 : AV,∃ x_21 : AV,∃ x_22 : AV,∃ x_23 : Int,∃ x_24 : Bool,∃ x_25 : Int,∃ x_26 : Int,∃ x_27 : Int,r_18 = (.agg [x_20,x_21,x_22,(.int .i64 x_23),(.bool x_24),(.int .i64 x_25),(.int .i64 x_26),(.int .i64 x_27)]) ∧
 new w_19 [.nilslice,.nilslice,.nilslice,(.int .i64 0),(.bool false),(.int .i64 0),(.int .i64 0),(.int .i64 0),.nilslice,.nilslice,.nilslice,(.int .i64 0),(.bool false),(.int .i64 0),(.int .i64 0),(.int .i64 0)] fun b_28 w_29 =>
 gd (List.all [x_10,x_11,x_12,(.int .i64 x_13),(.bool x_14),(.int .i64 x_15),(.int .i64 x_16),(.int .i64 x_17),x_20,x_21,x_22,(.int .i64 x_23),(.bool x_24),(.int .i64 x_25),(.int .i64 x_26),(.int .i64 x_27)] okCell) (
 onM (AW.putCells w_29 b_28 0 [x_10,x_11,x_12,(.int .i64 x_13),(.bool x_14),(.int .i64 x_15),(.int .i64 x_16),(.int .i64 x_17),x_20,x_21,x_22,(.int .i64 x_23),(.bool x_24),(.int .i64 x_25),(.int .i64 x_26),(.int .i64 x_27)]) fun w_30 =>
 join (fun l_31 w_32 => l_31 = [] ∧ ∀ _ : Nat → AV,
  loopP [(.int .i64 0)] w_32 fun R_34 l_35 w_36 => ∃ k_37 : Int,l_35 = [(.int .i64 k_37)] ∧ ∀ _ : Nat → AV,
  ifT (decide (k_37 < 2)) (atP (idxP 2 1 (.ptr b_5 0) (.int .i64 k_37)) fun b_38 o_39 =>
  onM (ld w_36 b_38 o_39) fun x_40 =>
  Cl Try.prog hk 22 [x_40] w_36 fun r_41 w_42 =>
  atP (idxP 2 1 (.ptr b_5 0) (.int .i64 k_37)) fun b_43 o_44 =>
  onM (ld w_42 b_43 o_44) fun x_45 =>
  atP (idxP 2 8 (.ptr b_28 0) (.int .i64 k_37)) fun b_46 o_47 =>
  ∃ x_48 : AV,∃ x_49 : AV,∃ x_50 : AV,∃ x_51 : Int,∃ x_52 : Bool,∃ x_53 : Int,∃ x_54 : Int,∃ x_55 : Int,ldN 8 w_42 b_46 o_47 = some (.agg [x_48,x_49,x_50,(.int .i64 x_51),(.bool x_52),(.int .i64 x_53),(.int .i64 x_54),(.int .i64 x_55)]) ∧
  Cl Try.prog hk 37 [x_45,(.agg [x_48,x_49,x_50,(.int .i64 x_51),(.bool x_52),(.int .i64 x_53),(.int .i64 x_54),(.int .i64 x_55)])] w_42 fun r_56 w_57 =>
  ∃ x_58 : Bool,r_56 = (.bool x_58) ∧
  ifT (!x_58) (K (.bool false) w_57)
  (Cl Try.prog hk 17 [r_41,.nilslice] w_57 fun r_59 w_60 =>
  ∃ x_61 : Int,r_59 = (.int .i64 x_61) ∧
  ifT (!decide (x_61 = 0)) (K (.bool false) w_60)
  (atP (idxP 2 8 (.ptr b_28 0) (.int .i64 k_37)) fun b_62 o_63 =>
  ∃ x_64 : AV,∃ x_65 : AV,∃ x_66 : AV,∃ x_67 : Int,∃ x_68 : Bool,∃ x_69 : Int,∃ x_70 : Int,∃ x_71 : Int,ldN 8 w_60 b_62 o_63 = some (.agg [x_64,x_65,x_66,(.int .i64 x_67),(.bool x_68),(.int .i64 x_69),(.int .i64 x_70),(.int .i64 x_71)]) ∧
  Cl Try.prog hk 38 [(.agg [x_64,x_65,x_66,(.int .i64 x_67),(.bool x_68),(.int .i64 x_69),(.int .i64 x_70),(.int .i64 x_71)]),.nilslice] w_60 fun r_72 w_73 =>
  ∃ x_74 : AV,∃ x_75 : AV,∃ x_76 : AV,∃ x_77 : Int,∃ x_78 : Bool,∃ x_79 : Int,∃ x_80 : Int,∃ x_81 : Int,r_72 = (.agg [x_74,x_75,x_76,(.int .i64 x_77),(.bool x_78),(.int .i64 x_79),(.int .i64 x_80),(.int .i64 x_81)]) ∧
  Cl Try.prog hk 37 [r_41,(.agg [x_74,x_75,x_76,(.int .i64 x_77),(.bool x_78),(.int .i64 x_79),(.int .i64 x_80),(.int .i64 x_81)])] w_73 fun r_82 w_83 =>
  ∃ x_84 : Bool,r_82 = (.bool x_84) ∧
  ifT (!x_84) (K (.bool false) w_83)
  (atP (idxP 2 1 (.ptr b_5 0) (.int .i64 k_37)) fun b_85 o_86 =>
  onM (ld w_83 b_85 o_86) fun x_87 =>
  atP (idxP 2 8 (.ptr b_28 0) (.int .i64 k_37)) fun b_88 o_89 =>
  ∃ x_90 : AV,∃ x_91 : AV,∃ x_92 : AV,∃ x_93 : Int,∃ x_94 : Bool,∃ x_95 : Int,∃ x_96 : Int,∃ x_97 : Int,ldN 8 w_83 b_88 o_89 = some (.agg [x_90,x_91,x_92,(.int .i64 x_93),(.bool x_94),(.int .i64 x_95),(.int .i64 x_96),(.int .i64 x_97)]) ∧
  Cl Try.prog hk 37 [x_87,(.agg [x_90,x_91,x_92,(.int .i64 x_93),(.bool x_94),(.int .i64 x_95),(.int .i64 x_96),(.int .i64 x_97)])] w_83 fun r_98 w_99 =>
  ∃ x_100 : Bool,r_98 = (.bool x_100) ∧
  ifT (!x_100) (K (.bool false) w_99)
  (R_34 [(.int .i64 (wi (k_37 + 1)))] w_99)))))
  (Cl Try.prog hk 14 [] w_36 fun r_101 w_102 =>
  ∃ x_103 : Bool,r_101 = (.bool x_103) ∧
  K (.bool x_103) w_102)) fun J_33 =>
 loopP [(.int .i64 0)] w_30 fun R_104 l_105 w_106 => ∃ i_107 : Int,l_105 = [(.int .i64 i_107)] ∧ ∀ _ : Nat → AV,
  ∃ x_108 : Int,lenS script_0 = some (.int .i64 x_108) ∧
  ifT (decide (i_107 < x_108)) (ifT (decide (i_107 < 60)) (atP (idxS 9 script_0 (.int .i64 i_107)) fun b_109 o_110 =>
  ∃ x_111 : Int,∃ x_112 : Int,∃ x_113 : List UInt8,∃ x_114 : List UInt8,∃ x_115 : Int,∃ x_116 : Int,∃ x_117 : Int,∃ x_118 : Int,∃ x_119 : AV,ldN 9 w_106 b_109 o_110 = some (.agg [(.int .i64 x_111),(.int .i64 x_112),(.str x_113),(.str x_114),(.int .i64 x_115),(.int .i64 x_116),(.int .u8 x_117),(.int .i64 x_118),x_119]) ∧
  new w_106 [(.int .i64 0),(.int .i64 0),(.str []),(.str []),(.int .i64 0),(.int .i64 0),(.int .u8 0),(.int .i64 0),.nilslice] fun b_120 w_121 =>
  gd (List.all [(.int .i64 x_111),(.int .i64 x_112),(.str x_113),(.str x_114),(.int .i64 x_115),(.int .i64 x_116),(.int .u8 x_117),(.int .i64 x_118),x_119] okCell) (
  onM (AW.putCells w_121 b_120 0 [(.int .i64 x_111),(.int .i64 x_112),(.str x_113),(.str x_114),(.int .i64 x_115),(.int .i64 x_116),(.int .u8 x_117),(.int .i64 x_118),x_119]) fun w_122 =>
  ∃ x_123 : Int,ld w_122 b_120 (0 + 1) = some (.int .i64 x_123) ∧
  ∃ x_124 : Int,ld w_122 b_120 (0 + 0) = some (.int .i64 x_124) ∧
  ifT (decide (x_124 = 11)) (atP (idxP 2 1 (.ptr b_5 0) (.int .i64 (bAnd .i64 x_123 1))) fun b_125 o_126 =>
  onM (ld w_122 b_125 o_126) fun x_127 =>
  atP (idxP 2 8 (.ptr b_28 0) (.int .i64 (bAnd .i64 x_123 1))) fun b_128 o_129 =>
  ∃ x_130 : AV,∃ x_131 : AV,∃ x_132 : AV,∃ x_133 : Int,∃ x_134 : Bool,∃ x_135 : Int,∃ x_136 : Int,∃ x_137 : Int,ldN 8 w_122 b_128 o_129 = some (.agg [x_130,x_131,x_132,(.int .i64 x_133),(.bool x_134),(.int .i64 x_135),(.int .i64 x_136),(.int .i64 x_137)]) ∧
  Cl Try.prog hk 22 [x_127] w_122 fun r_138 w_139 =>
  ldN 8 w_139 b_128 o_129 = some (.agg [x_130,x_131,x_132,(.int .i64 x_133),(.bool x_134),(.int .i64 x_135),(.int .i64 x_136),(.int .i64 x_137)]) ∧
  atP (idxP 2 1 (.ptr b_5 0) (.int .i64 (wi (1 - (bAnd .i64 x_123 1))))) fun b_140 o_141 =>
  gd (okCell r_138) (
  onM (AW.putCells w_139 b_140 o_141 [r_138]) fun w_142 =>
  ldN 8 w_142 b_128 o_129 = some (.agg [x_130,x_131,x_132,(.int .i64 x_133),(.bool x_134),(.int .i64 x_135),(.int .i64 x_136),(.int .i64 x_137)]) ∧
  atP (idxP 2 8 (.ptr b_28 0) (.int .i64 (wi (1 - (bAnd .i64 x_123 1))))) fun b_143 o_144 =>
  gd (List.all [x_130,x_131,x_132,(.int .i64 x_133),(.bool x_134),(.int .i64 x_135),(.int .i64 x_136),(.int .i64 x_137)] okCell) (
  onM (AW.putCells w_142 b_143 o_144 [x_130,x_131,x_132,(.int .i64 x_133),(.bool x_134),(.int .i64 x_135),(.int .i64 x_136),(.int .i64 x_137)]) fun w_145 =>
  R_104 [(.int .i64 (wi (i_107 + 1)))] w_145)))
  (atP (idxP 2 1 (.ptr b_5 0) (.int .i64 (bAnd .i64 x_123 1))) fun b_146 o_147 =>
  onM (ld w_122 b_146 o_147) fun x_148 =>
  atP (idxP 2 8 (.ptr b_28 0) (.int .i64 (bAnd .i64 x_123 1))) fun b_149 o_150 =>
  ∃ x_151 : AV,∃ x_152 : AV,∃ x_153 : AV,∃ x_154 : Int,∃ x_155 : Bool,∃ x_156 : Int,∃ x_157 : Int,∃ x_158 : Int,ldN 8 w_122 b_149 o_150 = some (.agg [x_151,x_152,x_153,(.int .i64 x_154),(.bool x_155),(.int .i64 x_156),(.int .i64 x_157),(.int .i64 x_158)]) ∧
  ∃ x_159 : Int,∃ x_160 : Int,∃ x_161 : List UInt8,∃ x_162 : List UInt8,∃ x_163 : Int,∃ x_164 : Int,∃ x_165 : Int,∃ x_166 : Int,∃ x_167 : AV,ldN 9 w_122 b_120 0 = some (.agg [(.int .i64 x_159),(.int .i64 x_160),(.str x_161),(.str x_162),(.int .i64 x_163),(.int .i64 x_164),(.int .u8 x_165),(.int .i64 x_166),x_167]) ∧
  Cl Try.prog hk 36 [x_148,(.agg [x_151,x_152,x_153,(.int .i64 x_154),(.bool x_155),(.int .i64 x_156),(.int .i64 x_157),(.int .i64 x_158)]),(.agg [(.int .i64 x_159),(.int .i64 x_160),(.str x_161),(.str x_162),(.int .i64 x_163),(.int .i64 x_164),(.int .u8 x_165),(.int .i64 x_166),x_167])] w_122 fun r_168 w_169 =>
  ∃ x_170 : AV,∃ x_171 : AV,∃ x_172 : AV,∃ x_173 : Int,∃ x_174 : Bool,∃ x_175 : Int,∃ x_176 : Int,∃ x_177 : Int,∃ x_178 : Bool,r_168 = .tup [(.agg [x_170,x_171,x_172,(.int .i64 x_173),(.bool x_174),(.int .i64 x_175),(.int .i64 x_176),(.int .i64 x_177)]),(.bool x_178)] ∧
  atP (idxP 2 8 (.ptr b_28 0) (.int .i64 (bAnd .i64 x_123 1))) fun b_179 o_180 =>
  gd (List.all [x_170,x_171,x_172,(.int .i64 x_173),(.bool x_174),(.int .i64 x_175),(.int .i64 x_176),(.int .i64 x_177)] okCell) (
  onM (AW.putCells w_169 b_179 o_180 [x_170,x_171,x_172,(.int .i64 x_173),(.bool x_174),(.int .i64 x_175),(.int .i64 x_176),(.int .i64 x_177)]) fun w_181 =>
  ifT (!x_178) (K (.bool false) w_181)
  (atP (idxP 2 1 (.ptr b_5 0) (.int .i64 (bAnd .i64 x_123 1))) fun b_182 o_183 =>
  onM (ld w_181 b_182 o_183) fun x_184 =>
  atP (idxP 2 8 (.ptr b_28 0) (.int .i64 (bAnd .i64 x_123 1))) fun b_185 o_186 =>
  onM (ld w_181 b_185 (o_186 + 2)) fun x_187 =>
  ∃ x_188 : Int,lenS x_187 = some (.int .i64 x_188) ∧
  Cl Try.prog hk 28 [x_184] w_181 fun r_189 w_190 =>
  ∃ x_191 : Int,r_189 = (.int .i64 x_191) ∧
  ld w_190 b_185 (o_186 + 2) = some x_187 ∧
  ifT (!decide (x_191 = x_188)) (K (.bool false) w_190)
  (R_104 [(.int .i64 (wi (i_107 + 1)))] w_190))))))
  (J_33 [] w_106))
  (J_33 [] w_106)))))
def adv8 : Adv := (.sq .lf (.sq .lf (.sq .lf (.sj [] (.sq .lf (.bl (.lp [(5,.sc (.int .i64))] (.sq (.sq .lf (.cd .lf .lf)) (.sq (.bl (.sq .lf (.sq .lf (.sq (.sq .lf (.cd (.sq .lf .lf) .lf)) (.sq .lf (.sq .lf (.sq .lf (.cd (.sq .lf .lf) .lf)))))))) .lf))))) (.sq (.sq .lf (.bl (.lp [(9,.sc (.int .i64))] (.sq (.sq .lf (.cd .lf .lf)) (.sq (.bl (.sq .lf (.sq .lf (.cd (.sq .lf .lf) .lf)))) .lf))))) (.sq .lf .lf))))))
set_option maxRecDepth 100000 in
theorem eq8 (hk : Hook) (script_0 : AV) (w : AW) (K : AV → AW → Prop) : fnS Try.prog hk Try.f8 adv8 [script_0] w K = F8 hk script_0 w K := by kernel_rfl
theorem in8 {hk : Hook} {script_0 : AV} {w : AW} {K : AV → AW → Prop} (hn : hk 8 [script_0] w = none) (h : F8 hk script_0 w K) : Cl Try.prog hk 8 [script_0] w K :=
 fnS_ok Try.func8 hn (by rw [eq8]; exact h)
def F10 (hk : Hook)  (w : AW) (K : AV → AW → Prop) : Prop :=
 Cl Try.prog hk 39 [] w fun r_0 w_1 =>
 ∃ x_2 : AV,∃ x_3 : AV,r_0 = (.agg [x_2,x_3]) ∧
 Cl Try.prog hk 39 [] w_1 fun r_4 w_5 =>
 ∃ x_6 : AV,∃ x_7 : AV,r_4 = (.agg [x_6,x_7]) ∧
 gd (List.all [(.bool true),x_2,x_3,x_6,x_7,.nilslice,(.int .i64 0),(.bool false),(.int .i64 0),(.int .i64 0),(.int .i64 0)] okCell) (
 new w_5 [(.bool true),x_2,x_3,x_6,x_7,.nilslice,(.int .i64 0),(.bool false),(.int .i64 0),(.int .i64 0),(.int .i64 0)] fun b_8 w_9 =>
 K (.ptr b_8 0) w_9)
def adv10 : Adv := (.sq .lf (.sq .lf .lf))
set_option maxRecDepth 100000 in
theorem eq10 (hk : Hook)  (w : AW) (K : AV → AW → Prop) : fnS Try.prog hk Try.f10 adv10 [] w K = F10 hk  w K := by kernel_rfl
theorem in10 {hk : Hook} {w : AW} {K : AV → AW → Prop} (hn : hk 10 [] w = none) (h : F10 hk  w K) : Cl Try.prog hk 10 [] w K :=
 fnS_ok Try.func10 hn (by rw [eq10]; exact h)
def F11 (hk : Hook) (d_0 : AV) (name_1 : List UInt8) (at_2 : Int) (data_3 : AV) (w : AW) (K : AV → AW → Prop) : Prop :=
 Cl Try.prog hk 40 [d_0,(.str name_1)] w fun r_4 w_5 =>
 ∃ x_6 : Int,∃ x_7 : Int,r_4 = .tup [(.int .i64 x_6),(.int .i64 x_7)] ∧
 join (fun l_8 w_9 => l_8 = [] ∧ ∀ _ : Nat → AV,
  atP (s2p 64 data_3) fun b_11 o_12 =>
  onM (ldN 64 w_9 b_11 o_12) fun x_13 =>
  onA x_13 fun cs_14 =>
  gd (Nat.beq cs_14.length 64 && Nat.ble 67 69) (
  new w_9 (stepC (.int .i64 0) (.int .i64 0) (.int .i64 0) z64 (.str []) (.str [])) fun b_15 w_16 =>
  gd (List.all (listPut (stepC (.int .i64 1) (.int .i64 x_6) (.int .i64 at_2) z64 (.str []) (.str [])) 3 cs_14) okCell) (
  gd (Nat.beq (listPut (stepC (.int .i64 1) (.int .i64 x_6) (.int .i64 at_2) z64 (.str []) (.str [])) 3 cs_14).length 69) (onM (AW.putCells w_16 b_15 0 (listPut (stepC (.int .i64 1) (.int .i64 x_6) (.int .i64 at_2) z64 (.str []) (.str [])) 3 cs_14)) fun w_17 =>
  ifT (decide (x_7 = 0)) (onM (ldN 69 w_17 b_15 0) fun x_18 =>
  onA x_18 fun cs_19 => gd (List.all cs_19 okCell) (
  gd (Nat.beq cs_19.length 69 && Nat.ble 69 69) (
  new w_17 (listPut (stepC (.int .i64 0) (.int .i64 0) (.int .i64 0) z64 (.str []) (.str [])) 0 cs_19) fun b_20 w_21 =>
  Cl Try.prog hk 42 [d_0,(.slice b_20 0 1 1 none)] w_21 fun r_22 w_23 =>
  ∃ x_24 : Int,r_22 = (.int .i64 x_24) ∧
  K (.int .i64 x_24) w_23)))
  (onP d_0 fun b_25 o_26 =>
  ∃ x_27 : Int,ld w_17 b_25 (o_26 + 6) = some (.int .i64 x_27) ∧
  onM (AW.putCells w_17 b_15 (0 + 1) [(.int .i64 (wi (x_27 + 1)))]) fun w_28 =>
  ∃ x_29 : Int,ld w_28 b_15 (0 + 1) = some (.int .i64 x_29) ∧
  onM (ldN 69 w_28 b_15 0) fun x_30 =>
  onA x_30 fun cs_31 => gd (List.all cs_31 okCell) (
  gd (Nat.beq cs_31.length 69 && Nat.ble 138 138) (
  new w_28 (listPut ((stepC (.int .i64 0) (.int .i64 x_29) (.int .i64 0) z64 (.str name_1) (.str [])) ++ (stepC (.int .i64 0) (.int .i64 0) (.int .i64 0) z64 (.str []) (.str []))) 69 cs_31) fun b_32 w_33 =>
  Cl Try.prog hk 42 [d_0,(.slice b_32 0 2 2 none)] w_33 fun r_34 w_35 =>
  ∃ e_36 : Int,r_34 = (.int .i64 e_36) ∧
  ifT (!decide (e_36 = 0)) (K (.int .i64 e_36) w_35)
  (onP d_0 fun b_37 o_38 =>
  ∃ x_39 : Int,ld w_35 b_37 (o_38 + 6) = some (.int .i64 x_39) ∧
  onP d_0 fun b_40 o_41 =>
  onM (AW.putCells w_35 b_40 (o_41 + 6) [(.int .i64 (wi (x_39 + 1)))]) fun w_42 =>
  K (.int .i64 0) w_42)))))))) fun J_10 =>
 ifT (decide (x_7 = 1)) (K (.int .i64 x_7) w_5)
 (join (fun l_43 w_44 => ∃ x_46 : Bool,l_43 = [(.bool x_46)] ∧ ∀ _ : Nat → AV,
  ifT x_46 (K (.int .i64 2) w_44)
  (ifT (decide (at_2 = 4096)) (K (.int .i64 5) w_44)
   (ifT (decide (x_7 = 70)) (onP d_0 fun b_47 o_48 =>
   onM (ld w_44 b_47 ((o_48 + 3) + 0)) fun x_49 =>
   ∃ x_50 : Int,lenM w_44 x_49 = some (.int .i64 x_50) ∧
   ifT (decide (256 ≤ x_50)) (K (.int .i64 5) w_44)
   (J_10 [] w_44))
   (J_10 [] w_44)))) fun J_45 =>
  Cl Try.prog hk 41 [(.str name_1)] w_5 fun r_51 w_52 =>
  ∃ x_53 : Bool,r_51 = (.bool x_53) ∧
  ifT (!x_53) (J_45 [(.bool true)] w_52)
  (∃ x_54 : Int,lenS data_3 = some (.int .i64 x_54) ∧
  ifT (!decide (x_54 = 64)) (J_45 [(.bool true)] w_52)
  (ifT (decide (at_2 < 0)) (J_45 [(.bool true)] w_52)
  (onP d_0 fun b_55 o_56 =>
  onM (ld w_52 b_55 ((o_56 + 3) + 1)) fun x_57 =>
  onM (lookS .nilslice false w_52 x_57 (.int .i64 x_6)) fun x_58 =>
  ∃ x_59 : Int,lenS x_58 = some (.int .i64 x_59) ∧
  ifT (decide (x_59 < at_2)) (J_45 [(.bool true)] w_52)
  (ifT (decide (x_7 = 70)) (J_45 [(.bool (decide (0 < at_2)))] w_52)
  (J_45 [(.bool false)] w_52))))))
def adv11 : Adv := (.sq .lf (.sq .lf (.sj [] (.bl (.sq .lf (.cd (.sq .lf .lf) (.sj [(23,.sc (.bool))] .lf (.cd (.sq .lf .lf) (.sq .lf (.cd (.sq .lf .lf) .lf))))))) (.sq .lf (.sq (.sq .lf (.cd (.sq .lf .lf) .lf)) (.sq .lf (.sq (.sq .lf (.sq .lf (.cd (.sq .lf .lf) .lf))) (.sq .lf (.sq .lf .lf)))))))))
set_option maxRecDepth 100000 in
theorem eq11 (hk : Hook) (d_0 : AV) (name_1 : List UInt8) (at_2 : Int) (data_3 : AV) (w : AW) (K : AV → AW → Prop) : fnS Try.prog hk Try.f11 adv11 [d_0,(.str name_1),(.int .i64 at_2),data_3] w K = F11 hk d_0 name_1 at_2 data_3 w K := by kernel_rfl
theorem in11 {hk : Hook} {d_0 : AV} {name_1 : List UInt8} {at_2 : Int} {data_3 : AV} {w : AW} {K : AV → AW → Prop} (hn : hk 11 [d_0,(.str name_1),(.int .i64 at_2),data_3] w = none) (h : F11 hk d_0 name_1 at_2 data_3 w K) : Cl Try.prog hk 11 [d_0,(.str name_1),(.int .i64 at_2),data_3] w K :=
 fnS_ok Try.func11 hn (by rw [eq11]; exact h)
def F12 (hk : Hook) (b_0 : Int) (more_1 : Int) (w : AW) (K : AV → AW → Prop) : Prop :=
 onM (asN (.int .i64 (imax (imin (wi (64 + more_1)) 200) 0))) fun n_2 =>
 onM (asN (.int .i64 (imax (imin (wi (64 + more_1)) 200) 0))) fun n_3 =>
 gd (Nat.ble n_2 n_3 && Nat.ble (n_3 * 1) (2 ^ 47) && Nat.blt n_3 (2 ^ 63) && true) (new w (repl n_3 [(.int .u8 0)]) fun b_4 w_5 =>
 loopP [(.int .i64 0)] w_5 fun R_6 l_7 w_8 => ∃ i_9 : Int,l_7 = [(.int .i64 i_9)] ∧ ∀ _ : Nat → AV,
  ∃ x_10 : Int,lenS (.slice b_4 0 n_2 n_3 none) = some (.int .i64 x_10) ∧
  ifT (decide (i_9 < x_10)) (atP (idxS 1 (.slice b_4 0 n_2 n_3 none) (.int .i64 i_9)) fun b_11 o_12 =>
  onM (AW.putCells w_8 b_11 o_12 [(.int .u8 b_0)]) fun w_13 =>
  R_6 [(.int .i64 (wi (i_9 + 1)))] w_13)
  (K (.slice b_4 0 n_2 n_3 none) w_8))
def adv12 : Adv := (.sq .lf (.sq .lf (.sq (.sq .lf (.bl (.lp [(6,.sc (.int .i64))] (.sq (.sq .lf (.cd .lf .lf)) (.sq (.bl .lf) .lf))))) (.sq .lf .lf))))
set_option maxRecDepth 100000 in
theorem eq12 (hk : Hook) (b_0 : Int) (more_1 : Int) (w : AW) (K : AV → AW → Prop) : fnS Try.prog hk Try.f12 adv12 [(.int .u8 b_0),(.int .i64 more_1)] w K = F12 hk b_0 more_1 w K := by kernel_rfl
theorem in12 {hk : Hook} {b_0 : Int} {more_1 : Int} {w : AW} {K : AV → AW → Prop} (hn : hk 12 [(.int .u8 b_0),(.int .i64 more_1)] w = none) (h : F12 hk b_0 more_1 w K) : Cl Try.prog hk 12 [(.int .u8 b_0),(.int .i64 more_1)] w K :=
 fnS_ok Try.func12 hn (by rw [eq12]; exact h)
def F13 (hk : Hook) (d_0 : AV) (name_1 : List UInt8) (w : AW) (K : AV → AW → Prop) : Prop :=
 Cl Try.prog hk 40 [d_0,(.str name_1)] w fun r_2 w_3 =>
 ∃ x_4 : Int,∃ x_5 : Int,r_2 = .tup [(.int .i64 x_4),(.int .i64 x_5)] ∧
 new w_3 [(.int .i64 0)] fun b_6 w_7 =>
 onM (AW.putCells w_7 b_6 0 [(.int .i64 x_4)]) fun w_8 =>
 ifT (!decide (x_5 = 0)) (K (.int .i64 x_5) w_8)
 (onP d_0 fun b_9 o_10 =>
 onM (ld w_8 b_9 (o_10 + 5)) fun x_11 =>
 Cl Try.prog hk 43 [x_11,(.func 44 [] [(.ptr b_6 0)])] w_8 fun r_12 w_13 =>
 ∃ x_14 : Int,r_12 = (.int .i64 x_14) ∧
 new w_13 [(.int .i64 0)] fun b_15 w_16 =>
 onM (AW.putCells w_16 b_15 0 [(.int .i64 x_14)]) fun w_17 =>
 Cl Try.prog hk 45 [d_0,(.func 46 [] [(.ptr b_6 0),(.ptr b_15 0)])] w_17 fun r_18 w_19 =>
 ∃ x_20 : Int,r_18 = (.int .i64 x_20) ∧
 K (.int .i64 x_20) w_19)
def adv13 : Adv := (.sq .lf (.sq .lf (.sq (.sq .lf (.cd (.sq .lf .lf) .lf)) (.sq .lf (.sq .lf .lf)))))
set_option maxRecDepth 100000 in
theorem eq13 (hk : Hook) (d_0 : AV) (name_1 : List UInt8) (w : AW) (K : AV → AW → Prop) : fnS Try.prog hk Try.f13 adv13 [d_0,(.str name_1)] w K = F13 hk d_0 name_1 w K := by kernel_rfl
theorem in13 {hk : Hook} {d_0 : AV} {name_1 : List UInt8} {w : AW} {K : AV → AW → Prop} (hn : hk 13 [d_0,(.str name_1)] w = none) (h : F13 hk d_0 name_1 w K) : Cl Try.prog hk 13 [d_0,(.str name_1)] w K :=
 fnS_ok Try.func13 hn (by rw [eq13]; exact h)
def F15 (hk : Hook) (d_0 : AV) (from_1 : List UInt8) (to_2 : List UInt8) (w : AW) (K : AV → AW → Prop) : Prop :=
 Cl Try.prog hk 40 [d_0,(.str from_1)] w fun r_3 w_4 =>
 ∃ x_5 : Int,∃ x_6 : Int,r_3 = .tup [(.int .i64 x_5),(.int .i64 x_6)] ∧
 ifT (decide (x_6 = 1)) (K (.int .i64 x_6) w_4)
 (Cl Try.prog hk 41 [(.str to_2)] w_4 fun r_7 w_8 =>
  ∃ x_9 : Bool,r_7 = (.bool x_9) ∧
  ifT (!x_9) (K (.int .i64 2) w_8)
  (ifT (!decide (x_6 = 0)) (K (.int .i64 x_6) w_8)
  (ifT (from_1 == to_2) (Cl Try.prog hk 42 [d_0,.nilslice] w_8 fun r_10 w_11 =>
   ∃ x_12 : Int,r_10 = (.int .i64 x_12) ∧
   K (.int .i64 x_12) w_11)
   (new w_8 (stepC (.int .i64 3) (.int .i64 x_5) (.int .i64 0) z64 (.str from_1) (.str to_2)) fun b_13 w_14 =>
 Cl Try.prog hk 42 [d_0,(.slice b_13 0 1 1 none)] w_14 fun r_15 w_16 =>
 ∃ x_17 : Int,r_15 = (.int .i64 x_17) ∧
 K (.int .i64 x_17) w_16))))
def adv15 : Adv := (.sq .lf (.sq .lf (.sq (.bl (.sq .lf (.cd (.sq .lf .lf) (.sq .lf (.cd (.sq .lf .lf) (.sq .lf (.cd (.sq .lf .lf) (.sq .lf (.cd (.sq .lf .lf) .lf))))))))) (.sq .lf .lf))))
set_option maxRecDepth 100000 in
theorem eq15 (hk : Hook) (d_0 : AV) (from_1 : List UInt8) (to_2 : List UInt8) (w : AW) (K : AV → AW → Prop) : fnS Try.prog hk Try.f15 adv15 [d_0,(.str from_1),(.str to_2)] w K = F15 hk d_0 from_1 to_2 w K := by kernel_rfl
theorem in15 {hk : Hook} {d_0 : AV} {from_1 : List UInt8} {to_2 : List UInt8} {w : AW} {K : AV → AW → Prop} (hn : hk 15 [d_0,(.str from_1),(.str to_2)] w = none) (h : F15 hk d_0 from_1 to_2 w K) : Cl Try.prog hk 15 [d_0,(.str from_1),(.str to_2)] w K :=
 fnS_ok Try.func15 hn (by rw [eq15]; exact h)
def F16 (hk : Hook) (d_0 : AV) (w : AW) (K : AV → AW → Prop) : Prop :=
 Cl Try.prog hk 47 [d_0] w fun r_1 w_2 =>
 ∃ x_3 : Bool,r_1 = (.bool x_3) ∧
 ifT x_3 (K (.int .i64 1) w_2)
 (Cl Try.prog hk 45 [d_0,(.func 48 [] [])] w_2 fun r_4 w_5 =>
 ∃ x_6 : Int,r_4 = (.int .i64 x_6) ∧
 K (.int .i64 x_6) w_5)
def adv16 : Adv := (.sq .lf (.sq (.sq .lf (.cd (.sq .lf .lf) .lf)) (.sq .lf .lf)))
set_option maxRecDepth 100000 in
theorem eq16 (hk : Hook) (d_0 : AV) (w : AW) (K : AV → AW → Prop) : fnS Try.prog hk Try.f16 adv16 [d_0] w K = F16 hk d_0 w K := by kernel_rfl
theorem in16 {hk : Hook} {d_0 : AV} {w : AW} {K : AV → AW → Prop} (hn : hk 16 [d_0] w = none) (h : F16 hk d_0 w K) : Cl Try.prog hk 16 [d_0] w K :=
 fnS_ok Try.func16 hn (by rw [eq16]; exact h)
def F17 (hk : Hook) (d_0 : AV) (keep_1 : AV) (w : AW) (K : AV → AW → Prop) : Prop :=
 Cl Try.prog hk 47 [d_0] w fun r_2 w_3 =>
 ∃ x_4 : Bool,r_2 = (.bool x_4) ∧
 ifT x_4 (K (.int .i64 1) w_3)
 (onP d_0 fun b_5 o_6 =>
 onM (ld w_3 b_5 (o_6 + 5)) fun x_7 =>
 ∃ x_8 : Int,lenS x_7 = some (.int .i64 x_8) ∧
 loopP [(.int .i64 0)] w_3 fun R_9 l_10 w_11 => ∃ x_12 : Int,l_10 = [(.int .i64 x_12)] ∧ ∀ _ : Nat → AV,
  ifT (decide (x_12 < x_8)) (atP (idxS 69 x_7 (.int .i64 x_12)) fun b_13 o_14 =>
  onM (ldN 69 w_11 b_13 o_14) fun x_15 =>
  new w_11 (stepC (.int .i64 0) (.int .i64 0) (.int .i64 0) z64 (.str []) (.str [])) fun b_16 w_17 =>
  onA x_15 fun cs_18 => gd (List.all cs_18 okCell) (
  gd (Nat.beq cs_18.length 69) (onM (AW.putCells w_17 b_16 0 cs_18) fun w_19 =>
  ∃ x_20 : Int,lenS keep_1 = some (.int .i64 x_20) ∧
  ifT (decide (x_12 < x_20)) (atP (idxS 1 keep_1 (.int .i64 x_12)) fun b_21 o_22 =>
  ∃ x_23 : Bool,ld w_19 b_21 o_22 = some (.bool x_23) ∧
  ifT x_23 (onP d_0 fun b_24 o_25 =>
  ∃ x_26 : AV,∃ x_27 : AV,ldN 2 w_19 b_24 (o_25 + 1) = some (.agg [x_26,x_27]) ∧
  onM (ldN 69 w_19 b_16 0) fun x_28 =>
  Cl Try.prog hk 49 [(.agg [x_26,x_27]),x_28] w_19 fun r_29 w_30 =>
  r_29 = .tup [] ∧
  R_9 [(.int .i64 (wi (x_12 + 1)))] w_30)
  (R_9 [(.int .i64 (wi (x_12 + 1)))] w_19))
  (R_9 [(.int .i64 (wi (x_12 + 1)))] w_19))))
  (newMap w_11 fun m_31 w_32 =>
 onP d_0 fun b_33 o_34 =>
 onM (ld w_32 b_33 ((o_34 + 1) + 0)) fun x_35 =>
 rangeK w_32 x_35 fun it_36 w_37 =>
 loopP [] w_37 fun R_38 l_39 w_40 => l_39 = [] ∧ ∀ _ : Nat → AV,
  join (fun l_41 w_42 => ∃ x_44 : Bool,l_41 = [(.bool x_44)] ∧ ∀ _ : Nat → AV,
  ifT x_44 (entryK w_42 it_36 fun k_45 v_46 =>
  onP d_0 fun b_47 o_48 =>
  onM (ld w_42 b_47 ((o_48 + 1) + 1)) fun x_49 =>
  onM (lookR (.int .i64) .nilslice false w_42 x_49 v_46) fun x_50 =>
  onE (kvSetR (.int .i64) w_42 (.map m_31) v_46 x_50) fun r_51 w_52 =>
  R_38 [] w_52)
  (onP d_0 fun b_53 o_54 =>
 onM (AW.putCells w_42 b_53 ((o_54 + 1) + 1) [(.map m_31)]) fun w_55 =>
 onP d_0 fun b_56 o_57 =>
 ∃ x_58 : AV,∃ x_59 : AV,ldN 2 w_55 b_56 (o_57 + 1) = some (.agg [x_58,x_59]) ∧
 Cl Try.prog hk 50 [(.agg [x_58,x_59])] w_55 fun r_60 w_61 =>
 ∃ x_62 : AV,∃ x_63 : AV,r_60 = (.agg [x_62,x_63]) ∧
 onP d_0 fun b_64 o_65 =>
 gd (List.all [x_62,x_63] okCell) (
 onM (AW.putCells w_61 b_64 (o_65 + 3) [x_62,x_63]) fun w_66 =>
 onP d_0 fun b_67 o_68 =>
 onM (AW.putCells w_66 b_67 (o_68 + 5) [.nilslice]) fun w_69 =>
 onP d_0 fun b_70 o_71 =>
 onM (AW.putCells w_69 b_70 (o_71 + 7) [(.bool false)]) fun w_72 =>
 onP d_0 fun b_73 o_74 =>
 Cl Try.prog hk 51 [(.ptr b_73 (o_74 + 8)),(.int .i64 0)] w_72 fun r_75 w_76 =>
 r_75 = .tup [] ∧
 onP d_0 fun b_77 o_78 =>
 Cl Try.prog hk 51 [(.ptr b_77 (o_78 + 9)),(.int .i64 0)] w_76 fun r_79 w_80 =>
 r_79 = .tup [] ∧
 K (.int .i64 0) w_80))) fun J_43 =>
  nextK w_40 it_36 (J_43 [(.bool false)] w_40)
  fun k_81 v_82 w_83 =>
  J_43 [(.bool true)] w_83))
def adv17 : Adv := (.sq .lf (.sq (.sq .lf (.cd (.sq .lf .lf) .lf)) (.sq (.sq .lf (.bl (.lp [(17,.sc (.int .i64))] (.sq .lf (.sq (.cd .lf .lf) (.sq (.bl (.sq .lf (.sq .lf (.cd .lf .lf)))) .lf)))))) (.sq .lf (.sq (.sq .lf (.bl (.lp [] (.sj [(47,.sc (.bool))] .lf (.sq (.cd .lf .lf) (.bl (.sq .lf .lf))))))) (.sq .lf (.sq .lf (.sq .lf (.sq .lf (.sq .lf .lf))))))))))
set_option maxRecDepth 100000 in
theorem eq17 (hk : Hook) (d_0 : AV) (keep_1 : AV) (w : AW) (K : AV → AW → Prop) : fnS Try.prog hk Try.f17 adv17 [d_0,keep_1] w K = F17 hk d_0 keep_1 w K := by kernel_rfl
theorem in17 {hk : Hook} {d_0 : AV} {keep_1 : AV} {w : AW} {K : AV → AW → Prop} (hn : hk 17 [d_0,keep_1] w = none) (h : F17 hk d_0 keep_1 w K) : Cl Try.prog hk 17 [d_0,keep_1] w K :=
 fnS_ok Try.func17 hn (by rw [eq17]; exact h)
def F18 (hk : Hook) (d_0 : AV) (name_1 : List UInt8) (w : AW) (K : AV → AW → Prop) : Prop :=
 Cl Try.prog hk 40 [d_0,(.str name_1)] w fun r_2 w_3 =>
 ∃ x_4 : Int,∃ x_5 : Int,r_2 = .tup [(.int .i64 x_4),(.int .i64 x_5)] ∧
 ifT (!decide (x_5 = 0)) (K (.tup [.nilslice,(.int .i64 x_5)]) w_3)
 (onP d_0 fun b_6 o_7 =>
  ∃ x_8 : Bool,ld w_3 b_6 (o_7 + 7) = some (.bool x_8) ∧
  ifT x_8 (K (.tup [.nilslice,(.int .i64 6)]) w_3)
  (onP d_0 fun b_9 o_10 =>
 onM (ld w_3 b_9 ((o_10 + 3) + 1)) fun x_11 =>
 onM (lookS .nilslice false w_3 x_11 (.int .i64 x_4)) fun x_12 =>
 ∃ x_13 : Int,lenS x_12 = some (.int .i64 x_13) ∧
 loopP [.nilslice,(.int .i64 0)] w_3 fun R_14 l_15 w_16 => ∃ out_17 : AV,∃ x_18 : Int,l_15 = [out_17,(.int .i64 x_18)] ∧ ∀ _ : Nat → AV,
  ifT (decide (x_18 < x_13)) (atP (idxS 64 x_12 (.int .i64 x_18)) fun b_19 o_20 =>
  onM (ldN 64 w_16 b_19 o_20) fun x_21 =>
  new w_16 z64 fun b_22 w_23 =>
  onA x_21 fun cs_24 => gd (List.all cs_24 okCell) (
  gd (Nat.beq cs_24.length 64) (onM (AW.putCells w_23 b_22 0 cs_24) fun w_25 =>
  onM (slP 64 1 b_22 0 none none none) fun x_26 =>
  onE (appS 1 1 w_25 out_17 x_26) fun out_27 w_28 =>
  R_14 [out_27,(.int .i64 (wi (x_18 + 1)))] w_28)))
  (K (.tup [out_17,(.int .i64 0)]) w_16)))
def adv18 : Adv := (.sq .lf (.sq .lf (.sq (.bl (.sq .lf (.cd (.sq .lf .lf) (.sq .lf (.cd (.sq .lf .lf) .lf))))) (.sq .lf (.sq (.sq .lf (.bl (.lp [(8,.sc (.opq)),(34,.sc (.int .i64))] (.sq .lf (.sq (.cd .lf .lf) (.sq (.bl (.sq .lf .lf)) .lf)))))) (.sq .lf .lf))))))
set_option maxRecDepth 100000 in
theorem eq18 (hk : Hook) (d_0 : AV) (name_1 : List UInt8) (w : AW) (K : AV → AW → Prop) : fnS Try.prog hk Try.f18 adv18 [d_0,(.str name_1)] w K = F18 hk d_0 name_1 w K := by kernel_rfl
theorem in18 {hk : Hook} {d_0 : AV} {name_1 : List UInt8} {w : AW} {K : AV → AW → Prop} (hn : hk 18 [d_0,(.str name_1)] w = none) (h : F18 hk d_0 name_1 w K) : Cl Try.prog hk 18 [d_0,(.str name_1)] w K :=
 fnS_ok Try.func18 hn (by rw [eq18]; exact h)
def F19 (hk : Hook) (a_0 : AV) (b_1 : AV) (w : AW) (K : AV → AW → Prop) : Prop :=
 ∃ x_2 : List UInt8,b2s w a_0 = some (.str x_2) ∧
 ∃ x_3 : List UInt8,b2s w b_1 = some (.str x_3) ∧
 K (.bool (x_2 == x_3)) w
def adv19 : Adv := (.sq .lf (.sq .lf .lf))
set_option maxRecDepth 100000 in
theorem eq19 (hk : Hook) (a_0 : AV) (b_1 : AV) (w : AW) (K : AV → AW → Prop) : fnS Try.prog hk Try.f19 adv19 [a_0,b_1] w K = F19 hk a_0 b_1 w K := by kernel_rfl
theorem in19 {hk : Hook} {a_0 : AV} {b_1 : AV} {w : AW} {K : AV → AW → Prop} (hn : hk 19 [a_0,b_1] w = none) (h : F19 hk a_0 b_1 w K) : Cl Try.prog hk 19 [a_0,b_1] w K :=
 fnS_ok Try.func19 hn (by rw [eq19]; exact h)
def F22 (hk : Hook) (d_0 : AV) (w : AW) (K : AV → AW → Prop) : Prop :=
 Cl Try.prog hk 47 [d_0] w fun r_1 w_2 =>
 ∃ x_3 : Bool,r_1 = (.bool x_3) ∧
 ifT x_3 (K .nilptr w_2)
 (onP d_0 fun b_4 o_5 =>
 ∃ x_6 : AV,∃ x_7 : AV,ldN 2 w_2 b_4 (o_5 + 1) = some (.agg [x_6,x_7]) ∧
 onP d_0 fun b_8 o_9 =>
 ∃ x_10 : AV,∃ x_11 : AV,ldN 2 w_2 b_8 (o_9 + 3) = some (.agg [x_10,x_11]) ∧
 onP d_0 fun b_12 o_13 =>
 onM (ld w_2 b_12 (o_13 + 5)) fun x_14 =>
 onP d_0 fun b_15 o_16 =>
 ∃ x_17 : Int,ld w_2 b_15 (o_16 + 6) = some (.int .i64 x_17) ∧
 onP d_0 fun b_18 o_19 =>
 ∃ x_20 : Bool,ld w_2 b_18 (o_19 + 7) = some (.bool x_20) ∧
 onP d_0 fun b_21 o_22 =>
 ∃ x_23 : Int,ld w_2 b_21 (o_22 + 10) = some (.int .i64 x_23) ∧
 Cl Try.prog hk 50 [(.agg [x_6,x_7])] w_2 fun r_24 w_25 =>
 ∃ x_26 : AV,∃ x_27 : AV,r_24 = (.agg [x_26,x_27]) ∧
 ld w_25 b_21 (o_22 + 10) = some (.int .i64 x_23) ∧
 ld w_25 b_18 (o_19 + 7) = some (.bool x_20) ∧
 ld w_25 b_15 (o_16 + 6) = some (.int .i64 x_17) ∧
 ld w_25 b_12 (o_13 + 5) = some x_14 ∧
 ldN 2 w_25 b_8 (o_9 + 3) = some (.agg [x_10,x_11]) ∧
 Cl Try.prog hk 50 [(.agg [x_10,x_11])] w_25 fun r_28 w_29 =>
 ∃ x_30 : AV,∃ x_31 : AV,r_28 = (.agg [x_30,x_31]) ∧
 ld w_29 b_21 (o_22 + 10) = some (.int .i64 x_23) ∧
 ld w_29 b_18 (o_19 + 7) = some (.bool x_20) ∧
 ld w_29 b_15 (o_16 + 6) = some (.int .i64 x_17) ∧
 ld w_29 b_12 (o_13 + 5) = some x_14 ∧
 Cl Try.prog hk 52 [x_14] w_29 fun r_32 w_33 =>
 gd (okCell r_32) (
 gd (List.all [(.bool true),x_26,x_27,x_30,x_31,r_32,(.int .i64 x_17),(.bool x_20),(.int .i64 0),(.int .i64 0),(.int .i64 x_23)] okCell) (
 new w_33 [(.bool true),x_26,x_27,x_30,x_31,r_32,(.int .i64 x_17),(.bool x_20),(.int .i64 0),(.int .i64 0),(.int .i64 x_23)] fun b_34 w_35 =>
 ld w_35 b_21 (o_22 + 10) = some (.int .i64 x_23) ∧
 ld w_35 b_18 (o_19 + 7) = some (.bool x_20) ∧
 ld w_35 b_15 (o_16 + 6) = some (.int .i64 x_17) ∧
 onP d_0 fun b_36 o_37 =>
 Cl Try.prog hk 53 [(.ptr b_36 (o_37 + 8))] w_35 fun r_38 w_39 =>
 ∃ x_40 : Int,r_38 = (.int .i64 x_40) ∧
 Cl Try.prog hk 51 [(.ptr b_34 (0 + 8)),(.int .i64 x_40)] w_39 fun r_41 w_42 =>
 r_41 = .tup [] ∧
 onP d_0 fun b_43 o_44 =>
 Cl Try.prog hk 53 [(.ptr b_43 (o_44 + 9))] w_42 fun r_45 w_46 =>
 ∃ x_47 : Int,r_45 = (.int .i64 x_47) ∧
 Cl Try.prog hk 51 [(.ptr b_34 (0 + 9)),(.int .i64 x_47)] w_46 fun r_48 w_49 =>
 r_48 = .tup [] ∧
 K (.ptr b_34 0) w_49)))
def adv22 : Adv := (.sq .lf (.sq (.sq .lf (.cd (.sq .lf .lf) .lf)) (.sq .lf (.sq .lf (.sq .lf (.sq .lf .lf))))))
set_option maxRecDepth 100000 in
theorem eq22 (hk : Hook) (d_0 : AV) (w : AW) (K : AV → AW → Prop) : fnS Try.prog hk Try.f22 adv22 [d_0] w K = F22 hk d_0 w K := by kernel_rfl
theorem in22 {hk : Hook} {d_0 : AV} {w : AW} {K : AV → AW → Prop} (hn : hk 22 [d_0] w = none) (h : F22 hk d_0 w K) : Cl Try.prog hk 22 [d_0] w K :=
 fnS_ok Try.func22 hn (by rw [eq22]; exact h)
def F24 (hk : Hook) (d_0 : AV) (w : AW) (K : AV → AW → Prop) : Prop :=
 Cl Try.prog hk 47 [d_0] w fun r_1 w_2 =>
 ∃ x_3 : Bool,r_1 = (.bool x_3) ∧
 ifT x_3 (K .nilslice w_2)
 (onP d_0 fun b_4 o_5 =>
 onM (ld w_2 b_4 ((o_5 + 3) + 0)) fun x_6 =>
 Cl Try.prog hk 56 [x_6] w_2 fun r_7 w_8 =>
 Cl Try.prog hk 55 [r_7] w_8 fun r_9 w_10 =>
 K r_9 w_10)
def adv24 : Adv := (.sq .lf (.sq (.sq .lf (.cd (.sq .lf .lf) .lf)) (.sq .lf .lf)))
set_option maxRecDepth 100000 in
theorem eq24 (hk : Hook) (d_0 : AV) (w : AW) (K : AV → AW → Prop) : fnS Try.prog hk Try.f24 adv24 [d_0] w K = F24 hk d_0 w K := by kernel_rfl
theorem in24 {hk : Hook} {d_0 : AV} {w : AW} {K : AV → AW → Prop} (hn : hk 24 [d_0] w = none) (h : F24 hk d_0 w K) : Cl Try.prog hk 24 [d_0] w K :=
 fnS_ok Try.func24 hn (by rw [eq24]; exact h)
def F28 (hk : Hook) (d_0 : AV) (w : AW) (K : AV → AW → Prop) : Prop :=
 Cl Try.prog hk 47 [d_0] w fun r_1 w_2 =>
 ∃ x_3 : Bool,r_1 = (.bool x_3) ∧
 ifT x_3 (K (.int .i64 0) w_2)
 (onP d_0 fun b_4 o_5 =>
 onM (ld w_2 b_4 (o_5 + 5)) fun x_6 =>
 ∃ x_7 : Int,lenS x_6 = some (.int .i64 x_7) ∧
 K (.int .i64 x_7) w_2)
def adv28 : Adv := (.sq .lf (.sq (.sq .lf (.cd (.sq .lf .lf) .lf)) (.sq .lf .lf)))
set_option maxRecDepth 100000 in
theorem eq28 (hk : Hook) (d_0 : AV) (w : AW) (K : AV → AW → Prop) : fnS Try.prog hk Try.f28 adv28 [d_0] w K = F28 hk d_0 w K := by kernel_rfl
theorem in28 {hk : Hook} {d_0 : AV} {w : AW} {K : AV → AW → Prop} (hn : hk 28 [d_0] w = none) (h : F28 hk d_0 w K) : Cl Try.prog hk 28 [d_0] w K :=
 fnS_ok Try.func28 hn (by rw [eq28]; exact h)
def F29 (hk : Hook) (a_0 : AV) (b_1 : AV) (w : AW) (K : AV → AW → Prop) : Prop :=
 ∃ x_2 : Int,lenS a_0 = some (.int .i64 x_2) ∧
 ∃ x_3 : Int,lenS b_1 = some (.int .i64 x_3) ∧
 ifT (!decide (x_2 = x_3)) (K (.bool false) w)
 (loopP [(.int .i64 0)] w fun R_4 l_5 w_6 => ∃ i_7 : Int,l_5 = [(.int .i64 i_7)] ∧ ∀ _ : Nat → AV,
  ∃ x_8 : Int,lenS a_0 = some (.int .i64 x_8) ∧
  ifT (decide (i_7 < x_8)) (atP (idxS 1 a_0 (.int .i64 i_7)) fun b_9 o_10 =>
  ∃ x_11 : List UInt8,ld w_6 b_9 o_10 = some (.str x_11) ∧
  atP (idxS 1 b_1 (.int .i64 i_7)) fun b_12 o_13 =>
  ∃ x_14 : List UInt8,ld w_6 b_12 o_13 = some (.str x_14) ∧
  ifT (!(x_11 == x_14)) (K (.bool false) w_6)
  (R_4 [(.int .i64 (wi (i_7 + 1)))] w_6))
  (K (.bool true) w_6))
def adv29 : Adv := (.sq .lf (.sq (.sq .lf (.cd (.sq .lf .lf) .lf)) (.sq (.sq .lf (.bl (.lp [(5,.sc (.int .i64))] (.sq (.sq .lf (.cd .lf .lf)) (.sq (.bl (.sq .lf (.cd (.sq .lf .lf) .lf))) .lf))))) (.sq .lf .lf))))
set_option maxRecDepth 100000 in
theorem eq29 (hk : Hook) (a_0 : AV) (b_1 : AV) (w : AW) (K : AV → AW → Prop) : fnS Try.prog hk Try.f29 adv29 [a_0,b_1] w K = F29 hk a_0 b_1 w K := by kernel_rfl
theorem in29 {hk : Hook} {a_0 : AV} {b_1 : AV} {w : AW} {K : AV → AW → Prop} (hn : hk 29 [a_0,b_1] w = none) (h : F29 hk a_0 b_1 w K) : Cl Try.prog hk 29 [a_0,b_1] w K :=
 fnS_ok Try.func29 hn (by rw [eq29]; exact h)
def F30 (hk : Hook) (d_0 : AV) (name_1 : List UInt8) (sectors_2 : Int) (w : AW) (K : AV → AW → Prop) : Prop :=
 Cl Try.prog hk 40 [d_0,(.str name_1)] w fun r_3 w_4 =>
 ∃ x_5 : Int,∃ x_6 : Int,r_3 = .tup [(.int .i64 x_5),(.int .i64 x_6)] ∧
 ifT (!decide (x_6 = 0)) (K (.int .i64 x_6) w_4)
 (ifT (decide (sectors_2 < 0)) (K (.int .i64 2) w_4)
  (onP d_0 fun b_7 o_8 =>
  onM (ld w_4 b_7 ((o_8 + 3) + 1)) fun x_9 =>
  onM (lookS .nilslice false w_4 x_9 (.int .i64 x_5)) fun x_10 =>
  ∃ x_11 : Int,lenS x_10 = some (.int .i64 x_11) ∧
  ifT (decide (x_11 < sectors_2)) (K (.int .i64 2) w_4)
  (new w_4 (stepC (.int .i64 2) (.int .i64 x_5) (.int .i64 sectors_2) z64 (.str []) (.str [])) fun b_12 w_13 =>
 Cl Try.prog hk 42 [d_0,(.slice b_12 0 1 1 none)] w_13 fun r_14 w_15 =>
 ∃ x_16 : Int,r_14 = (.int .i64 x_16) ∧
 K (.int .i64 x_16) w_15)))
def adv30 : Adv := (.sq .lf (.sq .lf (.sq (.bl (.sq .lf (.cd (.sq .lf .lf) (.sq .lf (.cd (.sq .lf .lf) .lf))))) (.sq .lf .lf))))
set_option maxRecDepth 100000 in
theorem eq30 (hk : Hook) (d_0 : AV) (name_1 : List UInt8) (sectors_2 : Int) (w : AW) (K : AV → AW → Prop) : fnS Try.prog hk Try.f30 adv30 [d_0,(.str name_1),(.int .i64 sectors_2)] w K = F30 hk d_0 name_1 sectors_2 w K := by kernel_rfl
theorem in30 {hk : Hook} {d_0 : AV} {name_1 : List UInt8} {sectors_2 : Int} {w : AW} {K : AV → AW → Prop} (hn : hk 30 [d_0,(.str name_1),(.int .i64 sectors_2)] w = none) (h : F30 hk d_0 name_1 sectors_2 w K) : Cl Try.prog hk 30 [d_0,(.str name_1),(.int .i64 sectors_2)] w K :=
 fnS_ok Try.func30 hn (by rw [eq30]; exact h)
def F31 (hk : Hook) (d_0 : AV) (name_1 : List UInt8) (w : AW) (K : AV → AW → Prop) : Prop :=
 Cl Try.prog hk 40 [d_0,(.str name_1)] w fun r_2 w_3 =>
 ∃ x_4 : Int,∃ x_5 : Int,r_2 = .tup [(.int .i64 x_4),(.int .i64 x_5)] ∧
 ifT (!decide (x_5 = 0)) (K (.int .i64 x_5) w_3)
 (new w_3 (stepC (.int .i64 4) (.int .i64 x_4) (.int .i64 0) z64 (.str name_1) (.str [])) fun b_6 w_7 =>
 Cl Try.prog hk 42 [d_0,(.slice b_6 0 1 1 none)] w_7 fun r_8 w_9 =>
 ∃ x_10 : Int,r_8 = (.int .i64 x_10) ∧
 K (.int .i64 x_10) w_9)
def adv31 : Adv := (.sq .lf (.sq .lf (.sq (.sq .lf (.cd (.sq .lf .lf) .lf)) (.sq .lf .lf))))
set_option maxRecDepth 100000 in
theorem eq31 (hk : Hook) (d_0 : AV) (name_1 : List UInt8) (w : AW) (K : AV → AW → Prop) : fnS Try.prog hk Try.f31 adv31 [d_0,(.str name_1)] w K = F31 hk d_0 name_1 w K := by kernel_rfl
theorem in31 {hk : Hook} {d_0 : AV} {name_1 : List UInt8} {w : AW} {K : AV → AW → Prop} (hn : hk 31 [d_0,(.str name_1)] w = none) (h : F31 hk d_0 name_1 w K) : Cl Try.prog hk 31 [d_0,(.str name_1)] w K :=
 fnS_ok Try.func31 hn (by rw [eq31]; exact h)
def F32 (hk : Hook) (d_0 : AV) (ops_1 : Int) (w : AW) (K : AV → AW → Prop) : Prop :=
 Cl Try.prog hk 47 [d_0] w fun r_2 w_3 =>
 ∃ x_4 : Bool,r_2 = (.bool x_4) ∧
 ifT x_4 (K (.int .i64 1) w_3)
 (ifT (decide (ops_1 < 0)) (K (.int .i64 2) w_3)
  (onP d_0 fun b_5 o_6 =>
 be (wi ((imin ops_1 4611686018427387904) + 1)) fun x_7 =>
 Cl Try.prog hk 51 [(.ptr b_5 (o_6 + 8)),(.int .i64 x_7)] w_3 fun r_8 w_9 =>
 r_8 = .tup [] ∧
 K (.int .i64 0) w_9))
def adv32 : Adv := (.sq .lf (.sq (.bl (.sq .lf (.cd (.sq .lf .lf) (.sq .lf (.cd (.sq .lf .lf) .lf))))) (.sq .lf (.sq .lf .lf))))
set_option maxRecDepth 100000 in
theorem eq32 (hk : Hook) (d_0 : AV) (ops_1 : Int) (w : AW) (K : AV → AW → Prop) : fnS Try.prog hk Try.f32 adv32 [d_0,(.int .i64 ops_1)] w K = F32 hk d_0 ops_1 w K := by kernel_rfl
theorem in32 {hk : Hook} {d_0 : AV} {ops_1 : Int} {w : AW} {K : AV → AW → Prop} (hn : hk 32 [d_0,(.int .i64 ops_1)] w = none) (h : F32 hk d_0 ops_1 w K) : Cl Try.prog hk 32 [d_0,(.int .i64 ops_1)] w K :=
 fnS_ok Try.func32 hn (by rw [eq32]; exact h)
def F33 (hk : Hook) (d_0 : AV) (ops_1 : Int) (e_2 : Int) (w : AW) (K : AV → AW → Prop) : Prop :=
 join (fun l_3 w_4 => l_3 = [] ∧ ∀ _ : Nat → AV,
  onP d_0 fun b_6 o_7 =>
  be (wi ((imin ops_1 4611686018427387904) + 1)) fun x_8 =>
  Cl Try.prog hk 51 [(.ptr b_6 (o_7 + 9)),(.int .i64 x_8)] w_4 fun r_9 w_10 =>
  r_9 = .tup [] ∧
  onP d_0 fun b_11 o_12 =>
  onM (AW.putCells w_10 b_11 (o_12 + 10) [(.int .i64 e_2)]) fun w_13 =>
  K (.int .i64 0) w_13) fun J_5 =>
 Cl Try.prog hk 47 [d_0] w fun r_14 w_15 =>
 ∃ x_16 : Bool,r_14 = (.bool x_16) ∧
 ifT x_16 (K (.int .i64 1) w_15)
 (ifT (decide (ops_1 < 0)) (K (.int .i64 2) w_15)
  (ifT (!decide (e_2 = 4)) (ifT (!decide (e_2 = 5)) (K (.int .i64 2) w_15)
  (J_5 [] w_15))
  (J_5 [] w_15)))
def adv33 : Adv := (.sq .lf (.sj [] (.bl (.sq .lf (.cd (.sq .lf .lf) (.sq .lf (.cd (.sq .lf .lf) .lf))))) (.sq .lf (.sq .lf (.sq .lf .lf)))))
set_option maxRecDepth 100000 in
theorem eq33 (hk : Hook) (d_0 : AV) (ops_1 : Int) (e_2 : Int) (w : AW) (K : AV → AW → Prop) : fnS Try.prog hk Try.f33 adv33 [d_0,(.int .i64 ops_1),(.int .i64 e_2)] w K = F33 hk d_0 ops_1 e_2 w K := by kernel_rfl
theorem in33 {hk : Hook} {d_0 : AV} {ops_1 : Int} {e_2 : Int} {w : AW} {K : AV → AW → Prop} (hn : hk 33 [d_0,(.int .i64 ops_1),(.int .i64 e_2)] w = none) (h : F33 hk d_0 ops_1 e_2 w K) : Cl Try.prog hk 33 [d_0,(.int .i64 ops_1),(.int .i64 e_2)] w K :=
 fnS_ok Try.func33 hn (by rw [eq33]; exact h)
def F36 (hk : Hook) (d_0 : AV) (w_1 : AV) (w_2 : AV) (w_3 : AV) (w_4 : Int) (w_5 : Bool) (w_6 : Int) (w_7 : Int) (w_8 : Int) (o_9 : Int) (o_10 : Int) (o_11 : List UInt8) (o_12 : List UInt8) (o_13 : Int) (o_14 : Int) (o_15 : Int) (o_16 : Int) (o_17 : AV) (w : AW) (K : AV → AW → Prop) : Prop :=
  gd (List.all [w_1, w_2, w_3, (.int .i64 w_4), (.bool w_5), (.int .i64 w_6), (.int .i64 w_7), (.int .i64 w_8)] okCell) (
  new w [w_1, w_2, w_3, (.int .i64 w_4), (.bool w_5), (.int .i64 w_6), (.int .i64 w_7), (.int .i64 w_8)] fun b_18 w_19 =>
  gd (List.all [(.int .i64 o_9), (.int .i64 o_10), (.str o_11), (.str o_12), (.int .i64 o_13), (.int .i64 o_14), (.int .u8 o_15), (.int .i64 o_16), o_17] okCell) (
  new w_19 [(.int .i64 o_9), (.int .i64 o_10), (.str o_11), (.str o_12), (.int .i64 o_13), (.int .i64 o_14), (.int .u8 o_15), (.int .i64 o_16), o_17] fun b_20 w_21 =>
  new w_21 [.nilslice, .nilslice, .nilslice, (.int .i64 0), (.bool false), (.int .i64 0), (.int .i64 0), (.int .i64 0)] fun b_22 w_23 =>
  ∃ x_24 : AV, ∃ x_25 : AV, ∃ x_26 : AV, ∃ x_27 : Int, ∃ x_28 : Bool, ∃ x_29 : Int, ∃ x_30 : Int, ∃ x_31 : Int, ldN 8 w_23 b_18 0 = some (.agg [x_24, x_25, x_26, (.int .i64 x_27), (.bool x_28), (.int .i64 x_29), (.int .i64 x_30), (.int .i64 x_31)]) ∧
  new w_23 [.nilslice, .nilslice, .nilslice, (.int .i64 0), (.bool false), (.int .i64 0), (.int .i64 0), (.int .i64 0)] fun b_32 w_33 =>
  gd (List.all [x_24, x_25, x_26, (.int .i64 x_27), (.bool x_28), (.int .i64 x_29), (.int .i64 x_30), (.int .i64 x_31)] okCell) (
  onM (AW.putCells w_33 b_32 0 [x_24, x_25, x_26, (.int .i64 x_27), (.bool x_28), (.int .i64 x_29), (.int .i64 x_30), (.int .i64 x_31)]) fun w_34 =>
  ∃ x_35 : Int, ld w_34 b_20 (0 + 0) = some (.int .i64 x_35) ∧
  ifT (decide (x_35 = 1)) (∃ x_36 : Int, ld w_34 b_20 (0 + 6) = some (.int .u8 x_36) ∧
   ∃ x_37 : Int, ld w_34 b_20 (0 + 7) = some (.int .i64 x_37) ∧
   Cl Try.prog hk 12 [(.int .u8 x_36), (.int .i64 x_37)] w_34 fun r_38 w_39 =>
   ∃ x_40 : List UInt8, ld w_39 b_20 (0 + 2) = some (.str x_40) ∧
   ∃ x_41 : Int, ld w_39 b_20 (0 + 4) = some (.int .i64 x_41) ∧
   Cl Try.prog hk 11 [d_0, (.str x_40), (.int .i64 x_41), r_38] w_39 fun r_42 w_43 =>
   ∃ e_44 : Int, r_42 = (.int .i64 e_44) ∧
   ∃ x_45 : AV, ∃ x_46 : AV, ∃ x_47 : AV, ∃ x_48 : Int, ∃ x_49 : Bool, ∃ x_50 : Int, ∃ x_51 : Int, ∃ x_52 : Int, ldN 8 w_43 b_18 0 = some (.agg [x_45, x_46, x_47, (.int .i64 x_48), (.bool x_49), (.int .i64 x_50), (.int .i64 x_51), (.int .i64 x_52)]) ∧
   ∃ x_53 : List UInt8, ld w_43 b_20 (0 + 2) = some (.str x_53) ∧
   ∃ x_54 : Int, ld w_43 b_20 (0 + 4) = some (.int .i64 x_54) ∧
   ∃ x_55 : Int, ld w_43 b_20 (0 + 6) = some (.int .u8 x_55) ∧
   ∃ x_56 : Int, ld w_43 b_20 (0 + 7) = some (.int .i64 x_56) ∧
   Cl Try.prog hk 12 [(.int .u8 x_55), (.int .i64 x_56)] w_43 fun r_57 w_58 =>
   ld w_58 b_20 (0 + 4) = some (.int .i64 x_54) ∧
   ld w_58 b_20 (0 + 2) = some (.str x_53) ∧
   ldN 8 w_58 b_18 0 = some (.agg [x_45, x_46, x_47, (.int .i64 x_48), (.bool x_49), (.int .i64 x_50), (.int .i64 x_51), (.int .i64 x_52)]) ∧
   Cl Try.prog hk 57 [(.agg [x_45, x_46, x_47, (.int .i64 x_48), (.bool x_49), (.int .i64 x_50), (.int .i64 x_51), (.int .i64 x_52)]), (.str x_53), (.int .i64 x_54), r_57] w_58 fun r_59 w_60 =>
   ∃ x_61 : AV, ∃ x_62 : AV, ∃ x_63 : AV, ∃ x_64 : Int, ∃ x_65 : Bool, ∃ x_66 : Int, ∃ x_67 : Int, ∃ x_68 : Int, ∃ x_69 : Int, r_59 = .tup [(.agg [x_61, x_62, x_63, (.int .i64 x_64), (.bool x_65), (.int .i64 x_66), (.int .i64 x_67), (.int .i64 x_68)]), (.int .i64 x_69)] ∧
   gd (List.all [x_61, x_62, x_63, (.int .i64 x_64), (.bool x_65), (.int .i64 x_66), (.int .i64 x_67), (.int .i64 x_68)] okCell) (
   onM (AW.putCells w_60 b_32 0 [x_61, x_62, x_63, (.int .i64 x_64), (.bool x_65), (.int .i64 x_66), (.int .i64 x_67), (.int .i64 x_68)]) fun w_70 =>
   loopP [(.int .i64 0)] w_70 fun R_71 l_72 w_73 => ∃ i_74 : Int, l_72 = [(.int .i64 i_74)] ∧ ∀ _ : Nat → AV,
    ∃ x_75 : Int, lenS r_38 = some (.int .i64 x_75) ∧
    ifT (decide (i_74 < x_75)) (atP (idxS 1 r_38 (.int .i64 i_74)) fun b_76 o_77 =>
    onM (AW.putCells w_73 b_76 o_77 [(.int .u8 99)]) fun w_78 =>
    R_71 [(.int .i64 (wi (i_74 + 1)))] w_78)
    (∃ x_79 : AV, ∃ x_80 : AV, ∃ x_81 : AV, ∃ x_82 : Int, ∃ x_83 : Bool, ∃ x_84 : Int, ∃ x_85 : Int, ∃ x_86 : Int, ldN 8 w_73 b_32 0 = some (.agg [x_79, x_80, x_81, (.int .i64 x_82), (.bool x_83), (.int .i64 x_84), (.int .i64 x_85), (.int .i64 x_86)]) ∧
  gd (List.all [x_79, x_80, x_81, (.int .i64 x_82), (.bool x_83), (.int .i64 x_84), (.int .i64 x_85), (.int .i64 x_86)] okCell) (
  onM (AW.putCells w_73 b_22 0 [x_79, x_80, x_81, (.int .i64 x_82), (.bool x_83), (.int .i64 x_84), (.int .i64 x_85), (.int .i64 x_86)]) fun w_87 =>
  ∃ res_88 : AV, ∃ res_89 : AV, ∃ res_90 : AV, ∃ res_91 : Int, ∃ res_92 : Bool, ∃ res_93 : Int, ∃ res_94 : Int, ∃ res_95 : Int, ldN 8 w_87 b_22 0 = some (.agg [res_88, res_89, res_90, (.int .i64 res_91), (.bool res_92), (.int .i64 res_93), (.int .i64 res_94), (.int .i64 res_95)]) ∧
  K (.tup [(.agg [res_88, res_89, res_90, (.int .i64 res_91), (.bool res_92), (.int .i64 res_93), (.int .i64 res_94), (.int .i64 res_95)]), (.bool (decide (e_44 = x_69)))]) w_87))))
  (ifT (decide (x_35 = 2)) (∃ x_96 : List UInt8, ld w_34 b_20 (0 + 2) = some (.str x_96) ∧
    ∃ x_97 : Int, ld w_34 b_20 (0 + 4) = some (.int .i64 x_97) ∧
    Cl Try.prog hk 30 [d_0, (.str x_96), (.int .i64 x_97)] w_34 fun r_98 w_99 =>
    ∃ e_100 : Int, r_98 = (.int .i64 e_100) ∧
    ∃ x_101 : AV, ∃ x_102 : AV, ∃ x_103 : AV, ∃ x_104 : Int, ∃ x_105 : Bool, ∃ x_106 : Int, ∃ x_107 : Int, ∃ x_108 : Int, ldN 8 w_99 b_18 0 = some (.agg [x_101, x_102, x_103, (.int .i64 x_104), (.bool x_105), (.int .i64 x_106), (.int .i64 x_107), (.int .i64 x_108)]) ∧
    ∃ x_109 : List UInt8, ld w_99 b_20 (0 + 2) = some (.str x_109) ∧
    ∃ x_110 : Int, ld w_99 b_20 (0 + 4) = some (.int .i64 x_110) ∧
    Cl Try.prog hk 58 [(.agg [x_101, x_102, x_103, (.int .i64 x_104), (.bool x_105), (.int .i64 x_106), (.int .i64 x_107), (.int .i64 x_108)]), (.str x_109), (.int .i64 x_110)] w_99 fun r_111 w_112 =>
    ∃ x_113 : AV, ∃ x_114 : AV, ∃ x_115 : AV, ∃ x_116 : Int, ∃ x_117 : Bool, ∃ x_118 : Int, ∃ x_119 : Int, ∃ x_120 : Int, ∃ x_121 : Int, r_111 = .tup [(.agg [x_113, x_114, x_115, (.int .i64 x_116), (.bool x_117), (.int .i64 x_118), (.int .i64 x_119), (.int .i64 x_120)]), (.int .i64 x_121)] ∧
    gd (List.all [x_113, x_114, x_115, (.int .i64 x_116), (.bool x_117), (.int .i64 x_118), (.int .i64 x_119), (.int .i64 x_120)] okCell) (
    onM (AW.putCells w_112 b_32 0 [x_113, x_114, x_115, (.int .i64 x_116), (.bool x_117), (.int .i64 x_118), (.int .i64 x_119), (.int .i64 x_120)]) fun w_122 =>
    ∃ x_123 : AV, ∃ x_124 : AV, ∃ x_125 : AV, ∃ x_126 : Int, ∃ x_127 : Bool, ∃ x_128 : Int, ∃ x_129 : Int, ∃ x_130 : Int, ldN 8 w_122 b_32 0 = some (.agg [x_123, x_124, x_125, (.int .i64 x_126), (.bool x_127), (.int .i64 x_128), (.int .i64 x_129), (.int .i64 x_130)]) ∧
  gd (List.all [x_123, x_124, x_125, (.int .i64 x_126), (.bool x_127), (.int .i64 x_128), (.int .i64 x_129), (.int .i64 x_130)] okCell) (
  onM (AW.putCells w_122 b_22 0 [x_123, x_124, x_125, (.int .i64 x_126), (.bool x_127), (.int .i64 x_128), (.int .i64 x_129), (.int .i64 x_130)]) fun w_131 =>
  ∃ res_132 : AV, ∃ res_133 : AV, ∃ res_134 : AV, ∃ res_135 : Int, ∃ res_136 : Bool, ∃ res_137 : Int, ∃ res_138 : Int, ∃ res_139 : Int, ldN 8 w_131 b_22 0 = some (.agg [res_132, res_133, res_134, (.int .i64 res_135), (.bool res_136), (.int .i64 res_137), (.int .i64 res_138), (.int .i64 res_139)]) ∧
  K (.tup [(.agg [res_132, res_133, res_134, (.int .i64 res_135), (.bool res_136), (.int .i64 res_137), (.int .i64 res_138), (.int .i64 res_139)]), (.bool (decide (e_100 = x_121)))]) w_131)))
   (ifT (decide (x_35 = 3)) (∃ x_140 : List UInt8, ld w_34 b_20 (0 + 2) = some (.str x_140) ∧
     ∃ x_141 : List UInt8, ld w_34 b_20 (0 + 3) = some (.str x_141) ∧
     Cl Try.prog hk 15 [d_0, (.str x_140), (.str x_141)] w_34 fun r_142 w_143 =>
     ∃ e_144 : Int, r_142 = (.int .i64 e_144) ∧
     ∃ x_145 : AV, ∃ x_146 : AV, ∃ x_147 : AV, ∃ x_148 : Int, ∃ x_149 : Bool, ∃ x_150 : Int, ∃ x_151 : Int, ∃ x_152 : Int, ldN 8 w_143 b_18 0 = some (.agg [x_145, x_146, x_147, (.int .i64 x_148), (.bool x_149), (.int .i64 x_150), (.int .i64 x_151), (.int .i64 x_152)]) ∧
     ∃ x_153 : List UInt8, ld w_143 b_20 (0 + 2) = some (.str x_153) ∧
     ∃ x_154 : List UInt8, ld w_143 b_20 (0 + 3) = some (.str x_154) ∧
     Cl Try.prog hk 59 [(.agg [x_145, x_146, x_147, (.int .i64 x_148), (.bool x_149), (.int .i64 x_150), (.int .i64 x_151), (.int .i64 x_152)]), (.str x_153), (.str x_154)] w_143 fun r_155 w_156 =>
     ∃ x_157 : AV, ∃ x_158 : AV, ∃ x_159 : AV, ∃ x_160 : Int, ∃ x_161 : Bool, ∃ x_162 : Int, ∃ x_163 : Int, ∃ x_164 : Int, ∃ x_165 : Int, r_155 = .tup [(.agg [x_157, x_158, x_159, (.int .i64 x_160), (.bool x_161), (.int .i64 x_162), (.int .i64 x_163), (.int .i64 x_164)]), (.int .i64 x_165)] ∧
     gd (List.all [x_157, x_158, x_159, (.int .i64 x_160), (.bool x_161), (.int .i64 x_162), (.int .i64 x_163), (.int .i64 x_164)] okCell) (
     onM (AW.putCells w_156 b_32 0 [x_157, x_158, x_159, (.int .i64 x_160), (.bool x_161), (.int .i64 x_162), (.int .i64 x_163), (.int .i64 x_164)]) fun w_166 =>
     ∃ x_167 : AV, ∃ x_168 : AV, ∃ x_169 : AV, ∃ x_170 : Int, ∃ x_171 : Bool, ∃ x_172 : Int, ∃ x_173 : Int, ∃ x_174 : Int, ldN 8 w_166 b_32 0 = some (.agg [x_167, x_168, x_169, (.int .i64 x_170), (.bool x_171), (.int .i64 x_172), (.int .i64 x_173), (.int .i64 x_174)]) ∧
  gd (List.all [x_167, x_168, x_169, (.int .i64 x_170), (.bool x_171), (.int .i64 x_172), (.int .i64 x_173), (.int .i64 x_174)] okCell) (
  onM (AW.putCells w_166 b_22 0 [x_167, x_168, x_169, (.int .i64 x_170), (.bool x_171), (.int .i64 x_172), (.int .i64 x_173), (.int .i64 x_174)]) fun w_175 =>
  ∃ res_176 : AV, ∃ res_177 : AV, ∃ res_178 : AV, ∃ res_179 : Int, ∃ res_180 : Bool, ∃ res_181 : Int, ∃ res_182 : Int, ∃ res_183 : Int, ldN 8 w_175 b_22 0 = some (.agg [res_176, res_177, res_178, (.int .i64 res_179), (.bool res_180), (.int .i64 res_181), (.int .i64 res_182), (.int .i64 res_183)]) ∧
  K (.tup [(.agg [res_176, res_177, res_178, (.int .i64 res_179), (.bool res_180), (.int .i64 res_181), (.int .i64 res_182), (.int .i64 res_183)]), (.bool (decide (e_144 = x_165)))]) w_175)))
    (ifT (decide (x_35 = 4)) (∃ x_184 : List UInt8, ld w_34 b_20 (0 + 2) = some (.str x_184) ∧
      Cl Try.prog hk 31 [d_0, (.str x_184)] w_34 fun r_185 w_186 =>
      ∃ e_187 : Int, r_185 = (.int .i64 e_187) ∧
      ∃ x_188 : AV, ∃ x_189 : AV, ∃ x_190 : AV, ∃ x_191 : Int, ∃ x_192 : Bool, ∃ x_193 : Int, ∃ x_194 : Int, ∃ x_195 : Int, ldN 8 w_186 b_18 0 = some (.agg [x_188, x_189, x_190, (.int .i64 x_191), (.bool x_192), (.int .i64 x_193), (.int .i64 x_194), (.int .i64 x_195)]) ∧
      ∃ x_196 : List UInt8, ld w_186 b_20 (0 + 2) = some (.str x_196) ∧
      Cl Try.prog hk 60 [(.agg [x_188, x_189, x_190, (.int .i64 x_191), (.bool x_192), (.int .i64 x_193), (.int .i64 x_194), (.int .i64 x_195)]), (.str x_196)] w_186 fun r_197 w_198 =>
      ∃ x_199 : AV, ∃ x_200 : AV, ∃ x_201 : AV, ∃ x_202 : Int, ∃ x_203 : Bool, ∃ x_204 : Int, ∃ x_205 : Int, ∃ x_206 : Int, ∃ x_207 : Int, r_197 = .tup [(.agg [x_199, x_200, x_201, (.int .i64 x_202), (.bool x_203), (.int .i64 x_204), (.int .i64 x_205), (.int .i64 x_206)]), (.int .i64 x_207)] ∧
      gd (List.all [x_199, x_200, x_201, (.int .i64 x_202), (.bool x_203), (.int .i64 x_204), (.int .i64 x_205), (.int .i64 x_206)] okCell) (
      onM (AW.putCells w_198 b_32 0 [x_199, x_200, x_201, (.int .i64 x_202), (.bool x_203), (.int .i64 x_204), (.int .i64 x_205), (.int .i64 x_206)]) fun w_208 =>
      ∃ x_209 : AV, ∃ x_210 : AV, ∃ x_211 : AV, ∃ x_212 : Int, ∃ x_213 : Bool, ∃ x_214 : Int, ∃ x_215 : Int, ∃ x_216 : Int, ldN 8 w_208 b_32 0 = some (.agg [x_209, x_210, x_211, (.int .i64 x_212), (.bool x_213), (.int .i64 x_214), (.int .i64 x_215), (.int .i64 x_216)]) ∧
  gd (List.all [x_209, x_210, x_211, (.int .i64 x_212), (.bool x_213), (.int .i64 x_214), (.int .i64 x_215), (.int .i64 x_216)] okCell) (
  onM (AW.putCells w_208 b_22 0 [x_209, x_210, x_211, (.int .i64 x_212), (.bool x_213), (.int .i64 x_214), (.int .i64 x_215), (.int .i64 x_216)]) fun w_217 =>
  ∃ res_218 : AV, ∃ res_219 : AV, ∃ res_220 : AV, ∃ res_221 : Int, ∃ res_222 : Bool, ∃ res_223 : Int, ∃ res_224 : Int, ∃ res_225 : Int, ldN 8 w_217 b_22 0 = some (.agg [res_218, res_219, res_220, (.int .i64 res_221), (.bool res_222), (.int .i64 res_223), (.int .i64 res_224), (.int .i64 res_225)]) ∧
  K (.tup [(.agg [res_218, res_219, res_220, (.int .i64 res_221), (.bool res_222), (.int .i64 res_223), (.int .i64 res_224), (.int .i64 res_225)]), (.bool (decide (e_187 = x_207)))]) w_217)))
     (ifT (decide (x_35 = 5)) (∃ x_226 : List UInt8, ld w_34 b_20 (0 + 2) = some (.str x_226) ∧
       Cl Try.prog hk 13 [d_0, (.str x_226)] w_34 fun r_227 w_228 =>
       ∃ e_229 : Int, r_227 = (.int .i64 e_229) ∧
       ∃ x_230 : AV, ∃ x_231 : AV, ∃ x_232 : AV, ∃ x_233 : Int, ∃ x_234 : Bool, ∃ x_235 : Int, ∃ x_236 : Int, ∃ x_237 : Int, ldN 8 w_228 b_18 0 = some (.agg [x_230, x_231, x_232, (.int .i64 x_233), (.bool x_234), (.int .i64 x_235), (.int .i64 x_236), (.int .i64 x_237)]) ∧
       ∃ x_238 : List UInt8, ld w_228 b_20 (0 + 2) = some (.str x_238) ∧
       Cl Try.prog hk 61 [(.agg [x_230, x_231, x_232, (.int .i64 x_233), (.bool x_234), (.int .i64 x_235), (.int .i64 x_236), (.int .i64 x_237)]), (.str x_238)] w_228 fun r_239 w_240 =>
       ∃ x_241 : AV, ∃ x_242 : AV, ∃ x_243 : AV, ∃ x_244 : Int, ∃ x_245 : Bool, ∃ x_246 : Int, ∃ x_247 : Int, ∃ x_248 : Int, ∃ x_249 : Int, r_239 = .tup [(.agg [x_241, x_242, x_243, (.int .i64 x_244), (.bool x_245), (.int .i64 x_246), (.int .i64 x_247), (.int .i64 x_248)]), (.int .i64 x_249)] ∧
       gd (List.all [x_241, x_242, x_243, (.int .i64 x_244), (.bool x_245), (.int .i64 x_246), (.int .i64 x_247), (.int .i64 x_248)] okCell) (
       onM (AW.putCells w_240 b_32 0 [x_241, x_242, x_243, (.int .i64 x_244), (.bool x_245), (.int .i64 x_246), (.int .i64 x_247), (.int .i64 x_248)]) fun w_250 =>
       ∃ x_251 : AV, ∃ x_252 : AV, ∃ x_253 : AV, ∃ x_254 : Int, ∃ x_255 : Bool, ∃ x_256 : Int, ∃ x_257 : Int, ∃ x_258 : Int, ldN 8 w_250 b_32 0 = some (.agg [x_251, x_252, x_253, (.int .i64 x_254), (.bool x_255), (.int .i64 x_256), (.int .i64 x_257), (.int .i64 x_258)]) ∧
  gd (List.all [x_251, x_252, x_253, (.int .i64 x_254), (.bool x_255), (.int .i64 x_256), (.int .i64 x_257), (.int .i64 x_258)] okCell) (
  onM (AW.putCells w_250 b_22 0 [x_251, x_252, x_253, (.int .i64 x_254), (.bool x_255), (.int .i64 x_256), (.int .i64 x_257), (.int .i64 x_258)]) fun w_259 =>
  ∃ res_260 : AV, ∃ res_261 : AV, ∃ res_262 : AV, ∃ res_263 : Int, ∃ res_264 : Bool, ∃ res_265 : Int, ∃ res_266 : Int, ∃ res_267 : Int, ldN 8 w_259 b_22 0 = some (.agg [res_260, res_261, res_262, (.int .i64 res_263), (.bool res_264), (.int .i64 res_265), (.int .i64 res_266), (.int .i64 res_267)]) ∧
  K (.tup [(.agg [res_260, res_261, res_262, (.int .i64 res_263), (.bool res_264), (.int .i64 res_265), (.int .i64 res_266), (.int .i64 res_267)]), (.bool (decide (e_229 = x_249)))]) w_259)))
      (ifT (decide (x_35 = 6)) (Cl Try.prog hk 16 [d_0] w_34 fun r_268 w_269 =>
        ∃ e_270 : Int, r_268 = (.int .i64 e_270) ∧
        ∃ x_271 : AV, ∃ x_272 : AV, ∃ x_273 : AV, ∃ x_274 : Int, ∃ x_275 : Bool, ∃ x_276 : Int, ∃ x_277 : Int, ∃ x_278 : Int, ldN 8 w_269 b_18 0 = some (.agg [x_271, x_272, x_273, (.int .i64 x_274), (.bool x_275), (.int .i64 x_276), (.int .i64 x_277), (.int .i64 x_278)]) ∧
        Cl Try.prog hk 62 [(.agg [x_271, x_272, x_273, (.int .i64 x_274), (.bool x_275), (.int .i64 x_276), (.int .i64 x_277), (.int .i64 x_278)])] w_269 fun r_279 w_280 =>
        ∃ x_281 : AV, ∃ x_282 : AV, ∃ x_283 : AV, ∃ x_284 : Int, ∃ x_285 : Bool, ∃ x_286 : Int, ∃ x_287 : Int, ∃ x_288 : Int, ∃ x_289 : Int, r_279 = .tup [(.agg [x_281, x_282, x_283, (.int .i64 x_284), (.bool x_285), (.int .i64 x_286), (.int .i64 x_287), (.int .i64 x_288)]), (.int .i64 x_289)] ∧
        gd (List.all [x_281, x_282, x_283, (.int .i64 x_284), (.bool x_285), (.int .i64 x_286), (.int .i64 x_287), (.int .i64 x_288)] okCell) (
        onM (AW.putCells w_280 b_32 0 [x_281, x_282, x_283, (.int .i64 x_284), (.bool x_285), (.int .i64 x_286), (.int .i64 x_287), (.int .i64 x_288)]) fun w_290 =>
        ∃ x_291 : AV, ∃ x_292 : AV, ∃ x_293 : AV, ∃ x_294 : Int, ∃ x_295 : Bool, ∃ x_296 : Int, ∃ x_297 : Int, ∃ x_298 : Int, ldN 8 w_290 b_32 0 = some (.agg [x_291, x_292, x_293, (.int .i64 x_294), (.bool x_295), (.int .i64 x_296), (.int .i64 x_297), (.int .i64 x_298)]) ∧
  gd (List.all [x_291, x_292, x_293, (.int .i64 x_294), (.bool x_295), (.int .i64 x_296), (.int .i64 x_297), (.int .i64 x_298)] okCell) (
  onM (AW.putCells w_290 b_22 0 [x_291, x_292, x_293, (.int .i64 x_294), (.bool x_295), (.int .i64 x_296), (.int .i64 x_297), (.int .i64 x_298)]) fun w_299 =>
  ∃ res_300 : AV, ∃ res_301 : AV, ∃ res_302 : AV, ∃ res_303 : Int, ∃ res_304 : Bool, ∃ res_305 : Int, ∃ res_306 : Int, ∃ res_307 : Int, ldN 8 w_299 b_22 0 = some (.agg [res_300, res_301, res_302, (.int .i64 res_303), (.bool res_304), (.int .i64 res_305), (.int .i64 res_306), (.int .i64 res_307)]) ∧
  K (.tup [(.agg [res_300, res_301, res_302, (.int .i64 res_303), (.bool res_304), (.int .i64 res_305), (.int .i64 res_306), (.int .i64 res_307)]), (.bool (decide (e_270 = x_289)))]) w_299)))
       (ifT (decide (x_35 = 7)) (∃ x_308 : List UInt8, ld w_34 b_20 (0 + 2) = some (.str x_308) ∧
         Cl Try.prog hk 18 [d_0, (.str x_308)] w_34 fun r_309 w_310 =>
         ∃ x_311 : AV, ∃ x_312 : Int, r_309 = .tup [x_311, (.int .i64 x_312)] ∧
         ∃ x_313 : AV, ∃ x_314 : AV, ∃ x_315 : AV, ∃ x_316 : Int, ∃ x_317 : Bool, ∃ x_318 : Int, ∃ x_319 : Int, ∃ x_320 : Int, ldN 8 w_310 b_18 0 = some (.agg [x_313, x_314, x_315, (.int .i64 x_316), (.bool x_317), (.int .i64 x_318), (.int .i64 x_319), (.int .i64 x_320)]) ∧
         ∃ x_321 : List UInt8, ld w_310 b_20 (0 + 2) = some (.str x_321) ∧
         Cl Try.prog hk 63 [(.agg [x_313, x_314, x_315, (.int .i64 x_316), (.bool x_317), (.int .i64 x_318), (.int .i64 x_319), (.int .i64 x_320)]), (.str x_321)] w_310 fun r_322 w_323 =>
         ∃ x_324 : AV, ∃ x_325 : Int, r_322 = .tup [x_324, (.int .i64 x_325)] ∧
         ∃ x_326 : AV, ∃ x_327 : AV, ∃ x_328 : AV, ∃ x_329 : Int, ∃ x_330 : Bool, ∃ x_331 : Int, ∃ x_332 : Int, ∃ x_333 : Int, ldN 8 w_323 b_18 0 = some (.agg [x_326, x_327, x_328, (.int .i64 x_329), (.bool x_330), (.int .i64 x_331), (.int .i64 x_332), (.int .i64 x_333)]) ∧
         ifT (decide (x_312 = x_325)) (Cl Try.prog hk 19 [x_311, x_324] w_323 fun r_334 w_335 =>
         ∃ x_336 : Bool, r_334 = (.bool x_336) ∧
         ldN 8 w_335 b_18 0 = some (.agg [x_326, x_327, x_328, (.int .i64 x_329), (.bool x_330), (.int .i64 x_331), (.int .i64 x_332), (.int .i64 x_333)]) ∧
         gd (List.all [x_326, x_327, x_328, (.int .i64 x_329), (.bool x_330), (.int .i64 x_331), (.int .i64 x_332), (.int .i64 x_333)] okCell) (
         onM (AW.putCells w_335 b_22 0 [x_326, x_327, x_328, (.int .i64 x_329), (.bool x_330), (.int .i64 x_331), (.int .i64 x_332), (.int .i64 x_333)]) fun w_337 =>
         ∃ res_338 : AV, ∃ res_339 : AV, ∃ res_340 : AV, ∃ res_341 : Int, ∃ res_342 : Bool, ∃ res_343 : Int, ∃ res_344 : Int, ∃ res_345 : Int, ldN 8 w_337 b_22 0 = some (.agg [res_338, res_339, res_340, (.int .i64 res_341), (.bool res_342), (.int .i64 res_343), (.int .i64 res_344), (.int .i64 res_345)]) ∧
  K (.tup [(.agg [res_338, res_339, res_340, (.int .i64 res_341), (.bool res_342), (.int .i64 res_343), (.int .i64 res_344), (.int .i64 res_345)]), (.bool x_336)]) w_337))
         (ldN 8 w_323 b_18 0 = some (.agg [x_326, x_327, x_328, (.int .i64 x_329), (.bool x_330), (.int .i64 x_331), (.int .i64 x_332), (.int .i64 x_333)]) ∧
         gd (List.all [x_326, x_327, x_328, (.int .i64 x_329), (.bool x_330), (.int .i64 x_331), (.int .i64 x_332), (.int .i64 x_333)] okCell) (
         onM (AW.putCells w_323 b_22 0 [x_326, x_327, x_328, (.int .i64 x_329), (.bool x_330), (.int .i64 x_331), (.int .i64 x_332), (.int .i64 x_333)]) fun w_346 =>
         ∃ res_347 : AV, ∃ res_348 : AV, ∃ res_349 : AV, ∃ res_350 : Int, ∃ res_351 : Bool, ∃ res_352 : Int, ∃ res_353 : Int, ∃ res_354 : Int, ldN 8 w_346 b_22 0 = some (.agg [res_347, res_348, res_349, (.int .i64 res_350), (.bool res_351), (.int .i64 res_352), (.int .i64 res_353), (.int .i64 res_354)]) ∧
  K (.tup [(.agg [res_347, res_348, res_349, (.int .i64 res_350), (.bool res_351), (.int .i64 res_352), (.int .i64 res_353), (.int .i64 res_354)]), (.bool false)]) w_346)))
        (ifT (decide (x_35 = 8)) (∃ x_355 : Int, ld w_34 b_20 (0 + 4) = some (.int .i64 x_355) ∧
          Cl Try.prog hk 32 [d_0, (.int .i64 x_355)] w_34 fun r_356 w_357 =>
          ∃ e_358 : Int, r_356 = (.int .i64 e_358) ∧
          ∃ x_359 : AV, ∃ x_360 : AV, ∃ x_361 : AV, ∃ x_362 : Int, ∃ x_363 : Bool, ∃ x_364 : Int, ∃ x_365 : Int, ∃ x_366 : Int, ldN 8 w_357 b_18 0 = some (.agg [x_359, x_360, x_361, (.int .i64 x_362), (.bool x_363), (.int .i64 x_364), (.int .i64 x_365), (.int .i64 x_366)]) ∧
          ∃ x_367 : Int, ld w_357 b_20 (0 + 4) = some (.int .i64 x_367) ∧
          Cl Try.prog hk 64 [(.agg [x_359, x_360, x_361, (.int .i64 x_362), (.bool x_363), (.int .i64 x_364), (.int .i64 x_365), (.int .i64 x_366)]), (.int .i64 x_367)] w_357 fun r_368 w_369 =>
          ∃ x_370 : AV, ∃ x_371 : AV, ∃ x_372 : AV, ∃ x_373 : Int, ∃ x_374 : Bool, ∃ x_375 : Int, ∃ x_376 : Int, ∃ x_377 : Int, ∃ x_378 : Int, r_368 = .tup [(.agg [x_370, x_371, x_372, (.int .i64 x_373), (.bool x_374), (.int .i64 x_375), (.int .i64 x_376), (.int .i64 x_377)]), (.int .i64 x_378)] ∧
          gd (List.all [x_370, x_371, x_372, (.int .i64 x_373), (.bool x_374), (.int .i64 x_375), (.int .i64 x_376), (.int .i64 x_377)] okCell) (
          onM (AW.putCells w_369 b_32 0 [x_370, x_371, x_372, (.int .i64 x_373), (.bool x_374), (.int .i64 x_375), (.int .i64 x_376), (.int .i64 x_377)]) fun w_379 =>
          ∃ x_380 : AV, ∃ x_381 : AV, ∃ x_382 : AV, ∃ x_383 : Int, ∃ x_384 : Bool, ∃ x_385 : Int, ∃ x_386 : Int, ∃ x_387 : Int, ldN 8 w_379 b_32 0 = some (.agg [x_380, x_381, x_382, (.int .i64 x_383), (.bool x_384), (.int .i64 x_385), (.int .i64 x_386), (.int .i64 x_387)]) ∧
  gd (List.all [x_380, x_381, x_382, (.int .i64 x_383), (.bool x_384), (.int .i64 x_385), (.int .i64 x_386), (.int .i64 x_387)] okCell) (
  onM (AW.putCells w_379 b_22 0 [x_380, x_381, x_382, (.int .i64 x_383), (.bool x_384), (.int .i64 x_385), (.int .i64 x_386), (.int .i64 x_387)]) fun w_388 =>
  ∃ res_389 : AV, ∃ res_390 : AV, ∃ res_391 : AV, ∃ res_392 : Int, ∃ res_393 : Bool, ∃ res_394 : Int, ∃ res_395 : Int, ∃ res_396 : Int, ldN 8 w_388 b_22 0 = some (.agg [res_389, res_390, res_391, (.int .i64 res_392), (.bool res_393), (.int .i64 res_394), (.int .i64 res_395), (.int .i64 res_396)]) ∧
  K (.tup [(.agg [res_389, res_390, res_391, (.int .i64 res_392), (.bool res_393), (.int .i64 res_394), (.int .i64 res_395), (.int .i64 res_396)]), (.bool (decide (e_358 = x_378)))]) w_388)))
         (ifT (decide (x_35 = 9)) (∃ x_397 : Int, ld w_34 b_20 (0 + 4) = some (.int .i64 x_397) ∧
           ∃ x_398 : Int, ld w_34 b_20 (0 + 5) = some (.int .i64 x_398) ∧
           Cl Try.prog hk 33 [d_0, (.int .i64 x_397), (.int .i64 x_398)] w_34 fun r_399 w_400 =>
           ∃ e_401 : Int, r_399 = (.int .i64 e_401) ∧
           ∃ x_402 : AV, ∃ x_403 : AV, ∃ x_404 : AV, ∃ x_405 : Int, ∃ x_406 : Bool, ∃ x_407 : Int, ∃ x_408 : Int, ∃ x_409 : Int, ldN 8 w_400 b_18 0 = some (.agg [x_402, x_403, x_404, (.int .i64 x_405), (.bool x_406), (.int .i64 x_407), (.int .i64 x_408), (.int .i64 x_409)]) ∧
           ∃ x_410 : Int, ld w_400 b_20 (0 + 4) = some (.int .i64 x_410) ∧
           ∃ x_411 : Int, ld w_400 b_20 (0 + 5) = some (.int .i64 x_411) ∧
           Cl Try.prog hk 65 [(.agg [x_402, x_403, x_404, (.int .i64 x_405), (.bool x_406), (.int .i64 x_407), (.int .i64 x_408), (.int .i64 x_409)]), (.int .i64 x_410), (.int .i64 x_411)] w_400 fun r_412 w_413 =>
           ∃ x_414 : AV, ∃ x_415 : AV, ∃ x_416 : AV, ∃ x_417 : Int, ∃ x_418 : Bool, ∃ x_419 : Int, ∃ x_420 : Int, ∃ x_421 : Int, ∃ x_422 : Int, r_412 = .tup [(.agg [x_414, x_415, x_416, (.int .i64 x_417), (.bool x_418), (.int .i64 x_419), (.int .i64 x_420), (.int .i64 x_421)]), (.int .i64 x_422)] ∧
           gd (List.all [x_414, x_415, x_416, (.int .i64 x_417), (.bool x_418), (.int .i64 x_419), (.int .i64 x_420), (.int .i64 x_421)] okCell) (
           onM (AW.putCells w_413 b_32 0 [x_414, x_415, x_416, (.int .i64 x_417), (.bool x_418), (.int .i64 x_419), (.int .i64 x_420), (.int .i64 x_421)]) fun w_423 =>
           ∃ x_424 : AV, ∃ x_425 : AV, ∃ x_426 : AV, ∃ x_427 : Int, ∃ x_428 : Bool, ∃ x_429 : Int, ∃ x_430 : Int, ∃ x_431 : Int, ldN 8 w_423 b_32 0 = some (.agg [x_424, x_425, x_426, (.int .i64 x_427), (.bool x_428), (.int .i64 x_429), (.int .i64 x_430), (.int .i64 x_431)]) ∧
  gd (List.all [x_424, x_425, x_426, (.int .i64 x_427), (.bool x_428), (.int .i64 x_429), (.int .i64 x_430), (.int .i64 x_431)] okCell) (
  onM (AW.putCells w_423 b_22 0 [x_424, x_425, x_426, (.int .i64 x_427), (.bool x_428), (.int .i64 x_429), (.int .i64 x_430), (.int .i64 x_431)]) fun w_432 =>
  ∃ res_433 : AV, ∃ res_434 : AV, ∃ res_435 : AV, ∃ res_436 : Int, ∃ res_437 : Bool, ∃ res_438 : Int, ∃ res_439 : Int, ∃ res_440 : Int, ldN 8 w_432 b_22 0 = some (.agg [res_433, res_434, res_435, (.int .i64 res_436), (.bool res_437), (.int .i64 res_438), (.int .i64 res_439), (.int .i64 res_440)]) ∧
  K (.tup [(.agg [res_433, res_434, res_435, (.int .i64 res_436), (.bool res_437), (.int .i64 res_438), (.int .i64 res_439), (.int .i64 res_440)]), (.bool (decide (e_401 = x_422)))]) w_432)))
          (ifT (decide (x_35 = 10)) (onM (ld w_34 b_20 (0 + 8)) fun x_441 =>
            Cl Try.prog hk 17 [d_0, x_441] w_34 fun r_442 w_443 =>
            ∃ e_444 : Int, r_442 = (.int .i64 e_444) ∧
            ∃ x_445 : AV, ∃ x_446 : AV, ∃ x_447 : AV, ∃ x_448 : Int, ∃ x_449 : Bool, ∃ x_450 : Int, ∃ x_451 : Int, ∃ x_452 : Int, ldN 8 w_443 b_18 0 = some (.agg [x_445, x_446, x_447, (.int .i64 x_448), (.bool x_449), (.int .i64 x_450), (.int .i64 x_451), (.int .i64 x_452)]) ∧
            onM (ld w_443 b_20 (0 + 8)) fun x_453 =>
            Cl Try.prog hk 38 [(.agg [x_445, x_446, x_447, (.int .i64 x_448), (.bool x_449), (.int .i64 x_450), (.int .i64 x_451), (.int .i64 x_452)]), x_453] w_443 fun r_454 w_455 =>
            ∃ x_456 : AV, ∃ x_457 : AV, ∃ x_458 : AV, ∃ x_459 : Int, ∃ x_460 : Bool, ∃ x_461 : Int, ∃ x_462 : Int, ∃ x_463 : Int, r_454 = (.agg [x_456, x_457, x_458, (.int .i64 x_459), (.bool x_460), (.int .i64 x_461), (.int .i64 x_462), (.int .i64 x_463)]) ∧
            gd (List.all [x_456, x_457, x_458, (.int .i64 x_459), (.bool x_460), (.int .i64 x_461), (.int .i64 x_462), (.int .i64 x_463)] okCell) (
            onM (AW.putCells w_455 b_32 0 [x_456, x_457, x_458, (.int .i64 x_459), (.bool x_460), (.int .i64 x_461), (.int .i64 x_462), (.int .i64 x_463)]) fun w_464 =>
            ∃ x_465 : AV, ∃ x_466 : AV, ∃ x_467 : AV, ∃ x_468 : Int, ∃ x_469 : Bool, ∃ x_470 : Int, ∃ x_471 : Int, ∃ x_472 : Int, ldN 8 w_464 b_32 0 = some (.agg [x_465, x_466, x_467, (.int .i64 x_468), (.bool x_469), (.int .i64 x_470), (.int .i64 x_471), (.int .i64 x_472)]) ∧
  gd (List.all [x_465, x_466, x_467, (.int .i64 x_468), (.bool x_469), (.int .i64 x_470), (.int .i64 x_471), (.int .i64 x_472)] okCell) (
  onM (AW.putCells w_464 b_22 0 [x_465, x_466, x_467, (.int .i64 x_468), (.bool x_469), (.int .i64 x_470), (.int .i64 x_471), (.int .i64 x_472)]) fun w_473 =>
  ∃ res_474 : AV, ∃ res_475 : AV, ∃ res_476 : AV, ∃ res_477 : Int, ∃ res_478 : Bool, ∃ res_479 : Int, ∃ res_480 : Int, ∃ res_481 : Int, ldN 8 w_473 b_22 0 = some (.agg [res_474, res_475, res_476, (.int .i64 res_477), (.bool res_478), (.int .i64 res_479), (.int .i64 res_480), (.int .i64 res_481)]) ∧
  K (.tup [(.agg [res_474, res_475, res_476, (.int .i64 res_477), (.bool res_478), (.int .i64 res_479), (.int .i64 res_480), (.int .i64 res_481)]), (.bool (decide (e_444 = 0)))]) w_473)))
           (∃ x_482 : AV, ∃ x_483 : AV, ∃ x_484 : AV, ∃ x_485 : Int, ∃ x_486 : Bool, ∃ x_487 : Int, ∃ x_488 : Int, ∃ x_489 : Int, ldN 8 w_34 b_32 0 = some (.agg [x_482, x_483, x_484, (.int .i64 x_485), (.bool x_486), (.int .i64 x_487), (.int .i64 x_488), (.int .i64 x_489)]) ∧
  gd (List.all [x_482, x_483, x_484, (.int .i64 x_485), (.bool x_486), (.int .i64 x_487), (.int .i64 x_488), (.int .i64 x_489)] okCell) (
  onM (AW.putCells w_34 b_22 0 [x_482, x_483, x_484, (.int .i64 x_485), (.bool x_486), (.int .i64 x_487), (.int .i64 x_488), (.int .i64 x_489)]) fun w_490 =>
  ∃ res_491 : AV, ∃ res_492 : AV, ∃ res_493 : AV, ∃ res_494 : Int, ∃ res_495 : Bool, ∃ res_496 : Int, ∃ res_497 : Int, ∃ res_498 : Int, ldN 8 w_490 b_22 0 = some (.agg [res_491, res_492, res_493, (.int .i64 res_494), (.bool res_495), (.int .i64 res_496), (.int .i64 res_497), (.int .i64 res_498)]) ∧
  K (.tup [(.agg [res_491, res_492, res_493, (.int .i64 res_494), (.bool res_495), (.int .i64 res_496), (.int .i64 res_497), (.int .i64 res_498)]), (.bool (decide (0 = 0)))]) w_490))))))))))))))
def adv36 : Adv := (.sq .lf (.sq .lf (.sq .lf (.sq (.sq .lf (.bl (.sq .lf (.cd (.sq .lf (.sq .lf (.sq .lf (.sq .lf (.bl (.lp [(12,.sc (.int .i64))] (.sq (.sq .lf (.cd .lf .lf)) (.sq (.bl .lf) .lf)))))))) (.sq .lf (.cd (.sq .lf .lf) (.sq .lf (.cd (.sq .lf .lf) (.sq .lf (.cd (.sq .lf .lf) (.sq .lf (.cd (.sq .lf .lf) (.sq .lf (.cd (.sq .lf .lf) (.sq .lf (.cd (.sq .lf (.sq .lf (.sq .lf .lf))) (.sq .lf (.cd (.sq .lf .lf) (.sq .lf (.cd (.sq .lf .lf) (.sq .lf (.cd (.sq .lf .lf) .lf)))))))))))))))))))))) (.sq .lf .lf)))))
set_option maxRecDepth 100000 in
theorem eq36 (hk : Hook) (d_0 : AV) (w_1 : AV) (w_2 : AV) (w_3 : AV) (w_4 : Int) (w_5 : Bool) (w_6 : Int) (w_7 : Int) (w_8 : Int) (o_9 : Int) (o_10 : Int) (o_11 : List UInt8) (o_12 : List UInt8) (o_13 : Int) (o_14 : Int) (o_15 : Int) (o_16 : Int) (o_17 : AV) (w : AW) (K : AV → AW → Prop) : fnS Try.prog hk Try.f36 adv36 [d_0,(.agg [w_1,w_2,w_3,(.int .i64 w_4),(.bool w_5),(.int .i64 w_6),(.int .i64 w_7),(.int .i64 w_8)]),(.agg [(.int .i64 o_9),(.int .i64 o_10),(.str o_11),(.str o_12),(.int .i64 o_13),(.int .i64 o_14),(.int .u8 o_15),(.int .i64 o_16),o_17])] w K = F36 hk d_0 w_1 w_2 w_3 w_4 w_5 w_6 w_7 w_8 o_9 o_10 o_11 o_12 o_13 o_14 o_15 o_16 o_17 w K := by kernel_rfl
theorem in36 {hk : Hook} {d_0 : AV} {w_1 : AV} {w_2 : AV} {w_3 : AV} {w_4 : Int} {w_5 : Bool} {w_6 : Int} {w_7 : Int} {w_8 : Int} {o_9 : Int} {o_10 : Int} {o_11 : List UInt8} {o_12 : List UInt8} {o_13 : Int} {o_14 : Int} {o_15 : Int} {o_16 : Int} {o_17 : AV} {w : AW} {K : AV → AW → Prop} (hn : hk 36 [d_0,(.agg [w_1,w_2,w_3,(.int .i64 w_4),(.bool w_5),(.int .i64 w_6),(.int .i64 w_7),(.int .i64 w_8)]),(.agg [(.int .i64 o_9),(.int .i64 o_10),(.str o_11),(.str o_12),(.int .i64 o_13),(.int .i64 o_14),(.int .u8 o_15),(.int .i64 o_16),o_17])] w = none) (h : F36 hk d_0 w_1 w_2 w_3 w_4 w_5 w_6 w_7 w_8 o_9 o_10 o_11 o_12 o_13 o_14 o_15 o_16 o_17 w K) : Cl Try.prog hk 36 [d_0,(.agg [w_1,w_2,w_3,(.int .i64 w_4),(.bool w_5),(.int .i64 w_6),(.int .i64 w_7),(.int .i64 w_8)]),(.agg [(.int .i64 o_9),(.int .i64 o_10),(.str o_11),(.str o_12),(.int .i64 o_13),(.int .i64 o_14),(.int .u8 o_15),(.int .i64 o_16),o_17])] w K :=
 fnS_ok Try.func36 hn (by rw [eq36]; exact h)
def F37 (hk : Hook) (d_0 : AV) (w_1 : AV) (w_2 : AV) (w_3 : AV) (w_4 : Int) (w_5 : Bool) (w_6 : Int) (w_7 : Int) (w_8 : Int) (w : AW) (K : AV → AW → Prop) : Prop :=
 gd (List.all [w_1,w_2,w_3,(.int .i64 w_4),(.bool w_5),(.int .i64 w_6),(.int .i64 w_7),(.int .i64 w_8)] okCell) (
 new w [w_1,w_2,w_3,(.int .i64 w_4),(.bool w_5),(.int .i64 w_6),(.int .i64 w_7),(.int .i64 w_8)] fun b_9 w_10 =>
 ∃ x_11 : AV,∃ x_12 : AV,∃ x_13 : AV,∃ x_14 : Int,∃ x_15 : Bool,∃ x_16 : Int,∃ x_17 : Int,∃ x_18 : Int,ldN 8 w_10 b_9 0 = some (.agg [x_11,x_12,x_13,(.int .i64 x_14),(.bool x_15),(.int .i64 x_16),(.int .i64 x_17),(.int .i64 x_18)]) ∧
 Cl Try.prog hk 66 [(.agg [x_11,x_12,x_13,(.int .i64 x_14),(.bool x_15),(.int .i64 x_16),(.int .i64 x_17),(.int .i64 x_18)])] w_10 fun r_19 w_20 =>
 Cl Try.prog hk 24 [d_0] w_20 fun r_21 w_22 =>
 Cl Try.prog hk 29 [r_21,r_19] w_22 fun r_23 w_24 =>
 ∃ x_25 : Bool,r_23 = (.bool x_25) ∧
 ifT (!x_25) (K (.bool false) w_24)
 (onM (ld w_24 b_9 (0 + 2)) fun x_26 =>
 ∃ x_27 : Int,lenS x_26 = some (.int .i64 x_27) ∧
 Cl Try.prog hk 28 [d_0] w_24 fun r_28 w_29 =>
 ∃ x_30 : Int,r_28 = (.int .i64 x_30) ∧
 ld w_29 b_9 (0 + 2) = some x_26 ∧
 ifT (!decide (x_30 = x_27)) (K (.bool false) w_29)
 (loopP [(.int .i64 0)] w_29 fun R_31 l_32 w_33 => ∃ i_34 : Int,l_32 = [(.int .i64 i_34)] ∧ ∀ _ : Nat → AV,
  ∃ x_35 : Int,lenS r_19 = some (.int .i64 x_35) ∧
  ifT (decide (i_34 < x_35)) (atP (idxS 1 r_19 (.int .i64 i_34)) fun b_36 o_37 =>
  ∃ x_38 : List UInt8,ld w_33 b_36 o_37 = some (.str x_38) ∧
  Cl Try.prog hk 18 [d_0,(.str x_38)] w_33 fun r_39 w_40 =>
  ∃ x_41 : AV,∃ x_42 : Int,r_39 = .tup [x_41,(.int .i64 x_42)] ∧
  ∃ x_43 : AV,∃ x_44 : AV,∃ x_45 : AV,∃ x_46 : Int,∃ x_47 : Bool,∃ x_48 : Int,∃ x_49 : Int,∃ x_50 : Int,ldN 8 w_40 b_9 0 = some (.agg [x_43,x_44,x_45,(.int .i64 x_46),(.bool x_47),(.int .i64 x_48),(.int .i64 x_49),(.int .i64 x_50)]) ∧
  atP (idxS 1 r_19 (.int .i64 i_34)) fun b_51 o_52 =>
  ∃ x_53 : List UInt8,ld w_40 b_51 o_52 = some (.str x_53) ∧
  Cl Try.prog hk 63 [(.agg [x_43,x_44,x_45,(.int .i64 x_46),(.bool x_47),(.int .i64 x_48),(.int .i64 x_49),(.int .i64 x_50)]),(.str x_53)] w_40 fun r_54 w_55 =>
  ∃ x_56 : AV,∃ x_57 : Int,r_54 = .tup [x_56,(.int .i64 x_57)] ∧
  ifT (!decide (x_42 = x_57)) (K (.bool false) w_55)
  (Cl Try.prog hk 19 [x_41,x_56] w_55 fun r_58 w_59 =>
  ∃ x_60 : Bool,r_58 = (.bool x_60) ∧
  ifT (!x_60) (K (.bool false) w_59)
  (R_31 [(.int .i64 (wi (i_34 + 1)))] w_59)))
  (K (.bool true) w_33))))
def adv37 : Adv := (.sq .lf (.sq .lf (.sq (.sq .lf (.cd (.sq .lf .lf) .lf)) (.sq (.sq .lf (.bl (.lp [(6,.sc (.int .i64))] (.sq (.sq .lf (.cd .lf .lf)) (.sq (.bl (.sq .lf (.sq .lf (.sq .lf (.cd (.sq .lf .lf) .lf))))) .lf))))) (.sq .lf .lf)))))
set_option maxRecDepth 100000 in
theorem eq37 (hk : Hook) (d_0 : AV) (w_1 : AV) (w_2 : AV) (w_3 : AV) (w_4 : Int) (w_5 : Bool) (w_6 : Int) (w_7 : Int) (w_8 : Int) (w : AW) (K : AV → AW → Prop) : fnS Try.prog hk Try.f37 adv37 [d_0,(.agg [w_1,w_2,w_3,(.int .i64 w_4),(.bool w_5),(.int .i64 w_6),(.int .i64 w_7),(.int .i64 w_8)])] w K = F37 hk d_0 w_1 w_2 w_3 w_4 w_5 w_6 w_7 w_8 w K := by kernel_rfl
theorem in37 {hk : Hook} {d_0 : AV} {w_1 : AV} {w_2 : AV} {w_3 : AV} {w_4 : Int} {w_5 : Bool} {w_6 : Int} {w_7 : Int} {w_8 : Int} {w : AW} {K : AV → AW → Prop} (hn : hk 37 [d_0,(.agg [w_1,w_2,w_3,(.int .i64 w_4),(.bool w_5),(.int .i64 w_6),(.int .i64 w_7),(.int .i64 w_8)])] w = none) (h : F37 hk d_0 w_1 w_2 w_3 w_4 w_5 w_6 w_7 w_8 w K) : Cl Try.prog hk 37 [d_0,(.agg [w_1,w_2,w_3,(.int .i64 w_4),(.bool w_5),(.int .i64 w_6),(.int .i64 w_7),(.int .i64 w_8)])] w K :=
 fnS_ok Try.func37 hn (by rw [eq37]; exact h)
def F39 (hk : Hook)  (w : AW) (K : AV → AW → Prop) : Prop :=
 new w [.nilmap,.nilmap] fun b_0 w_1 =>
 newMap w_1 fun m_2 w_3 =>
 newMap w_3 fun m_4 w_5 =>
 onM (AW.putCells w_5 b_0 0 [(.map m_2),(.map m_4)]) fun w_6 =>
 ∃ res_7 : AV,∃ res_8 : AV,ldN 2 w_6 b_0 0 = some (.agg [res_7,res_8]) ∧
 K (.agg [res_7,res_8]) w_6
def adv39 : Adv := (.sq .lf (.sq .lf .lf))
set_option maxRecDepth 100000 in
theorem eq39 (hk : Hook)  (w : AW) (K : AV → AW → Prop) : fnS Try.prog hk Try.f39 adv39 [] w K = F39 hk  w K := by kernel_rfl
theorem in39 {hk : Hook} {w : AW} {K : AV → AW → Prop} (hn : hk 39 [] w = none) (h : F39 hk  w K) : Cl Try.prog hk 39 [] w K :=
 fnS_ok Try.func39 hn (by rw [eq39]; exact h)
def F40 (hk : Hook) (d_0 : AV) (name_1 : List UInt8) (w : AW) (K : AV → AW → Prop) : Prop :=
 Cl Try.prog hk 47 [d_0] w fun r_2 w_3 =>
 ∃ x_4 : Bool,r_2 = (.bool x_4) ∧
 ifT x_4 (K (.tup [(.int .i64 0),(.int .i64 1)]) w_3)
 (onP d_0 fun b_5 o_6 =>
 onM (ld w_3 b_5 ((o_6 + 3) + 0)) fun x_7 =>
 ∃ x_8 : Int,∃ x_9 : Bool,lookS (.int .i64 0) true w_3 x_7 (.str name_1) = some (.tup [(.int .i64 x_8),(.bool x_9)]) ∧
 ifT (!x_9) (K (.tup [(.int .i64 0),(.int .i64 70)]) w_3)
 (K (.tup [(.int .i64 x_8),(.int .i64 0)]) w_3))
def adv40 : Adv := (.sq .lf (.sq (.sq .lf (.cd (.sq .lf .lf) .lf)) (.sq .lf (.sq (.sq .lf (.cd (.sq .lf .lf) .lf)) (.sq .lf .lf)))))
set_option maxRecDepth 100000 in
theorem eq40 (hk : Hook) (d_0 : AV) (name_1 : List UInt8) (w : AW) (K : AV → AW → Prop) : fnS Try.prog hk Try.f40 adv40 [d_0,(.str name_1)] w K = F40 hk d_0 name_1 w K := by kernel_rfl
theorem in40 {hk : Hook} {d_0 : AV} {name_1 : List UInt8} {w : AW} {K : AV → AW → Prop} (hn : hk 40 [d_0,(.str name_1)] w = none) (h : F40 hk d_0 name_1 w K) : Cl Try.prog hk 40 [d_0,(.str name_1)] w K :=
 fnS_ok Try.func40 hn (by rw [eq40]; exact h)
def F41 (hk : Hook) (s_0 : List UInt8) (w : AW) (K : AV → AW → Prop) : Prop :=
 ifT (decide (1 ≤ (Int.ofNat (List.length s_0)))) (K (.bool (decide ((Int.ofNat (List.length s_0)) ≤ 64))) w)
 (K (.bool false) w)
def adv41 : Adv := (.sq .lf (.sq .lf .lf))
set_option maxRecDepth 100000 in
theorem eq41 (hk : Hook) (s_0 : List UInt8) (w : AW) (K : AV → AW → Prop) : fnS Try.prog hk Try.f41 adv41 [(.str s_0)] w K = F41 hk s_0 w K := by kernel_rfl
theorem in41 {hk : Hook} {s_0 : List UInt8} {w : AW} {K : AV → AW → Prop} (hn : hk 41 [(.str s_0)] w = none) (h : F41 hk s_0 w K) : Cl Try.prog hk 41 [(.str s_0)] w K :=
 fnS_ok Try.func41 hn (by rw [eq41]; exact h)
def F42 (hk : Hook) (d_0 : AV) (l_1 : AV) (w : AW) (K : AV → AW → Prop) : Prop :=
 Cl Try.prog hk 68 [d_0] w fun r_2 w_3 =>
 ∃ e_4 : Int,r_2 = (.int .i64 e_4) ∧
 ifT (!decide (e_4 = 0)) (K (.int .i64 e_4) w_3)
 (∃ x_5 : Int,lenS l_1 = some (.int .i64 x_5) ∧
 loopP [(.int .i64 0)] w_3 fun R_6 l_7 w_8 => ∃ x_9 : Int,l_7 = [(.int .i64 x_9)] ∧ ∀ _ : Nat → AV,
  ifT (decide (x_9 < x_5)) (atP (idxS 69 l_1 (.int .i64 x_9)) fun b_10 o_11 =>
  onM (ldN 69 w_8 b_10 o_11) fun x_12 =>
  new w_8 (stepC (.int .i64 0) (.int .i64 0) (.int .i64 0) z64 (.str []) (.str [])) fun b_13 w_14 =>
  onA x_12 fun cs_15 => gd (List.all cs_15 okCell) (
  gd (Nat.beq cs_15.length 69) (onM (AW.putCells w_14 b_13 0 cs_15) fun w_16 =>
  onP d_0 fun b_17 o_18 =>
  onM (ld w_16 b_17 (o_18 + 5)) fun x_19 =>
  onM (ldN 69 w_16 b_13 0) fun x_20 =>
  onA x_20 fun cs_21 => gd (List.all cs_21 okCell) (
  gd (Nat.beq cs_21.length 69 && Nat.ble 69 69) (
  new w_16 (listPut (stepC (.int .i64 0) (.int .i64 0) (.int .i64 0) z64 (.str []) (.str [])) 0 cs_21) fun b_22 w_23 =>
  ldN 69 w_23 b_13 0 = some x_20 ∧
  ld w_23 b_17 (o_18 + 5) = some x_19 ∧
  onE (appS 69 120 w_23 x_19 (.slice b_22 0 1 1 none)) fun x_24 w_25 =>
  onP d_0 fun b_26 o_27 =>
  gd (okCell x_24) (
  onM (AW.putCells w_25 b_26 (o_27 + 5) [x_24]) fun w_28 =>
  onP d_0 fun b_29 o_30 =>
  ∃ x_31 : AV,∃ x_32 : AV,ldN 2 w_28 b_29 (o_30 + 3) = some (.agg [x_31,x_32]) ∧
  onM (ldN 69 w_28 b_13 0) fun x_33 =>
  Cl Try.prog hk 49 [(.agg [x_31,x_32]),x_33] w_28 fun r_34 w_35 =>
  r_34 = .tup [] ∧
  R_6 [(.int .i64 (wi (x_9 + 1)))] w_35))))))
  (K (.int .i64 0) w_8))
def adv42 : Adv := (.sq .lf (.sq (.sq .lf (.sq .lf (.cd (.sq .lf .lf) .lf))) (.sq (.sq .lf (.bl (.lp [(15,.sc (.int .i64))] (.sq .lf (.sq (.cd .lf .lf) (.sq (.bl (.sq .lf (.sq .lf .lf))) .lf)))))) (.sq .lf .lf))))
set_option maxRecDepth 100000 in
theorem eq42 (hk : Hook) (d_0 : AV) (l_1 : AV) (w : AW) (K : AV → AW → Prop) : fnS Try.prog hk Try.f42 adv42 [d_0,l_1] w K = F42 hk d_0 l_1 w K := by kernel_rfl
theorem in42 {hk : Hook} {d_0 : AV} {l_1 : AV} {w : AW} {K : AV → AW → Prop} (hn : hk 42 [d_0,l_1] w = none) (h : F42 hk d_0 l_1 w K) : Cl Try.prog hk 42 [d_0,l_1] w K :=
 fnS_ok Try.func42 hn (by rw [eq42]; exact h)
def F43 (hk : Hook) (s_0 : AV) (f_1 : AV) (w : AW) (K : AV → AW → Prop) : Prop :=
 ∃ x_2 : Int,lenS s_0 = some (.int .i64 x_2) ∧
 loopP [(.int .i64 0)] w fun R_3 l_4 w_5 => ∃ x_6 : Int,l_4 = [(.int .i64 x_6)] ∧ ∀ _ : Nat → AV,
  ifT (decide (x_6 < x_2)) (atP (idxS 69 s_0 (.int .i64 x_6)) fun b_7 o_8 =>
  onM (ldN 69 w_5 b_7 o_8) fun x_9 =>
  Cv Try.prog hk f_1 [x_9] w_5 fun r_10 w_11 =>
  ∃ x_12 : Bool,r_10 = (.bool x_12) ∧
  ifT x_12 (K (.int .i64 x_6) w_11)
  (R_3 [(.int .i64 (wi (x_6 + 1)))] w_11))
  (K (.int .i64 (-1)) w_5)
def adv43 : Adv := (.sq .lf (.sq (.sq .lf (.bl (.lp [(8,.sc (.int .i64))] (.sq .lf (.sq (.cd .lf .lf) (.sq (.bl (.sq .lf (.sq .lf (.cd (.sq .lf .lf) .lf)))) .lf)))))) (.sq .lf .lf)))
set_option maxRecDepth 100000 in
theorem eq43 (hk : Hook) (s_0 : AV) (f_1 : AV) (w : AW) (K : AV → AW → Prop) : fnS Try.prog hk Try.f43 adv43 [s_0,f_1] w K = F43 hk s_0 f_1 w K := by kernel_rfl
theorem in43 {hk : Hook} {s_0 : AV} {f_1 : AV} {w : AW} {K : AV → AW → Prop} (hn : hk 43 [s_0,f_1] w = none) (h : F43 hk s_0 f_1 w K) : Cl Try.prog hk 43 [s_0,f_1] w K :=
 fnS_ok Try.func43 hn (by rw [eq43]; exact h)
def F44 (hk : Hook) (x_0 : AV) (cap_1 : AV) (w : AW) (K : AV → AW → Prop) : Prop :=
 onA x_0 fun cs_2 => gd (List.all cs_2 okCell) (
 new w cs_2 fun b_3 w_4 =>
 ∃ x_5 : Int,ld w_4 b_3 (0 + 1) = some (.int .i64 x_5) ∧
 onP cap_1 fun b_6 o_7 =>
 ∃ x_8 : Int,ld w_4 b_6 o_7 = some (.int .i64 x_8) ∧
 ifT (decide (x_5 = x_8)) (∃ x_9 : Int,ld w_4 b_3 (0 + 0) = some (.int .i64 x_9) ∧
 K (.bool (decide (x_9 = 0))) w_4)
 (K (.bool false) w_4))
def adv44 : Adv := (.sq .lf (.sq .lf .lf))
set_option maxRecDepth 100000 in
theorem eq44 (hk : Hook) (x_0 : AV) (cap_1 : AV) (w : AW) (K : AV → AW → Prop) : fnS Try.prog hk Try.f44 adv44 [x_0,cap_1] w K = F44 hk x_0 cap_1 w K := by kernel_rfl
theorem in44 {hk : Hook} {x_0 : AV} {cap_1 : AV} {w : AW} {K : AV → AW → Prop} (hn : hk 44 [x_0,cap_1] w = none) (h : F44 hk x_0 cap_1 w K) : Cl Try.prog hk 44 [x_0,cap_1] w K :=
 fnS_ok Try.func44 hn (by rw [eq44]; exact h)
def F45 (hk : Hook) (d_0 : AV) (so_1 : AV) (w : AW) (K : AV → AW → Prop) : Prop :=
 Cl Try.prog hk 68 [d_0] w fun r_2 w_3 =>
 ∃ e_4 : Int,r_2 = (.int .i64 e_4) ∧
 ifT (!decide (e_4 = 0)) (K (.int .i64 e_4) w_3)
 (onP d_0 fun b_5 o_6 =>
 onM (ld w_3 b_5 (o_6 + 5)) fun x_7 =>
 ∃ x_8 : Int,lenS x_7 = some (.int .i64 x_8) ∧
 loopP [.nilslice,(.int .i64 0)] w_3 fun R_9 l_10 w_11 => ∃ left_12 : AV,∃ x_13 : Int,l_10 = [left_12,(.int .i64 x_13)] ∧ ∀ _ : Nat → AV,
  ifT (decide (x_13 < x_8)) (atP (idxS 69 x_7 (.int .i64 x_13)) fun b_14 o_15 =>
  onM (ldN 69 w_11 b_14 o_15) fun x_16 =>
  new w_11 (stepC (.int .i64 0) (.int .i64 0) (.int .i64 0) z64 (.str []) (.str [])) fun b_17 w_18 =>
  onA x_16 fun cs_19 => gd (List.all cs_19 okCell) (
  gd (Nat.beq cs_19.length 69) (onM (AW.putCells w_18 b_17 0 cs_19) fun w_20 =>
  onM (ldN 69 w_20 b_17 0) fun x_21 =>
  Cv Try.prog hk so_1 [(.int .i64 x_13),x_21] w_20 fun r_22 w_23 =>
  ∃ x_24 : Bool,r_22 = (.bool x_24) ∧
  ifT x_24 (onP d_0 fun b_25 o_26 =>
  ∃ x_27 : AV,∃ x_28 : AV,ldN 2 w_23 b_25 (o_26 + 1) = some (.agg [x_27,x_28]) ∧
  onM (ldN 69 w_23 b_17 0) fun x_29 =>
  Cl Try.prog hk 49 [(.agg [x_27,x_28]),x_29] w_23 fun r_30 w_31 =>
  r_30 = .tup [] ∧
  R_9 [left_12,(.int .i64 (wi (x_13 + 1)))] w_31)
  (onM (ldN 69 w_23 b_17 0) fun x_32 =>
  onA x_32 fun cs_33 => gd (List.all cs_33 okCell) (
  gd (Nat.beq cs_33.length 69 && Nat.ble 69 69) (
  new w_23 (listPut (stepC (.int .i64 0) (.int .i64 0) (.int .i64 0) z64 (.str []) (.str [])) 0 cs_33) fun b_34 w_35 =>
  onE (appS 69 120 w_35 left_12 (.slice b_34 0 1 1 none)) fun left_36 w_37 =>
  R_9 [left_36,(.int .i64 (wi (x_13 + 1)))] w_37))))))
  (onP d_0 fun b_38 o_39 =>
 gd (okCell left_12) (
 onM (AW.putCells w_11 b_38 (o_39 + 5) [left_12]) fun w_40 =>
 K (.int .i64 0) w_40)))
def adv45 : Adv := (.sq .lf (.sq (.sq .lf (.sq .lf (.cd (.sq .lf .lf) .lf))) (.sq .lf (.sq (.sq .lf (.bl (.lp [(6,.sc (.opq)),(19,.sc (.int .i64))] (.sq .lf (.sq (.cd .lf .lf) (.sq (.bl (.sq .lf (.sq .lf (.cd .lf .lf)))) .lf)))))) (.sq .lf (.sq .lf .lf))))))
set_option maxRecDepth 100000 in
theorem eq45 (hk : Hook) (d_0 : AV) (so_1 : AV) (w : AW) (K : AV → AW → Prop) : fnS Try.prog hk Try.f45 adv45 [d_0,so_1] w K = F45 hk d_0 so_1 w K := by kernel_rfl
theorem in45 {hk : Hook} {d_0 : AV} {so_1 : AV} {w : AW} {K : AV → AW → Prop} (hn : hk 45 [d_0,so_1] w = none) (h : F45 hk d_0 so_1 w K) : Cl Try.prog hk 45 [d_0,so_1] w K :=
 fnS_ok Try.func45 hn (by rw [eq45]; exact h)
def F46 (hk : Hook) (i_0 : Int) (x_1 : AV) (cap_2 : AV) (cap_3 : AV) (w : AW) (K : AV → AW → Prop) : Prop :=
 onA x_1 fun cs_4 => gd (List.all cs_4 okCell) (
 new w cs_4 fun b_5 w_6 =>
 ∃ x_7 : Int,ld w_6 b_5 (0 + 0) = some (.int .i64 x_7) ∧
 ifT (decide (x_7 = 1)) (∃ x_8 : Int,ld w_6 b_5 (0 + 1) = some (.int .i64 x_8) ∧
 onP cap_2 fun b_9 o_10 =>
 ∃ x_11 : Int,ld w_6 b_9 o_10 = some (.int .i64 x_11) ∧
 K (.bool (decide (x_8 = x_11))) w_6)
 (∃ x_12 : Int,ld w_6 b_5 (0 + 0) = some (.int .i64 x_12) ∧
 ifT (decide (x_12 = 2)) (∃ x_13 : Int,ld w_6 b_5 (0 + 1) = some (.int .i64 x_13) ∧
  onP cap_2 fun b_14 o_15 =>
  ∃ x_16 : Int,ld w_6 b_14 o_15 = some (.int .i64 x_16) ∧
  K (.bool (decide (x_13 = x_16))) w_6)
 (onP cap_3 fun b_17 o_18 =>
 ∃ x_19 : Int,ld w_6 b_17 o_18 = some (.int .i64 x_19) ∧
 K (.bool (decide (i_0 ≤ x_19))) w_6)))
def adv46 : Adv := (.sq .lf (.sq (.sq .lf (.cd (.sq .lf .lf) .lf)) (.sq .lf .lf)))
set_option maxRecDepth 100000 in
theorem eq46 (hk : Hook) (i_0 : Int) (x_1 : AV) (cap_2 : AV) (cap_3 : AV) (w : AW) (K : AV → AW → Prop) : fnS Try.prog hk Try.f46 adv46 [(.int .i64 i_0),x_1,cap_2,cap_3] w K = F46 hk i_0 x_1 cap_2 cap_3 w K := by kernel_rfl
theorem in46 {hk : Hook} {i_0 : Int} {x_1 : AV} {cap_2 : AV} {cap_3 : AV} {w : AW} {K : AV → AW → Prop} (hn : hk 46 [(.int .i64 i_0),x_1,cap_2,cap_3] w = none) (h : F46 hk i_0 x_1 cap_2 cap_3 w K) : Cl Try.prog hk 46 [(.int .i64 i_0),x_1,cap_2,cap_3] w K :=
 fnS_ok Try.func46 hn (by rw [eq46]; exact h)
def F47 (hk : Hook) (d_0 : AV) (w : AW) (K : AV → AW → Prop) : Prop :=
 ∃ x_1 : Bool,binOpA Try.prog .eql 24 true d_0 .nilptr = some (.bool x_1) ∧
 ifT x_1 (K (.bool true) w)
 (onP d_0 fun b_2 o_3 =>
 ∃ x_4 : Bool,ld w b_2 (o_3 + 0) = some (.bool x_4) ∧
 K (.bool (!x_4)) w)
def adv47 : Adv := (.sq .lf (.sq .lf .lf))
set_option maxRecDepth 100000 in
theorem eq47 (hk : Hook) (d_0 : AV) (w : AW) (K : AV → AW → Prop) : fnS Try.prog hk Try.f47 adv47 [d_0] w K = F47 hk d_0 w K := by kernel_rfl
theorem in47 {hk : Hook} {d_0 : AV} {w : AW} {K : AV → AW → Prop} (hn : hk 47 [d_0] w = none) (h : F47 hk d_0 w K) : Cl Try.prog hk 47 [d_0] w K :=
 fnS_ok Try.func47 hn (by rw [eq47]; exact h)
def F48 (hk : Hook) (i_0 : Int) (x_1 : AV) (w : AW) (K : AV → AW → Prop) : Prop :=
 onA x_1 fun cs_2 => gd (List.all cs_2 okCell) (
 new w cs_2 fun b_3 w_4 =>
 ∃ x_5 : Int,ld w_4 b_3 (0 + 0) = some (.int .i64 x_5) ∧
 ifT (!decide (x_5 = 1)) (∃ x_6 : Int,ld w_4 b_3 (0 + 0) = some (.int .i64 x_6) ∧
 K (.bool (!decide (x_6 = 2))) w_4)
 (K (.bool false) w_4))
def adv48 : Adv := (.sq .lf (.sq .lf .lf))
set_option maxRecDepth 100000 in
theorem eq48 (hk : Hook) (i_0 : Int) (x_1 : AV) (w : AW) (K : AV → AW → Prop) : fnS Try.prog hk Try.f48 adv48 [(.int .i64 i_0),x_1] w K = F48 hk i_0 x_1 w K := by kernel_rfl
theorem in48 {hk : Hook} {i_0 : Int} {x_1 : AV} {w : AW} {K : AV → AW → Prop} (hn : hk 48 [(.int .i64 i_0),x_1] w = none) (h : F48 hk i_0 x_1 w K) : Cl Try.prog hk 48 [(.int .i64 i_0),x_1] w K :=
 fnS_ok Try.func48 hn (by rw [eq48]; exact h)
def F49 (hk : Hook) (s_0 : AV) (s_1 : AV) (x_2 : AV) (w : AW) (K : AV → AW → Prop) : Prop :=
 gd (List.all [s_0,s_1] okCell) (
 new w [s_0,s_1] fun b_3 w_4 =>
 onA x_2 fun cs_5 => gd (List.all cs_5 okCell) (
 new w_4 cs_5 fun b_6 w_7 =>
 onM (ld w_7 b_3 (0 + 0)) fun x_8 =>
 ∃ x_9 : List UInt8,ld w_7 b_6 (0 + 67) = some (.str x_9) ∧
 ∃ x_10 : Int,∃ x_11 : Bool,lookS (.int .i64 0) true w_7 x_8 (.str x_9) = some (.tup [(.int .i64 x_10),(.bool x_11)]) ∧
 onM (ld w_7 b_3 (0 + 1)) fun x_12 =>
 ∃ x_13 : Int,ld w_7 b_6 (0 + 1) = some (.int .i64 x_13) ∧
 onM (lookS .nilslice false w_7 x_12 (.int .i64 x_13)) fun l_14 =>
 ∃ x_15 : Int,ld w_7 b_6 (0 + 0) = some (.int .i64 x_15) ∧
 ifT (decide (x_15 = 0)) (onM (ld w_7 b_3 (0 + 0)) fun x_16 =>
  ∃ x_17 : List UInt8,ld w_7 b_6 (0 + 67) = some (.str x_17) ∧
  ∃ x_18 : Int,ld w_7 b_6 (0 + 1) = some (.int .i64 x_18) ∧
  onE (kvSet w_7 x_16 (.str x_17) (.int .i64 x_18)) fun r_19 w_20 =>
  K (.tup []) w_20)
 (ifT (decide (x_15 = 1)) (Cl Try.prog hk 69 [l_14] w_7 fun r_21 w_22 =>
  loopP [r_21] w_22 fun R_23 l_24 w_25 => ∃ l_26 : AV,l_24 = [l_26] ∧ ∀ _ : Nat → AV,
   ∃ x_27 : Int,lenS l_26 = some (.int .i64 x_27) ∧
   ∃ x_28 : Int,ld w_25 b_6 (0 + 2) = some (.int .i64 x_28) ∧
   ifT (decide (x_27 ≤ x_28)) (new w_25 z64 fun b_29 w_30 =>
   onE (appS 64 64 w_30 l_26 (.slice b_29 0 1 1 none)) fun l_31 w_32 =>
   R_23 [l_31] w_32)
   (∃ x_33 : Int,ld w_25 b_6 (0 + 2) = some (.int .i64 x_33) ∧
  onM (ldN 64 w_25 b_6 (0 + 3)) fun x_34 =>
  atP (idxS 64 l_26 (.int .i64 x_33)) fun b_35 o_36 =>
  onA x_34 fun cs_37 => gd (List.all cs_37 okCell) (
  gd (Nat.beq cs_37.length 64) (onM (AW.putCells w_25 b_35 o_36 cs_37) fun w_38 =>
  onM (ld w_38 b_3 (0 + 1)) fun x_39 =>
  ∃ x_40 : Int,ld w_38 b_6 (0 + 1) = some (.int .i64 x_40) ∧
  onE (kvSet w_38 x_39 (.int .i64 x_40) l_26) fun r_41 w_42 =>
  K (.tup []) w_42))))
  (ifT (decide (x_15 = 2)) (onM (ld w_7 b_3 (0 + 1)) fun x_43 =>
   ∃ x_44 : Int,ld w_7 b_6 (0 + 1) = some (.int .i64 x_44) ∧
   ∃ x_45 : Int,lenS l_14 = some (.int .i64 x_45) ∧
   ∃ x_46 : Int,ld w_7 b_6 (0 + 2) = some (.int .i64 x_46) ∧
   onM (slS 64 l_14 none (some (.int .i64 (imin x_45 x_46))) none) fun x_47 =>
   Cl Try.prog hk 69 [x_47] w_7 fun r_48 w_49 =>
   ld w_49 b_6 (0 + 1) = some (.int .i64 x_44) ∧
   ld w_49 b_3 (0 + 1) = some x_43 ∧
   onE (kvSet w_49 x_43 (.int .i64 x_44) r_48) fun r_50 w_51 =>
   K (.tup []) w_51)
  (ifT (!x_11) (K (.tup []) w_7)
   (∃ x_52 : Int,ld w_7 b_6 (0 + 1) = some (.int .i64 x_52) ∧
   ifT (!decide (x_10 = x_52)) (K (.tup []) w_7)
   (onM (ld w_7 b_3 (0 + 0)) fun x_53 =>
   ∃ x_54 : List UInt8,ld w_7 b_6 (0 + 67) = some (.str x_54) ∧
   onE (kvDel w_7 x_53 (.str x_54)) fun r_55 w_56 =>
   ∃ x_57 : Int,ld w_56 b_6 (0 + 0) = some (.int .i64 x_57) ∧
   ifT (decide (x_57 = 3)) (onM (ld w_56 b_3 (0 + 0)) fun x_58 =>
   ∃ x_59 : List UInt8,ld w_56 b_6 (0 + 68) = some (.str x_59) ∧
   ∃ x_60 : Int,ld w_56 b_6 (0 + 1) = some (.int .i64 x_60) ∧
   onE (kvSet w_56 x_58 (.str x_59) (.int .i64 x_60)) fun r_61 w_62 =>
   K (.tup []) w_62)
   (K (.tup []) w_56))))))))
def adv49 : Adv := (.sq .lf (.sq .lf (.sq .lf (.sq .lf (.bl (.sq .lf (.cd .lf (.sq .lf (.cd (.sq .lf (.sq (.bl (.lp [(6,.sc (.opq))] (.sq (.sq .lf (.cd .lf .lf)) (.bl .lf)))) (.sq .lf .lf))) (.sq .lf (.cd .lf (.sq (.sq .lf (.cd .lf .lf)) (.sq .lf (.sq .lf (.cd .lf .lf)))))))))))))))
set_option maxRecDepth 100000 in
theorem eq49 (hk : Hook) (s_0 : AV) (s_1 : AV) (x_2 : AV) (w : AW) (K : AV → AW → Prop) : fnS Try.prog hk Try.f49 adv49 [(.agg [s_0,s_1]),x_2] w K = F49 hk s_0 s_1 x_2 w K := by kernel_rfl
theorem in49 {hk : Hook} {s_0 : AV} {s_1 : AV} {x_2 : AV} {w : AW} {K : AV → AW → Prop} (hn : hk 49 [(.agg [s_0,s_1]),x_2] w = none) (h : F49 hk s_0 s_1 x_2 w K) : Cl Try.prog hk 49 [(.agg [s_0,s_1]),x_2] w K :=
 fnS_ok Try.func49 hn (by rw [eq49]; exact h)
def F50 (hk : Hook) (s_0 : AV) (s_1 : AV) (w : AW) (K : AV → AW → Prop) : Prop :=
 gd (List.all [s_0,s_1] okCell) (
 new w [s_0,s_1] fun b_2 w_3 =>
 new w_3 [.nilmap,.nilmap] fun b_4 w_5 =>
 onM (ld w_5 b_2 (0 + 0)) fun x_6 =>
 onM (ld w_5 b_2 (0 + 1)) fun x_7 =>
 Cl Try.prog hk 70 [x_6] w_5 fun r_8 w_9 =>
 ld w_9 b_2 (0 + 1) = some x_7 ∧
 Cl Try.prog hk 71 [x_7] w_9 fun r_10 w_11 =>
 gd (okCell r_8) (
 gd (okCell r_10) (
 gd (List.all [r_8,r_10] okCell) (
 onM (AW.putCells w_11 b_4 0 [r_8,r_10]) fun w_12 =>
 ∃ res_13 : AV,∃ res_14 : AV,ldN 2 w_12 b_4 0 = some (.agg [res_13,res_14]) ∧
 K (.agg [res_13,res_14]) w_12))))
def adv50 : Adv := (.sq .lf (.sq .lf .lf))
set_option maxRecDepth 100000 in
theorem eq50 (hk : Hook) (s_0 : AV) (s_1 : AV) (w : AW) (K : AV → AW → Prop) : fnS Try.prog hk Try.f50 adv50 [(.agg [s_0,s_1])] w K = F50 hk s_0 s_1 w K := by kernel_rfl
theorem in50 {hk : Hook} {s_0 : AV} {s_1 : AV} {w : AW} {K : AV → AW → Prop} (hn : hk 50 [(.agg [s_0,s_1])] w = none) (h : F50 hk s_0 s_1 w K) : Cl Try.prog hk 50 [(.agg [s_0,s_1])] w K :=
 fnS_ok Try.func50 hn (by rw [eq50]; exact h)
def F52 (hk : Hook) (s_0 : AV) (w : AW) (K : AV → AW → Prop) : Prop :=
 ∃ x_1 : Bool,binOpA Try.prog .eql 79 true s_0 .nilslice = some (.bool x_1) ∧
 ifT x_1 (K .nilslice w)
 (new w [] fun b_2 w_3 =>
 onE (appS 69 120 w_3 (.slice b_2 0 0 0 none) s_0) fun x_4 w_5 =>
 K x_4 w_5)
def adv52 : Adv := (.sq .lf (.sq (.sq .lf (.cd (.sq .lf .lf) .lf)) (.sq .lf .lf)))
set_option maxRecDepth 100000 in
theorem eq52 (hk : Hook) (s_0 : AV) (w : AW) (K : AV → AW → Prop) : fnS Try.prog hk Try.f52 adv52 [s_0] w K = F52 hk s_0 w K := by kernel_rfl
theorem in52 {hk : Hook} {s_0 : AV} {w : AW} {K : AV → AW → Prop} (hn : hk 52 [s_0] w = none) (h : F52 hk s_0 w K) : Cl Try.prog hk 52 [s_0] w K :=
 fnS_ok Try.func52 hn (by rw [eq52]; exact h)
def F68 (hk : Hook) (d_0 : AV) (w : AW) (K : AV → AW → Prop) : Prop :=
 onP d_0 fun b_1 o_2 =>
 ∃ x_3 : Bool,ld w b_1 (o_2 + 7) = some (.bool x_3) ∧
 ifT x_3 (K (.int .i64 6) w)
 (onP d_0 fun b_4 o_5 =>
 onP d_0 fun b_6 o_7 =>
 Cl Try.prog hk 86 [(.ptr b_4 (o_5 + 9))] w fun r_8 w_9 =>
 ∃ x_10 : Bool,r_8 = (.bool x_10) ∧
 Cl Try.prog hk 86 [(.ptr b_6 (o_7 + 8))] w_9 fun r_11 w_12 =>
 ∃ x_13 : Bool,r_11 = (.bool x_13) ∧
 ifT x_13 (onP d_0 fun b_14 o_15 =>
  onM (AW.putCells w_12 b_14 (o_15 + 7) [(.bool true)]) fun w_16 =>
  K (.int .i64 6) w_16)
 (ifT x_10 (onP d_0 fun b_17 o_18 =>
  ∃ x_19 : Int,ld w_12 b_17 (o_18 + 10) = some (.int .i64 x_19) ∧
  K (.int .i64 x_19) w_12)
  (K (.int .i64 0) w_12)))
def adv68 : Adv := (.sq .lf (.sq (.sq .lf (.cd (.sq .lf .lf) .lf)) (.sq .lf (.sq (.bl (.sq .lf (.cd (.sq .lf (.sq .lf .lf)) (.sq .lf (.cd (.sq .lf .lf) .lf))))) (.sq .lf .lf)))))
set_option maxRecDepth 100000 in
theorem eq68 (hk : Hook) (d_0 : AV) (w : AW) (K : AV → AW → Prop) : fnS Try.prog hk Try.f68 adv68 [d_0] w K = F68 hk d_0 w K := by kernel_rfl
theorem in68 {hk : Hook} {d_0 : AV} {w : AW} {K : AV → AW → Prop} (hn : hk 68 [d_0] w = none) (h : F68 hk d_0 w K) : Cl Try.prog hk 68 [d_0] w K :=
 fnS_ok Try.func68 hn (by rw [eq68]; exact h)
def F69 (hk : Hook) (s_0 : AV) (w : AW) (K : AV → AW → Prop) : Prop :=
 ∃ x_1 : Bool,binOpA Try.prog .eql 93 true s_0 .nilslice = some (.bool x_1) ∧
 ifT x_1 (K .nilslice w)
 (new w [] fun b_2 w_3 =>
 onE (appS 64 64 w_3 (.slice b_2 0 0 0 none) s_0) fun x_4 w_5 =>
 K x_4 w_5)
def adv69 : Adv := (.sq .lf (.sq (.sq .lf (.cd (.sq .lf .lf) .lf)) (.sq .lf .lf)))
set_option maxRecDepth 100000 in
theorem eq69 (hk : Hook) (s_0 : AV) (w : AW) (K : AV → AW → Prop) : fnS Try.prog hk Try.f69 adv69 [s_0] w K = F69 hk s_0 w K := by kernel_rfl
theorem in69 {hk : Hook} {s_0 : AV} {w : AW} {K : AV → AW → Prop} (hn : hk 69 [s_0] w = none) (h : F69 hk s_0 w K) : Cl Try.prog hk 69 [s_0] w K :=
 fnS_ok Try.func69 hn (by rw [eq69]; exact h)
def F51 (hk : Hook) (x_0 : AV) (val_1 : Int) (w : AW) (K : AV → AW → Prop) : Prop :=
 onP x_0 fun b_2 o_3 =>
 Cl Try.prog hk 72 [(.ptr b_2 (o_3 + 0)),(.int .i64 val_1)] w fun r_4 w_5 =>
 r_4 = .tup [] ∧
 K (.tup []) w_5
def adv51 : Adv := .lf
set_option maxRecDepth 100000 in
theorem eq51 (hk : Hook) (x_0 : AV) (val_1 : Int) (w : AW) (K : AV → AW → Prop) : fnS Try.prog hk Try.f51 adv51 [x_0,(.int .i64 val_1)] w K = F51 hk x_0 val_1 w K := by kernel_rfl
theorem in51 {hk : Hook} {x_0 : AV} {val_1 : Int} {w : AW} {K : AV → AW → Prop} (hn : hk 51 [x_0,(.int .i64 val_1)] w = none) (h : F51 hk x_0 val_1 w K) : Cl Try.prog hk 51 [x_0,(.int .i64 val_1)] w K :=
 fnS_ok Try.func51 hn (by rw [eq51]; exact h)
def F53 (hk : Hook) (x_0 : AV) (w : AW) (K : AV → AW → Prop) : Prop :=
 onP x_0 fun b_1 o_2 =>
 Cl Try.prog hk 73 [(.ptr b_1 (o_2 + 0))] w fun r_3 w_4 =>
 ∃ x_5 : Int,r_3 = (.int .i64 x_5) ∧
 K (.int .i64 x_5) w_4
def adv53 : Adv := (.sq .lf (.sq .lf .lf))
set_option maxRecDepth 100000 in
theorem eq53 (hk : Hook) (x_0 : AV) (w : AW) (K : AV → AW → Prop) : fnS Try.prog hk Try.f53 adv53 [x_0] w K = F53 hk x_0 w K := by kernel_rfl
theorem in53 {hk : Hook} {x_0 : AV} {w : AW} {K : AV → AW → Prop} (hn : hk 53 [x_0] w = none) (h : F53 hk x_0 w K) : Cl Try.prog hk 53 [x_0] w K :=
 fnS_ok Try.func53 hn (by rw [eq53]; exact h)
def F92 (hk : Hook) (x_0 : AV) (delta_1 : Int) (w : AW) (K : AV → AW → Prop) : Prop :=
 onP x_0 fun b_2 o_3 =>
 Cl Try.prog hk 104 [(.ptr b_2 (o_3 + 0)),(.int .i64 delta_1)] w fun r_4 w_5 =>
 ∃ new_6 : Int,r_4 = (.int .i64 new_6) ∧
 K (.int .i64 new_6) w_5
def adv92 : Adv := (.sq .lf (.sq .lf .lf))
set_option maxRecDepth 100000 in
theorem eq92 (hk : Hook) (x_0 : AV) (delta_1 : Int) (w : AW) (K : AV → AW → Prop) : fnS Try.prog hk Try.f92 adv92 [x_0,(.int .i64 delta_1)] w K = F92 hk x_0 delta_1 w K := by kernel_rfl
theorem in92 {hk : Hook} {x_0 : AV} {delta_1 : Int} {w : AW} {K : AV → AW → Prop} (hn : hk 92 [x_0,(.int .i64 delta_1)] w = none) (h : F92 hk x_0 delta_1 w K) : Cl Try.prog hk 92 [x_0,(.int .i64 delta_1)] w K :=
 fnS_ok Try.func92 hn (by rw [eq92]; exact h)
def F70 (hk : Hook) (m_0 : AV) (w : AW) (K : AV → AW → Prop) : Prop :=
 ∃ x_1 : Bool,binOpA Try.prog .eql 75 true m_0 .nilmap = some (.bool x_1) ∧
 ifT x_1 (K .nilmap w)
 (Cl Try.prog hk 87 [(.iface 75 m_0)] w fun r_2 w_3 =>
 onM (assertA Try.prog 75 false r_2) fun x_4 =>
 K x_4 w_3)
def adv70 : Adv := (.sq .lf (.sq (.sq .lf (.cd (.sq .lf .lf) .lf)) (.sq .lf .lf)))
set_option maxRecDepth 100000 in
theorem eq70 (hk : Hook) (m_0 : AV) (w : AW) (K : AV → AW → Prop) : fnS Try.prog hk Try.f70 adv70 [m_0] w K = F70 hk m_0 w K := by kernel_rfl
theorem in70 {hk : Hook} {m_0 : AV} {w : AW} {K : AV → AW → Prop} (hn : hk 70 [m_0] w = none) (h : F70 hk m_0 w K) : Cl Try.prog hk 70 [m_0] w K :=
 fnS_ok Try.func70 hn (by rw [eq70]; exact h)
def F71 (hk : Hook) (m_0 : AV) (w : AW) (K : AV → AW → Prop) : Prop :=
 ∃ x_1 : Bool,binOpA Try.prog .eql 76 true m_0 .nilmap = some (.bool x_1) ∧
 ifT x_1 (K .nilmap w)
 (Cl Try.prog hk 87 [(.iface 76 m_0)] w fun r_2 w_3 =>
 onM (assertA Try.prog 76 false r_2) fun x_4 =>
 K x_4 w_3)
def adv71 : Adv := (.sq .lf (.sq (.sq .lf (.cd (.sq .lf .lf) .lf)) (.sq .lf .lf)))
set_option maxRecDepth 100000 in
theorem eq71 (hk : Hook) (m_0 : AV) (w : AW) (K : AV → AW → Prop) : fnS Try.prog hk Try.f71 adv71 [m_0] w K = F71 hk m_0 w K := by kernel_rfl
theorem in71 {hk : Hook} {m_0 : AV} {w : AW} {K : AV → AW → Prop} (hn : hk 71 [m_0] w = none) (h : F71 hk m_0 w K) : Cl Try.prog hk 71 [m_0] w K :=
 fnS_ok Try.func71 hn (by rw [eq71]; exact h)
-- no body 72
def F86 (hk : Hook) (n_0 : AV) (w : AW) (K : AV → AW → Prop) : Prop :=
 Cl Try.prog hk 53 [n_0] w fun r_1 w_2 =>
 ∃ x_3 : Int,r_1 = (.int .i64 x_3) ∧
 ifT (decide (x_3 = 0)) (K (.bool false) w_2)
 (Cl Try.prog hk 92 [n_0,(.int .i64 (-1))] w_2 fun r_4 w_5 =>
 ∃ x_6 : Int,r_4 = (.int .i64 x_6) ∧
 K (.bool (decide (x_6 = 0))) w_5)
def adv86 : Adv := (.sq .lf (.sq (.sq .lf (.cd (.sq .lf .lf) .lf)) (.sq .lf .lf)))
set_option maxRecDepth 100000 in
theorem eq86 (hk : Hook) (n_0 : AV) (w : AW) (K : AV → AW → Prop) : fnS Try.prog hk Try.f86 adv86 [n_0] w K = F86 hk n_0 w K := by kernel_rfl
theorem in86 {hk : Hook} {n_0 : AV} {w : AW} {K : AV → AW → Prop} (hn : hk 86 [n_0] w = none) (h : F86 hk n_0 w K) : Cl Try.prog hk 86 [n_0] w K :=
 fnS_ok Try.func86 hn (by rw [eq86]; exact h)
end Go.Proofs.Ytbjeebgdjlemjaa
/-
 What the functions of this chapter do.
 No condition beyond those that each theorem names.
-/
set_option linter.unusedSimpArgs false
open Go.Sx
set_option linter.unusedVariables false
namespace Go.Proofs.Ytbjeebgdjlemjaa
def F56 (hk : Hook) (m_0 : AV) (w : AW) (K : AV → AW → Prop) : Prop :=
 gd (okCell m_0) (
 new w [m_0] fun b_1 w_2 =>
 K (.func 76 [] [(.ptr b_1 0)]) w_2)
def adv56 : Adv := (.sq .lf (.sq .lf .lf))
set_option maxRecDepth 100000 in
theorem eq56 (hk : Hook) (m_0 : AV) (w : AW) (K : AV → AW → Prop) : fnS Try.prog hk Try.f56 adv56 [m_0] w K = F56 hk m_0 w K := by kernel_rfl
theorem in56 {hk : Hook} {m_0 : AV} {w : AW} {K : AV → AW → Prop} (hn : hk 56 [m_0] w = none) (h : F56 hk m_0 w K) : Cl Try.prog hk 56 [m_0] w K :=
 fnS_ok Try.func56 hn (by rw [eq56]; exact h)
end Go.Proofs.Ytbjeebgdjlemjaa
