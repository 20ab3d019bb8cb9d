/-
 What the functions of this chapter do.
 No condition beyond those that each theorem names.
-/
import Derived.Test.YtbjeebgdjlemjaaMc
import Derived.Test.YtbjeebgdjlemjaaSxn
import Derived.Test.YtbjeebgdjlemjaaProg
import Derived.KernelRfl
set_option linter.unusedSimpArgs false
open Go.Sx
set_option linter.unusedVariables false
namespace Go.Proofs.Ytbjeebgdjlemjaa
def F35 (hk : Hook)  (w : AW) (K : AV → AW → Prop) : Prop :=
 new w [.nilslice,.nilslice,.nilslice,(.int .i64 0),(.bool false),(.int .i64 0),(.int .i64 0),(.int .i64 0)] fun b_0 w_1 =>
 onM (AW.putCells w_1 b_0 0 [.nilslice,.nilslice,.nilslice,(.int .i64 0),(.bool false),(.int .i64 (-1)),(.int .i64 (-1)),(.int .i64 0)]) fun w_2 =>
 ∃ res_3 : AV,∃ res_4 : AV,∃ res_5 : AV,∃ res_6 : Int,∃ res_7 : Bool,∃ res_8 : Int,∃ res_9 : Int,∃ res_10 : Int,ldN 8 w_2 b_0 0 = some (.agg [res_3,res_4,res_5,(.int .i64 res_6),(.bool res_7),(.int .i64 res_8),(.int .i64 res_9),(.int .i64 res_10)]) ∧
 K (.agg [res_3,res_4,res_5,(.int .i64 res_6),(.bool res_7),(.int .i64 res_8),(.int .i64 res_9),(.int .i64 res_10)]) w_2
def adv35 : Adv := (.sq .lf (.sq .lf .lf))
set_option maxRecDepth 100000 in
theorem eq35 (hk : Hook)  (w : AW) (K : AV → AW → Prop) : fnS Try.prog hk Try.f35 adv35 [] w K = F35 hk  w K := by kernel_rfl
theorem in35 {hk : Hook} {w : AW} {K : AV → AW → Prop} (hn : hk 35 [] w = none) (h : F35 hk  w K) : Cl Try.prog hk 35 [] w K :=
 fnS_ok Try.func35 hn (by rw [eq35]; exact h)
def F38 (hk : Hook) (d_0 : AV) (d_1 : AV) (d_2 : AV) (d_3 : Int) (d_4 : Bool) (d_5 : Int) (d_6 : Int) (d_7 : Int) (keep_8 : AV) (w : AW) (K : AV → AW → Prop) : Prop :=
 gd (List.all [d_0,d_1,d_2,(.int .i64 d_3),(.bool d_4),(.int .i64 d_5),(.int .i64 d_6),(.int .i64 d_7)] okCell) (
 new w [d_0,d_1,d_2,(.int .i64 d_3),(.bool d_4),(.int .i64 d_5),(.int .i64 d_6),(.int .i64 d_7)] fun b_9 w_10 =>
 new w_10 [.nilslice,.nilslice,.nilslice,(.int .i64 0),(.bool false),(.int .i64 0),(.int .i64 0),(.int .i64 0)] fun b_11 w_12 =>
 ∃ x_13 : AV,∃ x_14 : AV,ldN 2 w_12 b_9 (0 + 0) = some (.agg [x_13,x_14]) ∧
 new w_12 [.nilslice,.nilslice] fun b_15 w_16 =>
 gd (List.all [x_13,x_14] okCell) (
 onM (AW.putCells w_16 b_15 0 [x_13,x_14]) fun w_17 =>
 loopP [(.int .i64 0)] w_17 fun R_18 l_19 w_20 => ∃ i_21 : Int,l_19 = [(.int .i64 i_21)] ∧ ∀ _ : Nat → AV,
  onM (ld w_20 b_9 (0 + 2)) fun x_22 =>
  ∃ x_23 : Int,lenS x_22 = some (.int .i64 x_23) ∧
  ifT (decide (i_21 < x_23)) (∃ x_24 : Int,lenS keep_8 = some (.int .i64 x_24) ∧
  ifT (decide (i_21 < x_24)) (atP (idxS 1 keep_8 (.int .i64 i_21)) fun b_25 o_26 =>
  ∃ x_27 : Bool,ld w_20 b_25 o_26 = some (.bool x_27) ∧
  ifT x_27 (∃ x_28 : AV,∃ x_29 : AV,ldN 2 w_20 b_15 0 = some (.agg [x_28,x_29]) ∧
  onM (ld w_20 b_9 (0 + 2)) fun x_30 =>
  atP (idxS 6 x_30 (.int .i64 i_21)) fun b_31 o_32 =>
  ∃ x_33 : Int,∃ x_34 : Int,∃ x_35 : Int,∃ x_36 : AV,∃ x_37 : List UInt8,∃ x_38 : List UInt8,ldN 6 w_20 b_31 o_32 = some (.agg [(.int .i64 x_33),(.int .i64 x_34),(.int .i64 x_35),x_36,(.str x_37),(.str x_38)]) ∧
  Cl Try.prog hk 67 [(.agg [x_28,x_29]),(.agg [(.int .i64 x_33),(.int .i64 x_34),(.int .i64 x_35),x_36,(.str x_37),(.str x_38)])] w_20 fun r_39 w_40 =>
  ∃ x_41 : AV,∃ x_42 : AV,r_39 = (.agg [x_41,x_42]) ∧
  gd (List.all [x_41,x_42] okCell) (
  onM (AW.putCells w_40 b_15 0 [x_41,x_42]) fun w_43 =>
  R_18 [(.int .i64 (wi (i_21 + 1)))] w_43))
  (R_18 [(.int .i64 (wi (i_21 + 1)))] w_20))
  (R_18 [(.int .i64 (wi (i_21 + 1)))] w_20))
  (loopP [.nilslice,(.int .i64 0)] w_20 fun R_44 l_45 w_46 => ∃ held_47 : AV,∃ i_48 : Int,l_45 = [held_47,(.int .i64 i_48)] ∧ ∀ _ : Nat → AV,
  onM (ld w_46 b_15 (0 + 1)) fun x_49 =>
  ∃ x_50 : Int,lenS x_49 = some (.int .i64 x_50) ∧
  ifT (decide (i_48 < x_50)) (loopP [held_47,(.int .i64 0)] w_46 fun R_51 l_52 w_53 => ∃ held_54 : AV,∃ k_55 : Int,l_52 = [held_54,(.int .i64 k_55)] ∧ ∀ _ : Nat → AV,
  onM (ld w_53 b_15 (0 + 0)) fun x_56 =>
  ∃ x_57 : Int,lenS x_56 = some (.int .i64 x_57) ∧
  ifT (decide (k_55 < x_57)) (onM (ld w_53 b_15 (0 + 0)) fun x_58 =>
  atP (idxS 2 x_58 (.int .i64 k_55)) fun b_59 o_60 =>
  ∃ x_61 : Int,ld w_53 b_59 (o_60 + 1) = some (.int .i64 x_61) ∧
  onM (ld w_53 b_15 (0 + 1)) fun x_62 =>
  atP (idxS 2 x_62 (.int .i64 i_48)) fun b_63 o_64 =>
  ∃ x_65 : Int,ld w_53 b_63 (o_64 + 0) = some (.int .i64 x_65) ∧
  ifT (decide (x_61 = x_65)) (onM (ld w_53 b_15 (0 + 1)) fun x_66 =>
   atP (idxS 2 x_66 (.int .i64 i_48)) fun b_67 o_68 =>
   ∃ x_69 : Int,∃ x_70 : AV,ldN 2 w_53 b_67 o_68 = some (.agg [(.int .i64 x_69),x_70]) ∧
   gd (List.all [(.int .i64 x_69),x_70] okCell) (
   new w_53 [(.int .i64 x_69),x_70] fun b_71 w_72 =>
   onE (appS 2 32 w_72 held_54 (.slice b_71 0 1 1 none)) fun held_73 w_74 =>
   R_44 [held_73,(.int .i64 (wi (i_48 + 1)))] w_74))
  (R_51 [held_54,(.int .i64 (wi (k_55 + 1)))] w_53))
  (R_44 [held_54,(.int .i64 (wi (i_48 + 1)))] w_53))
  (gd (okCell held_47) (
 onM (AW.putCells w_46 b_15 (0 + 1) [held_47]) fun w_75 =>
 ∃ x_76 : AV,∃ x_77 : AV,ldN 2 w_75 b_15 0 = some (.agg [x_76,x_77]) ∧
 ∃ x_78 : Int,ld w_75 b_9 (0 + 3) = some (.int .i64 x_78) ∧
 gd (List.all [x_76,x_77,.nilslice,(.int .i64 x_78),(.bool false),(.int .i64 (-1)),(.int .i64 (-1)),(.int .i64 0)] okCell) (
 onM (AW.putCells w_75 b_11 0 [x_76,x_77,.nilslice,(.int .i64 x_78),(.bool false),(.int .i64 (-1)),(.int .i64 (-1)),(.int .i64 0)]) fun w_79 =>
 ∃ res_80 : AV,∃ res_81 : AV,∃ res_82 : AV,∃ res_83 : Int,∃ res_84 : Bool,∃ res_85 : Int,∃ res_86 : Int,∃ res_87 : Int,ldN 8 w_79 b_11 0 = some (.agg [res_80,res_81,res_82,(.int .i64 res_83),(.bool res_84),(.int .i64 res_85),(.int .i64 res_86),(.int .i64 res_87)]) ∧
 K (.agg [res_80,res_81,res_82,(.int .i64 res_83),(.bool res_84),(.int .i64 res_85),(.int .i64 res_86),(.int .i64 res_87)]) w_79))))))
def adv38 : Adv := (.sq .lf (.sq .lf (.sq (.sq .lf (.bl (.lp [(6,.sc (.int .i64))] (.sq (.sq .lf (.cd .lf .lf)) (.sq (.bl (.sq .lf (.cd .lf .lf))) .lf))))) (.sq .lf (.sq (.sq .lf (.bl (.lp [(7,.sc (.opq)),(8,.sc (.int .i64))] (.sq (.sq .lf (.cd .lf .lf)) (.sq (.bl (.sq .lf (.bl (.lp [(7,.sc (.opq)),(9,.sc (.int .i64))] (.sq (.sq .lf (.cd .lf .lf)) (.sq (.bl (.sq .lf (.cd (.sq .lf .lf) .lf))) .lf)))))) .lf))))) (.sq .lf (.sq .lf .lf)))))))
set_option maxRecDepth 100000 in
theorem eq38 (hk : Hook) (d_0 : AV) (d_1 : AV) (d_2 : AV) (d_3 : Int) (d_4 : Bool) (d_5 : Int) (d_6 : Int) (d_7 : Int) (keep_8 : AV) (w : AW) (K : AV → AW → Prop) : fnS Try.prog hk Try.f38 adv38 [(.agg [d_0,d_1,d_2,(.int .i64 d_3),(.bool d_4),(.int .i64 d_5),(.int .i64 d_6),(.int .i64 d_7)]),keep_8] w K = F38 hk d_0 d_1 d_2 d_3 d_4 d_5 d_6 d_7 keep_8 w K := by kernel_rfl
theorem in38 {hk : Hook} {d_0 : AV} {d_1 : AV} {d_2 : AV} {d_3 : Int} {d_4 : Bool} {d_5 : Int} {d_6 : Int} {d_7 : Int} {keep_8 : AV} {w : AW} {K : AV → AW → Prop} (hn : hk 38 [(.agg [d_0,d_1,d_2,(.int .i64 d_3),(.bool d_4),(.int .i64 d_5),(.int .i64 d_6),(.int .i64 d_7)]),keep_8] w = none) (h : F38 hk d_0 d_1 d_2 d_3 d_4 d_5 d_6 d_7 keep_8 w K) : Cl Try.prog hk 38 [(.agg [d_0,d_1,d_2,(.int .i64 d_3),(.bool d_4),(.int .i64 d_5),(.int .i64 d_6),(.int .i64 d_7)]),keep_8] w K :=
 fnS_ok Try.func38 hn (by rw [eq38]; exact h)
set_option maxRecDepth 100000 in
def F57 (hk : Hook) (d_0 : AV) (d_1 : AV) (d_2 : AV) (d_3 : Int) (d_4 : Bool) (d_5 : Int) (d_6 : Int) (d_7 : Int) (s_8 : List UInt8) (at_9 : Int) (data_10 : AV) (w : AW) (K : AV → AW → Prop) : Prop :=
 gd (List.all [d_0,d_1,d_2,(.int .i64 d_3),(.bool d_4),(.int .i64 d_5),(.int .i64 d_6),(.int .i64 d_7)] okCell) (
 new w [d_0,d_1,d_2,(.int .i64 d_3),(.bool d_4),(.int .i64 d_5),(.int .i64 d_6),(.int .i64 d_7)] fun b_11 w_12 =>
 new w_12 [.nilslice,.nilslice,.nilslice,(.int .i64 0),(.bool false),(.int .i64 0),(.int .i64 0),(.int .i64 0)] fun b_13 w_14 =>
 ∃ x_15 : AV,∃ x_16 : AV,∃ x_17 : AV,∃ x_18 : Int,∃ x_19 : Bool,∃ x_20 : Int,∃ x_21 : Int,∃ x_22 : Int,ldN 8 w_14 b_11 0 = some (.agg [x_15,x_16,x_17,(.int .i64 x_18),(.bool x_19),(.int .i64 x_20),(.int .i64 x_21),(.int .i64 x_22)]) ∧
 Cl Try.prog hk 77 [(.agg [x_15,x_16,x_17,(.int .i64 x_18),(.bool x_19),(.int .i64 x_20),(.int .i64 x_21),(.int .i64 x_22)])] w_14 fun r_23 w_24 =>
 ∃ x_25 : AV,∃ x_26 : AV,r_23 = (.agg [x_25,x_26]) ∧
 new w_24 [.nilslice,.nilslice] fun b_27 w_28 =>
 gd (List.all [x_25,x_26] okCell) (
 onM (AW.putCells w_28 b_27 0 [x_25,x_26]) fun w_29 =>
 ∃ x_30 : AV,∃ x_31 : AV,ldN 2 w_29 b_27 0 = some (.agg [x_30,x_31]) ∧
 Cl Try.prog hk 78 [(.agg [x_30,x_31]),(.str s_8)] w_29 fun r_32 w_33 =>
 ∃ f_34 : Int,r_32 = (.int .i64 f_34) ∧
 Cl Try.prog hk 79 [(.str s_8)] w_33 fun r_35 w_36 =>
 ∃ x_37 : Bool,r_35 = (.bool x_37) ∧
 ifT (!x_37) (∃ x_38 : AV,∃ x_39 : AV,∃ x_40 : AV,∃ x_41 : Int,∃ x_42 : Bool,∃ x_43 : Int,∃ x_44 : Int,∃ x_45 : Int,ldN 8 w_36 b_11 0 = some (.agg [x_38,x_39,x_40,(.int .i64 x_41),(.bool x_42),(.int .i64 x_43),(.int .i64 x_44),(.int .i64 x_45)]) ∧
 gd (List.all [x_38,x_39,x_40,(.int .i64 x_41),(.bool x_42),(.int .i64 x_43),(.int .i64 x_44),(.int .i64 x_45)] okCell) (
 onM (AW.putCells w_36 b_13 0 [x_38,x_39,x_40,(.int .i64 x_41),(.bool x_42),(.int .i64 x_43),(.int .i64 x_44),(.int .i64 x_45)]) fun w_46 =>
 ∃ res_47 : AV,∃ res_48 : AV,∃ res_49 : AV,∃ res_50 : Int,∃ res_51 : Bool,∃ res_52 : Int,∃ res_53 : Int,∃ res_54 : Int,ldN 8 w_46 b_13 0 = some (.agg [res_47,res_48,res_49,(.int .i64 res_50),(.bool res_51),(.int .i64 res_52),(.int .i64 res_53),(.int .i64 res_54)]) ∧
 K (.tup [(.agg [res_47,res_48,res_49,(.int .i64 res_50),(.bool res_51),(.int .i64 res_52),(.int .i64 res_53),(.int .i64 res_54)]),(.int .i64 2)]) w_46))
 (∃ x_55 : Int,lenS data_10 = some (.int .i64 x_55) ∧
 ifT (!decide (x_55 = 64)) (∃ x_56 : AV,∃ x_57 : AV,∃ x_58 : AV,∃ x_59 : Int,∃ x_60 : Bool,∃ x_61 : Int,∃ x_62 : Int,∃ x_63 : Int,ldN 8 w_36 b_11 0 = some (.agg [x_56,x_57,x_58,(.int .i64 x_59),(.bool x_60),(.int .i64 x_61),(.int .i64 x_62),(.int .i64 x_63)]) ∧
 gd (List.all [x_56,x_57,x_58,(.int .i64 x_59),(.bool x_60),(.int .i64 x_61),(.int .i64 x_62),(.int .i64 x_63)] okCell) (
 onM (AW.putCells w_36 b_13 0 [x_56,x_57,x_58,(.int .i64 x_59),(.bool x_60),(.int .i64 x_61),(.int .i64 x_62),(.int .i64 x_63)]) fun w_64 =>
 ∃ res_65 : AV,∃ res_66 : AV,∃ res_67 : AV,∃ res_68 : Int,∃ res_69 : Bool,∃ res_70 : Int,∃ res_71 : Int,∃ res_72 : Int,ldN 8 w_64 b_13 0 = some (.agg [res_65,res_66,res_67,(.int .i64 res_68),(.bool res_69),(.int .i64 res_70),(.int .i64 res_71),(.int .i64 res_72)]) ∧
 K (.tup [(.agg [res_65,res_66,res_67,(.int .i64 res_68),(.bool res_69),(.int .i64 res_70),(.int .i64 res_71),(.int .i64 res_72)]),(.int .i64 2)]) w_64))
 (ifT (decide (at_9 < 0)) (∃ x_73 : AV,∃ x_74 : AV,∃ x_75 : AV,∃ x_76 : Int,∃ x_77 : Bool,∃ x_78 : Int,∃ x_79 : Int,∃ x_80 : Int,ldN 8 w_36 b_11 0 = some (.agg [x_73,x_74,x_75,(.int .i64 x_76),(.bool x_77),(.int .i64 x_78),(.int .i64 x_79),(.int .i64 x_80)]) ∧
 gd (List.all [x_73,x_74,x_75,(.int .i64 x_76),(.bool x_77),(.int .i64 x_78),(.int .i64 x_79),(.int .i64 x_80)] okCell) (
 onM (AW.putCells w_36 b_13 0 [x_73,x_74,x_75,(.int .i64 x_76),(.bool x_77),(.int .i64 x_78),(.int .i64 x_79),(.int .i64 x_80)]) fun w_81 =>
 ∃ res_82 : AV,∃ res_83 : AV,∃ res_84 : AV,∃ res_85 : Int,∃ res_86 : Bool,∃ res_87 : Int,∃ res_88 : Int,∃ res_89 : Int,ldN 8 w_81 b_13 0 = some (.agg [res_82,res_83,res_84,(.int .i64 res_85),(.bool res_86),(.int .i64 res_87),(.int .i64 res_88),(.int .i64 res_89)]) ∧
 K (.tup [(.agg [res_82,res_83,res_84,(.int .i64 res_85),(.bool res_86),(.int .i64 res_87),(.int .i64 res_88),(.int .i64 res_89)]),(.int .i64 2)]) w_81))
 (∃ x_90 : AV,∃ x_91 : AV,ldN 2 w_36 b_27 0 = some (.agg [x_90,x_91]) ∧
 Cl Try.prog hk 80 [(.agg [x_90,x_91]),(.int .i64 f_34)] w_36 fun r_92 w_93 =>
 ∃ x_94 : Int,lenS r_92 = some (.int .i64 x_94) ∧
 ifT (decide (x_94 < at_9)) (∃ x_95 : AV,∃ x_96 : AV,∃ x_97 : AV,∃ x_98 : Int,∃ x_99 : Bool,∃ x_100 : Int,∃ x_101 : Int,∃ x_102 : Int,ldN 8 w_93 b_11 0 = some (.agg [x_95,x_96,x_97,(.int .i64 x_98),(.bool x_99),(.int .i64 x_100),(.int .i64 x_101),(.int .i64 x_102)]) ∧
  gd (List.all [x_95,x_96,x_97,(.int .i64 x_98),(.bool x_99),(.int .i64 x_100),(.int .i64 x_101),(.int .i64 x_102)] okCell) (
  onM (AW.putCells w_93 b_13 0 [x_95,x_96,x_97,(.int .i64 x_98),(.bool x_99),(.int .i64 x_100),(.int .i64 x_101),(.int .i64 x_102)]) fun w_103 =>
  ∃ res_104 : AV,∃ res_105 : AV,∃ res_106 : AV,∃ res_107 : Int,∃ res_108 : Bool,∃ res_109 : Int,∃ res_110 : Int,∃ res_111 : Int,ldN 8 w_103 b_13 0 = some (.agg [res_104,res_105,res_106,(.int .i64 res_107),(.bool res_108),(.int .i64 res_109),(.int .i64 res_110),(.int .i64 res_111)]) ∧
 K (.tup [(.agg [res_104,res_105,res_106,(.int .i64 res_107),(.bool res_108),(.int .i64 res_109),(.int .i64 res_110),(.int .i64 res_111)]),(.int .i64 2)]) w_103))
 (join (fun l_112 w_113 => l_112 = [] ∧ ∀ _ : Nat → AV,
  Cl Try.prog hk 81 [data_10] w_113 fun r_115 w_116 =>
  gd (okCell r_115) (
  new w_116 [(.int .i64 0),(.int .i64 0),(.int .i64 0),.nilslice,(.str []),(.str [])] fun b_117 w_118 =>
  gd (List.all [(.int .i64 2),(.int .i64 f_34),(.int .i64 at_9),r_115,(.str []),(.str [])] okCell) (
  onM (AW.putCells w_118 b_117 0 [(.int .i64 2),(.int .i64 f_34),(.int .i64 at_9),r_115,(.str []),(.str [])]) fun w_119 =>
  ifT (!decide (f_34 = 0)) (∃ x_120 : AV,∃ x_121 : AV,∃ x_122 : AV,∃ x_123 : Int,∃ x_124 : Bool,∃ x_125 : Int,∃ x_126 : Int,∃ x_127 : Int,ldN 8 w_119 b_11 0 = some (.agg [x_120,x_121,x_122,(.int .i64 x_123),(.bool x_124),(.int .i64 x_125),(.int .i64 x_126),(.int .i64 x_127)]) ∧
  ∃ x_128 : Int,∃ x_129 : Int,∃ x_130 : Int,∃ x_131 : AV,∃ x_132 : List UInt8,∃ x_133 : List UInt8,ldN 6 w_119 b_117 0 = some (.agg [(.int .i64 x_128),(.int .i64 x_129),(.int .i64 x_130),x_131,(.str x_132),(.str x_133)]) ∧
  gd (List.all [(.int .i64 x_128),(.int .i64 x_129),(.int .i64 x_130),x_131,(.str x_132),(.str x_133)] okCell) (
  new w_119 [(.int .i64 x_128),(.int .i64 x_129),(.int .i64 x_130),x_131,(.str x_132),(.str x_133)] fun b_134 w_135 =>
  Cl Try.prog hk 82 [(.agg [x_120,x_121,x_122,(.int .i64 x_123),(.bool x_124),(.int .i64 x_125),(.int .i64 x_126),(.int .i64 x_127)]),(.slice b_134 0 1 1 none)] w_135 fun r_136 w_137 =>
  ∃ x_138 : AV,∃ x_139 : AV,∃ x_140 : AV,∃ x_141 : Int,∃ x_142 : Bool,∃ x_143 : Int,∃ x_144 : Int,∃ x_145 : Int,∃ x_146 : Int,r_136 = .tup [(.agg [x_138,x_139,x_140,(.int .i64 x_141),(.bool x_142),(.int .i64 x_143),(.int .i64 x_144),(.int .i64 x_145)]),(.int .i64 x_146)] ∧
  gd (List.all [x_138,x_139,x_140,(.int .i64 x_141),(.bool x_142),(.int .i64 x_143),(.int .i64 x_144),(.int .i64 x_145)] okCell) (
  onM (AW.putCells w_137 b_13 0 [x_138,x_139,x_140,(.int .i64 x_141),(.bool x_142),(.int .i64 x_143),(.int .i64 x_144),(.int .i64 x_145)]) fun w_147 =>
  ∃ res_148 : AV,∃ res_149 : AV,∃ res_150 : AV,∃ res_151 : Int,∃ res_152 : Bool,∃ res_153 : Int,∃ res_154 : Int,∃ res_155 : Int,ldN 8 w_147 b_13 0 = some (.agg [res_148,res_149,res_150,(.int .i64 res_151),(.bool res_152),(.int .i64 res_153),(.int .i64 res_154),(.int .i64 res_155)]) ∧
 K (.tup [(.agg [res_148,res_149,res_150,(.int .i64 res_151),(.bool res_152),(.int .i64 res_153),(.int .i64 res_154),(.int .i64 res_155)]),(.int .i64 x_146)]) w_147)))
  (∃ x_156 : Int,ld w_119 b_11 (0 + 3) = some (.int .i64 x_156) ∧
  onM (AW.putCells w_119 b_117 (0 + 1) [(.int .i64 (wi (x_156 + 1)))]) fun w_157 =>
  ∃ x_158 : AV,∃ x_159 : AV,∃ x_160 : AV,∃ x_161 : Int,∃ x_162 : Bool,∃ x_163 : Int,∃ x_164 : Int,∃ x_165 : Int,ldN 8 w_157 b_11 0 = some (.agg [x_158,x_159,x_160,(.int .i64 x_161),(.bool x_162),(.int .i64 x_163),(.int .i64 x_164),(.int .i64 x_165)]) ∧
  ∃ x_166 : Int,ld w_157 b_117 (0 + 1) = some (.int .i64 x_166) ∧
  ∃ x_167 : Int,∃ x_168 : Int,∃ x_169 : Int,∃ x_170 : AV,∃ x_171 : List UInt8,∃ x_172 : List UInt8,ldN 6 w_157 b_117 0 = some (.agg [(.int .i64 x_167),(.int .i64 x_168),(.int .i64 x_169),x_170,(.str x_171),(.str x_172)]) ∧
  gd (List.all [(.int .i64 x_167),(.int .i64 x_168),(.int .i64 x_169),x_170,(.str x_171),(.str x_172)] okCell) (
  new w_157 [(.int .i64 1),(.int .i64 x_166),(.int .i64 0),.nilslice,(.str s_8),(.str []),(.int .i64 x_167),(.int .i64 x_168),(.int .i64 x_169),x_170,(.str x_171),(.str x_172)] fun b_173 w_174 =>
  Cl Try.prog hk 82 [(.agg [x_158,x_159,x_160,(.int .i64 x_161),(.bool x_162),(.int .i64 x_163),(.int .i64 x_164),(.int .i64 x_165)]),(.slice b_173 0 2 2 none)] w_174 fun r_175 w_176 =>
  ∃ x_177 : AV,∃ x_178 : AV,∃ x_179 : AV,∃ x_180 : Int,∃ x_181 : Bool,∃ x_182 : Int,∃ x_183 : Int,∃ x_184 : Int,∃ x_185 : Int,r_175 = .tup [(.agg [x_177,x_178,x_179,(.int .i64 x_180),(.bool x_181),(.int .i64 x_182),(.int .i64 x_183),(.int .i64 x_184)]),(.int .i64 x_185)] ∧
  new w_176 [.nilslice,.nilslice,.nilslice,(.int .i64 0),(.bool false),(.int .i64 0),(.int .i64 0),(.int .i64 0)] fun b_186 w_187 =>
  gd (List.all [x_177,x_178,x_179,(.int .i64 x_180),(.bool x_181),(.int .i64 x_182),(.int .i64 x_183),(.int .i64 x_184)] okCell) (
  onM (AW.putCells w_187 b_186 0 [x_177,x_178,x_179,(.int .i64 x_180),(.bool x_181),(.int .i64 x_182),(.int .i64 x_183),(.int .i64 x_184)]) fun w_188 =>
  ifT (decide (x_185 = 0)) (∃ x_189 : Int,ld w_188 b_186 (0 + 3) = some (.int .i64 x_189) ∧
  onM (AW.putCells w_188 b_186 (0 + 3) [(.int .i64 (wi (x_189 + 1)))]) fun w_190 =>
  ∃ x_191 : AV,∃ x_192 : AV,∃ x_193 : AV,∃ x_194 : Int,∃ x_195 : Bool,∃ x_196 : Int,∃ x_197 : Int,∃ x_198 : Int,ldN 8 w_190 b_186 0 = some (.agg [x_191,x_192,x_193,(.int .i64 x_194),(.bool x_195),(.int .i64 x_196),(.int .i64 x_197),(.int .i64 x_198)]) ∧
  gd (List.all [x_191,x_192,x_193,(.int .i64 x_194),(.bool x_195),(.int .i64 x_196),(.int .i64 x_197),(.int .i64 x_198)] okCell) (
  onM (AW.putCells w_190 b_13 0 [x_191,x_192,x_193,(.int .i64 x_194),(.bool x_195),(.int .i64 x_196),(.int .i64 x_197),(.int .i64 x_198)]) fun w_199 =>
  ∃ res_200 : AV,∃ res_201 : AV,∃ res_202 : AV,∃ res_203 : Int,∃ res_204 : Bool,∃ res_205 : Int,∃ res_206 : Int,∃ res_207 : Int,ldN 8 w_199 b_13 0 = some (.agg [res_200,res_201,res_202,(.int .i64 res_203),(.bool res_204),(.int .i64 res_205),(.int .i64 res_206),(.int .i64 res_207)]) ∧
 K (.tup [(.agg [res_200,res_201,res_202,(.int .i64 res_203),(.bool res_204),(.int .i64 res_205),(.int .i64 res_206),(.int .i64 res_207)]),(.int .i64 x_185)]) w_199))
  (∃ x_208 : AV,∃ x_209 : AV,∃ x_210 : AV,∃ x_211 : Int,∃ x_212 : Bool,∃ x_213 : Int,∃ x_214 : Int,∃ x_215 : Int,ldN 8 w_188 b_186 0 = some (.agg [x_208,x_209,x_210,(.int .i64 x_211),(.bool x_212),(.int .i64 x_213),(.int .i64 x_214),(.int .i64 x_215)]) ∧
  gd (List.all [x_208,x_209,x_210,(.int .i64 x_211),(.bool x_212),(.int .i64 x_213),(.int .i64 x_214),(.int .i64 x_215)] okCell) (
  onM (AW.putCells w_188 b_13 0 [x_208,x_209,x_210,(.int .i64 x_211),(.bool x_212),(.int .i64 x_213),(.int .i64 x_214),(.int .i64 x_215)]) fun w_216 =>
  ∃ res_217 : AV,∃ res_218 : AV,∃ res_219 : AV,∃ res_220 : Int,∃ res_221 : Bool,∃ res_222 : Int,∃ res_223 : Int,∃ res_224 : Int,ldN 8 w_216 b_13 0 = some (.agg [res_217,res_218,res_219,(.int .i64 res_220),(.bool res_221),(.int .i64 res_222),(.int .i64 res_223),(.int .i64 res_224)]) ∧
 K (.tup [(.agg [res_217,res_218,res_219,(.int .i64 res_220),(.bool res_221),(.int .i64 res_222),(.int .i64 res_223),(.int .i64 res_224)]),(.int .i64 x_185)]) w_216)))))))) fun J_114 =>
 ifT (decide (at_9 = 4096)) (∃ x_225 : AV,∃ x_226 : AV,∃ x_227 : AV,∃ x_228 : Int,∃ x_229 : Bool,∃ x_230 : Int,∃ x_231 : Int,∃ x_232 : Int,ldN 8 w_93 b_11 0 = some (.agg [x_225,x_226,x_227,(.int .i64 x_228),(.bool x_229),(.int .i64 x_230),(.int .i64 x_231),(.int .i64 x_232)]) ∧
 gd (List.all [x_225,x_226,x_227,(.int .i64 x_228),(.bool x_229),(.int .i64 x_230),(.int .i64 x_231),(.int .i64 x_232)] okCell) (
 onM (AW.putCells w_93 b_13 0 [x_225,x_226,x_227,(.int .i64 x_228),(.bool x_229),(.int .i64 x_230),(.int .i64 x_231),(.int .i64 x_232)]) fun w_233 =>
 ∃ res_234 : AV,∃ res_235 : AV,∃ res_236 : AV,∃ res_237 : Int,∃ res_238 : Bool,∃ res_239 : Int,∃ res_240 : Int,∃ res_241 : Int,ldN 8 w_233 b_13 0 = some (.agg [res_234,res_235,res_236,(.int .i64 res_237),(.bool res_238),(.int .i64 res_239),(.int .i64 res_240),(.int .i64 res_241)]) ∧
 K (.tup [(.agg [res_234,res_235,res_236,(.int .i64 res_237),(.bool res_238),(.int .i64 res_239),(.int .i64 res_240),(.int .i64 res_241)]),(.int .i64 5)]) w_233))
 (ifT (decide (f_34 = 0)) (onM (ld w_93 b_27 (0 + 0)) fun x_242 =>
 ∃ x_243 : Int,lenS x_242 = some (.int .i64 x_243) ∧
 ifT (decide (256 ≤ x_243)) (∃ x_244 : AV,∃ x_245 : AV,∃ x_246 : AV,∃ x_247 : Int,∃ x_248 : Bool,∃ x_249 : Int,∃ x_250 : Int,∃ x_251 : Int,ldN 8 w_93 b_11 0 = some (.agg [x_244,x_245,x_246,(.int .i64 x_247),(.bool x_248),(.int .i64 x_249),(.int .i64 x_250),(.int .i64 x_251)]) ∧
  gd (List.all [x_244,x_245,x_246,(.int .i64 x_247),(.bool x_248),(.int .i64 x_249),(.int .i64 x_250),(.int .i64 x_251)] okCell) (
  onM (AW.putCells w_93 b_13 0 [x_244,x_245,x_246,(.int .i64 x_247),(.bool x_248),(.int .i64 x_249),(.int .i64 x_250),(.int .i64 x_251)]) fun w_252 =>
  ∃ res_253 : AV,∃ res_254 : AV,∃ res_255 : AV,∃ res_256 : Int,∃ res_257 : Bool,∃ res_258 : Int,∃ res_259 : Int,∃ res_260 : Int,ldN 8 w_252 b_13 0 = some (.agg [res_253,res_254,res_255,(.int .i64 res_256),(.bool res_257),(.int .i64 res_258),(.int .i64 res_259),(.int .i64 res_260)]) ∧
 K (.tup [(.agg [res_253,res_254,res_255,(.int .i64 res_256),(.bool res_257),(.int .i64 res_258),(.int .i64 res_259),(.int .i64 res_260)]),(.int .i64 5)]) w_252))
 (J_114 [] w_93))
 (J_114 [] w_93))))))))
def adv57 : Adv := (.sq .lf (.sq .lf (.sq .lf (.sq (.sq .lf (.cd (.sq .lf .lf) .lf)) (.sj [] (.sq .lf (.cd (.sq .lf .lf) .lf)) (.sq .lf (.sq (.sq .lf (.cd (.sq .lf .lf) .lf)) (.sq .lf (.sq .lf (.sq (.sq .lf (.cd .lf .lf)) (.sq .lf .lf)))))))))))
set_option maxRecDepth 100000 in
theorem eq57 (hk : Hook) (d_0 : AV) (d_1 : AV) (d_2 : AV) (d_3 : Int) (d_4 : Bool) (d_5 : Int) (d_6 : Int) (d_7 : Int) (s_8 : List UInt8) (at_9 : Int) (data_10 : AV) (w : AW) (K : AV → AW → Prop) : fnS Try.prog hk Try.f57 adv57 [(.agg [d_0,d_1,d_2,(.int .i64 d_3),(.bool d_4),(.int .i64 d_5),(.int .i64 d_6),(.int .i64 d_7)]),(.str s_8),(.int .i64 at_9),data_10] w K = F57 hk d_0 d_1 d_2 d_3 d_4 d_5 d_6 d_7 s_8 at_9 data_10 w K := by kernel_rfl
theorem in57 {hk : Hook} {d_0 : AV} {d_1 : AV} {d_2 : AV} {d_3 : Int} {d_4 : Bool} {d_5 : Int} {d_6 : Int} {d_7 : Int} {s_8 : List UInt8} {at_9 : Int} {data_10 : AV} {w : AW} {K : AV → AW → Prop} (hn : hk 57 [(.agg [d_0,d_1,d_2,(.int .i64 d_3),(.bool d_4),(.int .i64 d_5),(.int .i64 d_6),(.int .i64 d_7)]),(.str s_8),(.int .i64 at_9),data_10] w = none) (h : F57 hk d_0 d_1 d_2 d_3 d_4 d_5 d_6 d_7 s_8 at_9 data_10 w K) : Cl Try.prog hk 57 [(.agg [d_0,d_1,d_2,(.int .i64 d_3),(.bool d_4),(.int .i64 d_5),(.int .i64 d_6),(.int .i64 d_7)]),(.str s_8),(.int .i64 at_9),data_10] w K :=
 fnS_ok Try.func57 hn (by rw [eq57]; exact h)
set_option maxRecDepth 100000 in
def F58 (hk : Hook) (d_0 : AV) (d_1 : AV) (d_2 : AV) (d_3 : Int) (d_4 : Bool) (d_5 : Int) (d_6 : Int) (d_7 : Int) (s_8 : List UInt8) (sectors_9 : Int) (w : AW) (K : AV → AW → Prop) : Prop :=
 gd (List.all [d_0,d_1,d_2,(.int .i64 d_3),(.bool d_4),(.int .i64 d_5),(.int .i64 d_6),(.int .i64 d_7)] okCell) (
 new w [d_0,d_1,d_2,(.int .i64 d_3),(.bool d_4),(.int .i64 d_5),(.int .i64 d_6),(.int .i64 d_7)] fun b_10 w_11 =>
 new w_11 [.nilslice,.nilslice,.nilslice,(.int .i64 0),(.bool false),(.int .i64 0),(.int .i64 0),(.int .i64 0)] fun b_12 w_13 =>
 ∃ x_14 : AV,∃ x_15 : AV,∃ x_16 : AV,∃ x_17 : Int,∃ x_18 : Bool,∃ x_19 : Int,∃ x_20 : Int,∃ x_21 : Int,ldN 8 w_13 b_10 0 = some (.agg [x_14,x_15,x_16,(.int .i64 x_17),(.bool x_18),(.int .i64 x_19),(.int .i64 x_20),(.int .i64 x_21)]) ∧
 Cl Try.prog hk 77 [(.agg [x_14,x_15,x_16,(.int .i64 x_17),(.bool x_18),(.int .i64 x_19),(.int .i64 x_20),(.int .i64 x_21)])] w_13 fun r_22 w_23 =>
 ∃ x_24 : AV,∃ x_25 : AV,r_22 = (.agg [x_24,x_25]) ∧
 new w_23 [.nilslice,.nilslice] fun b_26 w_27 =>
 gd (List.all [x_24,x_25] okCell) (
 onM (AW.putCells w_27 b_26 0 [x_24,x_25]) fun w_28 =>
 ∃ x_29 : AV,∃ x_30 : AV,ldN 2 w_28 b_26 0 = some (.agg [x_29,x_30]) ∧
 Cl Try.prog hk 78 [(.agg [x_29,x_30]),(.str s_8)] w_28 fun r_31 w_32 =>
 ∃ f_33 : Int,r_31 = (.int .i64 f_33) ∧
 ifT (decide (f_33 = 0)) (∃ x_34 : AV,∃ x_35 : AV,∃ x_36 : AV,∃ x_37 : Int,∃ x_38 : Bool,∃ x_39 : Int,∃ x_40 : Int,∃ x_41 : Int,ldN 8 w_32 b_10 0 = some (.agg [x_34,x_35,x_36,(.int .i64 x_37),(.bool x_38),(.int .i64 x_39),(.int .i64 x_40),(.int .i64 x_41)]) ∧
  gd (List.all [x_34,x_35,x_36,(.int .i64 x_37),(.bool x_38),(.int .i64 x_39),(.int .i64 x_40),(.int .i64 x_41)] okCell) (
  onM (AW.putCells w_32 b_12 0 [x_34,x_35,x_36,(.int .i64 x_37),(.bool x_38),(.int .i64 x_39),(.int .i64 x_40),(.int .i64 x_41)]) fun w_42 =>
  ∃ res_43 : AV,∃ res_44 : AV,∃ res_45 : AV,∃ res_46 : Int,∃ res_47 : Bool,∃ res_48 : Int,∃ res_49 : Int,∃ res_50 : Int,ldN 8 w_42 b_12 0 = some (.agg [res_43,res_44,res_45,(.int .i64 res_46),(.bool res_47),(.int .i64 res_48),(.int .i64 res_49),(.int .i64 res_50)]) ∧
 K (.tup [(.agg [res_43,res_44,res_45,(.int .i64 res_46),(.bool res_47),(.int .i64 res_48),(.int .i64 res_49),(.int .i64 res_50)]),(.int .i64 70)]) w_42))
 (ifT (decide (sectors_9 < 0)) (∃ x_51 : AV,∃ x_52 : AV,∃ x_53 : AV,∃ x_54 : Int,∃ x_55 : Bool,∃ x_56 : Int,∃ x_57 : Int,∃ x_58 : Int,ldN 8 w_32 b_10 0 = some (.agg [x_51,x_52,x_53,(.int .i64 x_54),(.bool x_55),(.int .i64 x_56),(.int .i64 x_57),(.int .i64 x_58)]) ∧
 gd (List.all [x_51,x_52,x_53,(.int .i64 x_54),(.bool x_55),(.int .i64 x_56),(.int .i64 x_57),(.int .i64 x_58)] okCell) (
 onM (AW.putCells w_32 b_12 0 [x_51,x_52,x_53,(.int .i64 x_54),(.bool x_55),(.int .i64 x_56),(.int .i64 x_57),(.int .i64 x_58)]) fun w_59 =>
 ∃ res_60 : AV,∃ res_61 : AV,∃ res_62 : AV,∃ res_63 : Int,∃ res_64 : Bool,∃ res_65 : Int,∃ res_66 : Int,∃ res_67 : Int,ldN 8 w_59 b_12 0 = some (.agg [res_60,res_61,res_62,(.int .i64 res_63),(.bool res_64),(.int .i64 res_65),(.int .i64 res_66),(.int .i64 res_67)]) ∧
 K (.tup [(.agg [res_60,res_61,res_62,(.int .i64 res_63),(.bool res_64),(.int .i64 res_65),(.int .i64 res_66),(.int .i64 res_67)]),(.int .i64 2)]) w_59))
 (∃ x_68 : AV,∃ x_69 : AV,ldN 2 w_32 b_26 0 = some (.agg [x_68,x_69]) ∧
 Cl Try.prog hk 80 [(.agg [x_68,x_69]),(.int .i64 f_33)] w_32 fun r_70 w_71 =>
 ∃ x_72 : Int,lenS r_70 = some (.int .i64 x_72) ∧
 ifT (decide (x_72 < sectors_9)) (∃ x_73 : AV,∃ x_74 : AV,∃ x_75 : AV,∃ x_76 : Int,∃ x_77 : Bool,∃ x_78 : Int,∃ x_79 : Int,∃ x_80 : Int,ldN 8 w_71 b_10 0 = some (.agg [x_73,x_74,x_75,(.int .i64 x_76),(.bool x_77),(.int .i64 x_78),(.int .i64 x_79),(.int .i64 x_80)]) ∧
  gd (List.all [x_73,x_74,x_75,(.int .i64 x_76),(.bool x_77),(.int .i64 x_78),(.int .i64 x_79),(.int .i64 x_80)] okCell) (
  onM (AW.putCells w_71 b_12 0 [x_73,x_74,x_75,(.int .i64 x_76),(.bool x_77),(.int .i64 x_78),(.int .i64 x_79),(.int .i64 x_80)]) fun w_81 =>
  ∃ res_82 : AV,∃ res_83 : AV,∃ res_84 : AV,∃ res_85 : Int,∃ res_86 : Bool,∃ res_87 : Int,∃ res_88 : Int,∃ res_89 : Int,ldN 8 w_81 b_12 0 = some (.agg [res_82,res_83,res_84,(.int .i64 res_85),(.bool res_86),(.int .i64 res_87),(.int .i64 res_88),(.int .i64 res_89)]) ∧
 K (.tup [(.agg [res_82,res_83,res_84,(.int .i64 res_85),(.bool res_86),(.int .i64 res_87),(.int .i64 res_88),(.int .i64 res_89)]),(.int .i64 2)]) w_81))
 (∃ x_90 : AV,∃ x_91 : AV,∃ x_92 : AV,∃ x_93 : Int,∃ x_94 : Bool,∃ x_95 : Int,∃ x_96 : Int,∃ x_97 : Int,ldN 8 w_71 b_10 0 = some (.agg [x_90,x_91,x_92,(.int .i64 x_93),(.bool x_94),(.int .i64 x_95),(.int .i64 x_96),(.int .i64 x_97)]) ∧
 new w_71 [(.int .i64 3),(.int .i64 f_33),(.int .i64 sectors_9),.nilslice,(.str []),(.str [])] fun b_98 w_99 =>
 Cl Try.prog hk 82 [(.agg [x_90,x_91,x_92,(.int .i64 x_93),(.bool x_94),(.int .i64 x_95),(.int .i64 x_96),(.int .i64 x_97)]),(.slice b_98 0 1 1 none)] w_99 fun r_100 w_101 =>
 ∃ x_102 : AV,∃ x_103 : AV,∃ x_104 : AV,∃ x_105 : Int,∃ x_106 : Bool,∃ x_107 : Int,∃ x_108 : Int,∃ x_109 : Int,∃ x_110 : Int,r_100 = .tup [(.agg [x_102,x_103,x_104,(.int .i64 x_105),(.bool x_106),(.int .i64 x_107),(.int .i64 x_108),(.int .i64 x_109)]),(.int .i64 x_110)] ∧
 gd (List.all [x_102,x_103,x_104,(.int .i64 x_105),(.bool x_106),(.int .i64 x_107),(.int .i64 x_108),(.int .i64 x_109)] okCell) (
 onM (AW.putCells w_101 b_12 0 [x_102,x_103,x_104,(.int .i64 x_105),(.bool x_106),(.int .i64 x_107),(.int .i64 x_108),(.int .i64 x_109)]) fun w_111 =>
 ∃ res_112 : AV,∃ res_113 : AV,∃ res_114 : AV,∃ res_115 : Int,∃ res_116 : Bool,∃ res_117 : Int,∃ res_118 : Int,∃ res_119 : Int,ldN 8 w_111 b_12 0 = some (.agg [res_112,res_113,res_114,(.int .i64 res_115),(.bool res_116),(.int .i64 res_117),(.int .i64 res_118),(.int .i64 res_119)]) ∧
 K (.tup [(.agg [res_112,res_113,res_114,(.int .i64 res_115),(.bool res_116),(.int .i64 res_117),(.int .i64 res_118),(.int .i64 res_119)]),(.int .i64 x_110)]) w_111))))))
def adv58 : Adv := (.sq .lf (.sq .lf (.sq .lf (.sq (.sq .lf (.cd (.sq .lf .lf) .lf)) (.sq (.sq .lf (.cd (.sq .lf .lf) .lf)) (.sq .lf .lf))))))
set_option maxRecDepth 100000 in
theorem eq58 (hk : Hook) (d_0 : AV) (d_1 : AV) (d_2 : AV) (d_3 : Int) (d_4 : Bool) (d_5 : Int) (d_6 : Int) (d_7 : Int) (s_8 : List UInt8) (sectors_9 : Int) (w : AW) (K : AV → AW → Prop) : fnS Try.prog hk Try.f58 adv58 [(.agg [d_0,d_1,d_2,(.int .i64 d_3),(.bool d_4),(.int .i64 d_5),(.int .i64 d_6),(.int .i64 d_7)]),(.str s_8),(.int .i64 sectors_9)] w K = F58 hk d_0 d_1 d_2 d_3 d_4 d_5 d_6 d_7 s_8 sectors_9 w K := by kernel_rfl
theorem in58 {hk : Hook} {d_0 : AV} {d_1 : AV} {d_2 : AV} {d_3 : Int} {d_4 : Bool} {d_5 : Int} {d_6 : Int} {d_7 : Int} {s_8 : List UInt8} {sectors_9 : Int} {w : AW} {K : AV → AW → Prop} (hn : hk 58 [(.agg [d_0,d_1,d_2,(.int .i64 d_3),(.bool d_4),(.int .i64 d_5),(.int .i64 d_6),(.int .i64 d_7)]),(.str s_8),(.int .i64 sectors_9)] w = none) (h : F58 hk d_0 d_1 d_2 d_3 d_4 d_5 d_6 d_7 s_8 sectors_9 w K) : Cl Try.prog hk 58 [(.agg [d_0,d_1,d_2,(.int .i64 d_3),(.bool d_4),(.int .i64 d_5),(.int .i64 d_6),(.int .i64 d_7)]),(.str s_8),(.int .i64 sectors_9)] w K :=
 fnS_ok Try.func58 hn (by rw [eq58]; exact h)
set_option maxRecDepth 100000 in
def F59 (hk : Hook) (d_0 : AV) (d_1 : AV) (d_2 : AV) (d_3 : Int) (d_4 : Bool) (d_5 : Int) (d_6 : Int) (d_7 : Int) (from_8 : List UInt8) (to_9 : List UInt8) (w : AW) (K : AV → AW → Prop) : Prop :=
 gd (List.all [d_0,d_1,d_2,(.int .i64 d_3),(.bool d_4),(.int .i64 d_5),(.int .i64 d_6),(.int .i64 d_7)] okCell) (
 new w [d_0,d_1,d_2,(.int .i64 d_3),(.bool d_4),(.int .i64 d_5),(.int .i64 d_6),(.int .i64 d_7)] fun b_10 w_11 =>
 new w_11 [.nilslice,.nilslice,.nilslice,(.int .i64 0),(.bool false),(.int .i64 0),(.int .i64 0),(.int .i64 0)] fun b_12 w_13 =>
 Cl Try.prog hk 79 [(.str to_9)] w_13 fun r_14 w_15 =>
 ∃ x_16 : Bool,r_14 = (.bool x_16) ∧
 ifT (!x_16) (∃ x_17 : AV,∃ x_18 : AV,∃ x_19 : AV,∃ x_20 : Int,∃ x_21 : Bool,∃ x_22 : Int,∃ x_23 : Int,∃ x_24 : Int,ldN 8 w_15 b_10 0 = some (.agg [x_17,x_18,x_19,(.int .i64 x_20),(.bool x_21),(.int .i64 x_22),(.int .i64 x_23),(.int .i64 x_24)]) ∧
  gd (List.all [x_17,x_18,x_19,(.int .i64 x_20),(.bool x_21),(.int .i64 x_22),(.int .i64 x_23),(.int .i64 x_24)] okCell) (
  onM (AW.putCells w_15 b_12 0 [x_17,x_18,x_19,(.int .i64 x_20),(.bool x_21),(.int .i64 x_22),(.int .i64 x_23),(.int .i64 x_24)]) fun w_25 =>
  ∃ res_26 : AV,∃ res_27 : AV,∃ res_28 : AV,∃ res_29 : Int,∃ res_30 : Bool,∃ res_31 : Int,∃ res_32 : Int,∃ res_33 : Int,ldN 8 w_25 b_12 0 = some (.agg [res_26,res_27,res_28,(.int .i64 res_29),(.bool res_30),(.int .i64 res_31),(.int .i64 res_32),(.int .i64 res_33)]) ∧
 K (.tup [(.agg [res_26,res_27,res_28,(.int .i64 res_29),(.bool res_30),(.int .i64 res_31),(.int .i64 res_32),(.int .i64 res_33)]),(.int .i64 2)]) w_25))
 (∃ x_34 : AV,∃ x_35 : AV,∃ x_36 : AV,∃ x_37 : Int,∃ x_38 : Bool,∃ x_39 : Int,∃ x_40 : Int,∃ x_41 : Int,ldN 8 w_15 b_10 0 = some (.agg [x_34,x_35,x_36,(.int .i64 x_37),(.bool x_38),(.int .i64 x_39),(.int .i64 x_40),(.int .i64 x_41)]) ∧
 Cl Try.prog hk 77 [(.agg [x_34,x_35,x_36,(.int .i64 x_37),(.bool x_38),(.int .i64 x_39),(.int .i64 x_40),(.int .i64 x_41)])] w_15 fun r_42 w_43 =>
 ∃ x_44 : AV,∃ x_45 : AV,r_42 = (.agg [x_44,x_45]) ∧
 Cl Try.prog hk 78 [(.agg [x_44,x_45]),(.str from_8)] w_43 fun r_46 w_47 =>
 ∃ f_48 : Int,r_46 = (.int .i64 f_48) ∧
 ifT (decide (f_48 = 0)) (∃ x_49 : AV,∃ x_50 : AV,∃ x_51 : AV,∃ x_52 : Int,∃ x_53 : Bool,∃ x_54 : Int,∃ x_55 : Int,∃ x_56 : Int,ldN 8 w_47 b_10 0 = some (.agg [x_49,x_50,x_51,(.int .i64 x_52),(.bool x_53),(.int .i64 x_54),(.int .i64 x_55),(.int .i64 x_56)]) ∧
  gd (List.all [x_49,x_50,x_51,(.int .i64 x_52),(.bool x_53),(.int .i64 x_54),(.int .i64 x_55),(.int .i64 x_56)] okCell) (
  onM (AW.putCells w_47 b_12 0 [x_49,x_50,x_51,(.int .i64 x_52),(.bool x_53),(.int .i64 x_54),(.int .i64 x_55),(.int .i64 x_56)]) fun w_57 =>
  ∃ res_58 : AV,∃ res_59 : AV,∃ res_60 : AV,∃ res_61 : Int,∃ res_62 : Bool,∃ res_63 : Int,∃ res_64 : Int,∃ res_65 : Int,ldN 8 w_57 b_12 0 = some (.agg [res_58,res_59,res_60,(.int .i64 res_61),(.bool res_62),(.int .i64 res_63),(.int .i64 res_64),(.int .i64 res_65)]) ∧
 K (.tup [(.agg [res_58,res_59,res_60,(.int .i64 res_61),(.bool res_62),(.int .i64 res_63),(.int .i64 res_64),(.int .i64 res_65)]),(.int .i64 70)]) w_57))
 (ifT (from_8 == to_9) (∃ x_66 : AV,∃ x_67 : AV,∃ x_68 : AV,∃ x_69 : Int,∃ x_70 : Bool,∃ x_71 : Int,∃ x_72 : Int,∃ x_73 : Int,ldN 8 w_47 b_10 0 = some (.agg [x_66,x_67,x_68,(.int .i64 x_69),(.bool x_70),(.int .i64 x_71),(.int .i64 x_72),(.int .i64 x_73)]) ∧
  Cl Try.prog hk 82 [(.agg [x_66,x_67,x_68,(.int .i64 x_69),(.bool x_70),(.int .i64 x_71),(.int .i64 x_72),(.int .i64 x_73)]),.nilslice] w_47 fun r_74 w_75 =>
  ∃ x_76 : AV,∃ x_77 : AV,∃ x_78 : AV,∃ x_79 : Int,∃ x_80 : Bool,∃ x_81 : Int,∃ x_82 : Int,∃ x_83 : Int,∃ x_84 : Int,r_74 = .tup [(.agg [x_76,x_77,x_78,(.int .i64 x_79),(.bool x_80),(.int .i64 x_81),(.int .i64 x_82),(.int .i64 x_83)]),(.int .i64 x_84)] ∧
  gd (List.all [x_76,x_77,x_78,(.int .i64 x_79),(.bool x_80),(.int .i64 x_81),(.int .i64 x_82),(.int .i64 x_83)] okCell) (
  onM (AW.putCells w_75 b_12 0 [x_76,x_77,x_78,(.int .i64 x_79),(.bool x_80),(.int .i64 x_81),(.int .i64 x_82),(.int .i64 x_83)]) fun w_85 =>
  ∃ res_86 : AV,∃ res_87 : AV,∃ res_88 : AV,∃ res_89 : Int,∃ res_90 : Bool,∃ res_91 : Int,∃ res_92 : Int,∃ res_93 : Int,ldN 8 w_85 b_12 0 = some (.agg [res_86,res_87,res_88,(.int .i64 res_89),(.bool res_90),(.int .i64 res_91),(.int .i64 res_92),(.int .i64 res_93)]) ∧
 K (.tup [(.agg [res_86,res_87,res_88,(.int .i64 res_89),(.bool res_90),(.int .i64 res_91),(.int .i64 res_92),(.int .i64 res_93)]),(.int .i64 x_84)]) w_85))
 (∃ x_94 : AV,∃ x_95 : AV,∃ x_96 : AV,∃ x_97 : Int,∃ x_98 : Bool,∃ x_99 : Int,∃ x_100 : Int,∃ x_101 : Int,ldN 8 w_47 b_10 0 = some (.agg [x_94,x_95,x_96,(.int .i64 x_97),(.bool x_98),(.int .i64 x_99),(.int .i64 x_100),(.int .i64 x_101)]) ∧
 new w_47 [(.int .i64 4),(.int .i64 f_48),(.int .i64 0),.nilslice,(.str from_8),(.str to_9)] fun b_102 w_103 =>
 Cl Try.prog hk 82 [(.agg [x_94,x_95,x_96,(.int .i64 x_97),(.bool x_98),(.int .i64 x_99),(.int .i64 x_100),(.int .i64 x_101)]),(.slice b_102 0 1 1 none)] w_103 fun r_104 w_105 =>
 ∃ x_106 : AV,∃ x_107 : AV,∃ x_108 : AV,∃ x_109 : Int,∃ x_110 : Bool,∃ x_111 : Int,∃ x_112 : Int,∃ x_113 : Int,∃ x_114 : Int,r_104 = .tup [(.agg [x_106,x_107,x_108,(.int .i64 x_109),(.bool x_110),(.int .i64 x_111),(.int .i64 x_112),(.int .i64 x_113)]),(.int .i64 x_114)] ∧
 gd (List.all [x_106,x_107,x_108,(.int .i64 x_109),(.bool x_110),(.int .i64 x_111),(.int .i64 x_112),(.int .i64 x_113)] okCell) (
 onM (AW.putCells w_105 b_12 0 [x_106,x_107,x_108,(.int .i64 x_109),(.bool x_110),(.int .i64 x_111),(.int .i64 x_112),(.int .i64 x_113)]) fun w_115 =>
 ∃ res_116 : AV,∃ res_117 : AV,∃ res_118 : AV,∃ res_119 : Int,∃ res_120 : Bool,∃ res_121 : Int,∃ res_122 : Int,∃ res_123 : Int,ldN 8 w_115 b_12 0 = some (.agg [res_116,res_117,res_118,(.int .i64 res_119),(.bool res_120),(.int .i64 res_121),(.int .i64 res_122),(.int .i64 res_123)]) ∧
 K (.tup [(.agg [res_116,res_117,res_118,(.int .i64 res_119),(.bool res_120),(.int .i64 res_121),(.int .i64 res_122),(.int .i64 res_123)]),(.int .i64 x_114)]) w_115)))))
def adv59 : Adv := (.sq .lf (.sq (.sq .lf (.cd (.sq .lf .lf) .lf)) (.sq .lf (.sq (.sq .lf (.cd (.sq .lf .lf) .lf)) (.sq (.sq .lf (.cd (.sq .lf .lf) .lf)) (.sq .lf .lf))))))
set_option maxRecDepth 100000 in
theorem eq59 (hk : Hook) (d_0 : AV) (d_1 : AV) (d_2 : AV) (d_3 : Int) (d_4 : Bool) (d_5 : Int) (d_6 : Int) (d_7 : Int) (from_8 : List UInt8) (to_9 : List UInt8) (w : AW) (K : AV → AW → Prop) : fnS Try.prog hk Try.f59 adv59 [(.agg [d_0,d_1,d_2,(.int .i64 d_3),(.bool d_4),(.int .i64 d_5),(.int .i64 d_6),(.int .i64 d_7)]),(.str from_8),(.str to_9)] w K = F59 hk d_0 d_1 d_2 d_3 d_4 d_5 d_6 d_7 from_8 to_9 w K := by kernel_rfl
theorem in59 {hk : Hook} {d_0 : AV} {d_1 : AV} {d_2 : AV} {d_3 : Int} {d_4 : Bool} {d_5 : Int} {d_6 : Int} {d_7 : Int} {from_8 : List UInt8} {to_9 : List UInt8} {w : AW} {K : AV → AW → Prop} (hn : hk 59 [(.agg [d_0,d_1,d_2,(.int .i64 d_3),(.bool d_4),(.int .i64 d_5),(.int .i64 d_6),(.int .i64 d_7)]),(.str from_8),(.str to_9)] w = none) (h : F59 hk d_0 d_1 d_2 d_3 d_4 d_5 d_6 d_7 from_8 to_9 w K) : Cl Try.prog hk 59 [(.agg [d_0,d_1,d_2,(.int .i64 d_3),(.bool d_4),(.int .i64 d_5),(.int .i64 d_6),(.int .i64 d_7)]),(.str from_8),(.str to_9)] w K :=
 fnS_ok Try.func59 hn (by rw [eq59]; exact h)
def F60 (hk : Hook) (d_0 : AV) (d_1 : AV) (d_2 : AV) (d_3 : Int) (d_4 : Bool) (d_5 : Int) (d_6 : Int) (d_7 : Int) (s_8 : List UInt8) (w : AW) (K : AV → AW → Prop) : Prop :=
 gd (List.all [d_0,d_1,d_2,(.int .i64 d_3),(.bool d_4),(.int .i64 d_5),(.int .i64 d_6),(.int .i64 d_7)] okCell) (
 new w [d_0,d_1,d_2,(.int .i64 d_3),(.bool d_4),(.int .i64 d_5),(.int .i64 d_6),(.int .i64 d_7)] fun b_9 w_10 =>
 new w_10 [.nilslice,.nilslice,.nilslice,(.int .i64 0),(.bool false),(.int .i64 0),(.int .i64 0),(.int .i64 0)] fun b_11 w_12 =>
 ∃ x_13 : AV,∃ x_14 : AV,∃ x_15 : AV,∃ x_16 : Int,∃ x_17 : Bool,∃ x_18 : Int,∃ x_19 : Int,∃ x_20 : Int,ldN 8 w_12 b_9 0 = some (.agg [x_13,x_14,x_15,(.int .i64 x_16),(.bool x_17),(.int .i64 x_18),(.int .i64 x_19),(.int .i64 x_20)]) ∧
 Cl Try.prog hk 77 [(.agg [x_13,x_14,x_15,(.int .i64 x_16),(.bool x_17),(.int .i64 x_18),(.int .i64 x_19),(.int .i64 x_20)])] w_12 fun r_21 w_22 =>
 ∃ x_23 : AV,∃ x_24 : AV,r_21 = (.agg [x_23,x_24]) ∧
 Cl Try.prog hk 78 [(.agg [x_23,x_24]),(.str s_8)] w_22 fun r_25 w_26 =>
 ∃ f_27 : Int,r_25 = (.int .i64 f_27) ∧
 ifT (decide (f_27 = 0)) (∃ x_28 : AV,∃ x_29 : AV,∃ x_30 : AV,∃ x_31 : Int,∃ x_32 : Bool,∃ x_33 : Int,∃ x_34 : Int,∃ x_35 : Int,ldN 8 w_26 b_9 0 = some (.agg [x_28,x_29,x_30,(.int .i64 x_31),(.bool x_32),(.int .i64 x_33),(.int .i64 x_34),(.int .i64 x_35)]) ∧
  gd (List.all [x_28,x_29,x_30,(.int .i64 x_31),(.bool x_32),(.int .i64 x_33),(.int .i64 x_34),(.int .i64 x_35)] okCell) (
  onM (AW.putCells w_26 b_11 0 [x_28,x_29,x_30,(.int .i64 x_31),(.bool x_32),(.int .i64 x_33),(.int .i64 x_34),(.int .i64 x_35)]) fun w_36 =>
  ∃ res_37 : AV,∃ res_38 : AV,∃ res_39 : AV,∃ res_40 : Int,∃ res_41 : Bool,∃ res_42 : Int,∃ res_43 : Int,∃ res_44 : Int,ldN 8 w_36 b_11 0 = some (.agg [res_37,res_38,res_39,(.int .i64 res_40),(.bool res_41),(.int .i64 res_42),(.int .i64 res_43),(.int .i64 res_44)]) ∧
 K (.tup [(.agg [res_37,res_38,res_39,(.int .i64 res_40),(.bool res_41),(.int .i64 res_42),(.int .i64 res_43),(.int .i64 res_44)]),(.int .i64 70)]) w_36))
 (∃ x_45 : AV,∃ x_46 : AV,∃ x_47 : AV,∃ x_48 : Int,∃ x_49 : Bool,∃ x_50 : Int,∃ x_51 : Int,∃ x_52 : Int,ldN 8 w_26 b_9 0 = some (.agg [x_45,x_46,x_47,(.int .i64 x_48),(.bool x_49),(.int .i64 x_50),(.int .i64 x_51),(.int .i64 x_52)]) ∧
 new w_26 [(.int .i64 5),(.int .i64 f_27),(.int .i64 0),.nilslice,(.str s_8),(.str [])] fun b_53 w_54 =>
 Cl Try.prog hk 82 [(.agg [x_45,x_46,x_47,(.int .i64 x_48),(.bool x_49),(.int .i64 x_50),(.int .i64 x_51),(.int .i64 x_52)]),(.slice b_53 0 1 1 none)] w_54 fun r_55 w_56 =>
 ∃ x_57 : AV,∃ x_58 : AV,∃ x_59 : AV,∃ x_60 : Int,∃ x_61 : Bool,∃ x_62 : Int,∃ x_63 : Int,∃ x_64 : Int,∃ x_65 : Int,r_55 = .tup [(.agg [x_57,x_58,x_59,(.int .i64 x_60),(.bool x_61),(.int .i64 x_62),(.int .i64 x_63),(.int .i64 x_64)]),(.int .i64 x_65)] ∧
 gd (List.all [x_57,x_58,x_59,(.int .i64 x_60),(.bool x_61),(.int .i64 x_62),(.int .i64 x_63),(.int .i64 x_64)] okCell) (
 onM (AW.putCells w_56 b_11 0 [x_57,x_58,x_59,(.int .i64 x_60),(.bool x_61),(.int .i64 x_62),(.int .i64 x_63),(.int .i64 x_64)]) fun w_66 =>
 ∃ res_67 : AV,∃ res_68 : AV,∃ res_69 : AV,∃ res_70 : Int,∃ res_71 : Bool,∃ res_72 : Int,∃ res_73 : Int,∃ res_74 : Int,ldN 8 w_66 b_11 0 = some (.agg [res_67,res_68,res_69,(.int .i64 res_70),(.bool res_71),(.int .i64 res_72),(.int .i64 res_73),(.int .i64 res_74)]) ∧
 K (.tup [(.agg [res_67,res_68,res_69,(.int .i64 res_70),(.bool res_71),(.int .i64 res_72),(.int .i64 res_73),(.int .i64 res_74)]),(.int .i64 x_65)]) w_66)))
def adv60 : Adv := (.sq .lf (.sq .lf (.sq (.sq .lf (.cd (.sq .lf .lf) .lf)) (.sq .lf .lf))))
set_option maxRecDepth 100000 in
theorem eq60 (hk : Hook) (d_0 : AV) (d_1 : AV) (d_2 : AV) (d_3 : Int) (d_4 : Bool) (d_5 : Int) (d_6 : Int) (d_7 : Int) (s_8 : List UInt8) (w : AW) (K : AV → AW → Prop) : fnS Try.prog hk Try.f60 adv60 [(.agg [d_0,d_1,d_2,(.int .i64 d_3),(.bool d_4),(.int .i64 d_5),(.int .i64 d_6),(.int .i64 d_7)]),(.str s_8)] w K = F60 hk d_0 d_1 d_2 d_3 d_4 d_5 d_6 d_7 s_8 w K := by kernel_rfl
theorem in60 {hk : Hook} {d_0 : AV} {d_1 : AV} {d_2 : AV} {d_3 : Int} {d_4 : Bool} {d_5 : Int} {d_6 : Int} {d_7 : Int} {s_8 : List UInt8} {w : AW} {K : AV → AW → Prop} (hn : hk 60 [(.agg [d_0,d_1,d_2,(.int .i64 d_3),(.bool d_4),(.int .i64 d_5),(.int .i64 d_6),(.int .i64 d_7)]),(.str s_8)] w = none) (h : F60 hk d_0 d_1 d_2 d_3 d_4 d_5 d_6 d_7 s_8 w K) : Cl Try.prog hk 60 [(.agg [d_0,d_1,d_2,(.int .i64 d_3),(.bool d_4),(.int .i64 d_5),(.int .i64 d_6),(.int .i64 d_7)]),(.str s_8)] w K :=
 fnS_ok Try.func60 hn (by rw [eq60]; exact h)
def F61 (hk : Hook) (d_0 : AV) (d_1 : AV) (d_2 : AV) (d_3 : Int) (d_4 : Bool) (d_5 : Int) (d_6 : Int) (d_7 : Int) (s_8 : List UInt8) (w : AW) (K : AV → AW → Prop) : Prop :=
 gd (List.all [d_0,d_1,d_2,(.int .i64 d_3),(.bool d_4),(.int .i64 d_5),(.int .i64 d_6),(.int .i64 d_7)] okCell) (
 new w [d_0,d_1,d_2,(.int .i64 d_3),(.bool d_4),(.int .i64 d_5),(.int .i64 d_6),(.int .i64 d_7)] fun b_9 w_10 =>
 new w_10 [.nilslice,.nilslice,.nilslice,(.int .i64 0),(.bool false),(.int .i64 0),(.int .i64 0),(.int .i64 0)] fun b_11 w_12 =>
 ∃ x_13 : AV,∃ x_14 : AV,∃ x_15 : AV,∃ x_16 : Int,∃ x_17 : Bool,∃ x_18 : Int,∃ x_19 : Int,∃ x_20 : Int,ldN 8 w_12 b_9 0 = some (.agg [x_13,x_14,x_15,(.int .i64 x_16),(.bool x_17),(.int .i64 x_18),(.int .i64 x_19),(.int .i64 x_20)]) ∧
 Cl Try.prog hk 77 [(.agg [x_13,x_14,x_15,(.int .i64 x_16),(.bool x_17),(.int .i64 x_18),(.int .i64 x_19),(.int .i64 x_20)])] w_12 fun r_21 w_22 =>
 ∃ x_23 : AV,∃ x_24 : AV,r_21 = (.agg [x_23,x_24]) ∧
 Cl Try.prog hk 78 [(.agg [x_23,x_24]),(.str s_8)] w_22 fun r_25 w_26 =>
 ∃ f_27 : Int,r_25 = (.int .i64 f_27) ∧
 ifT (decide (f_27 = 0)) (∃ x_28 : AV,∃ x_29 : AV,∃ x_30 : AV,∃ x_31 : Int,∃ x_32 : Bool,∃ x_33 : Int,∃ x_34 : Int,∃ x_35 : Int,ldN 8 w_26 b_9 0 = some (.agg [x_28,x_29,x_30,(.int .i64 x_31),(.bool x_32),(.int .i64 x_33),(.int .i64 x_34),(.int .i64 x_35)]) ∧
  gd (List.all [x_28,x_29,x_30,(.int .i64 x_31),(.bool x_32),(.int .i64 x_33),(.int .i64 x_34),(.int .i64 x_35)] okCell) (
  onM (AW.putCells w_26 b_11 0 [x_28,x_29,x_30,(.int .i64 x_31),(.bool x_32),(.int .i64 x_33),(.int .i64 x_34),(.int .i64 x_35)]) fun w_36 =>
  ∃ res_37 : AV,∃ res_38 : AV,∃ res_39 : AV,∃ res_40 : Int,∃ res_41 : Bool,∃ res_42 : Int,∃ res_43 : Int,∃ res_44 : Int,ldN 8 w_36 b_11 0 = some (.agg [res_37,res_38,res_39,(.int .i64 res_40),(.bool res_41),(.int .i64 res_42),(.int .i64 res_43),(.int .i64 res_44)]) ∧
 K (.tup [(.agg [res_37,res_38,res_39,(.int .i64 res_40),(.bool res_41),(.int .i64 res_42),(.int .i64 res_43),(.int .i64 res_44)]),(.int .i64 70)]) w_36))
 (∃ x_45 : AV,∃ x_46 : AV,∃ x_47 : AV,∃ x_48 : Int,∃ x_49 : Bool,∃ x_50 : Int,∃ x_51 : Int,∃ x_52 : Int,ldN 8 w_26 b_9 0 = some (.agg [x_45,x_46,x_47,(.int .i64 x_48),(.bool x_49),(.int .i64 x_50),(.int .i64 x_51),(.int .i64 x_52)]) ∧
 Cl Try.prog hk 83 [(.agg [x_45,x_46,x_47,(.int .i64 x_48),(.bool x_49),(.int .i64 x_50),(.int .i64 x_51),(.int .i64 x_52)]),(.int .i64 f_27)] w_26 fun r_53 w_54 =>
 ∃ x_55 : AV,∃ x_56 : AV,∃ x_57 : AV,∃ x_58 : Int,∃ x_59 : Bool,∃ x_60 : Int,∃ x_61 : Int,∃ x_62 : Int,∃ x_63 : Int,r_53 = .tup [(.agg [x_55,x_56,x_57,(.int .i64 x_58),(.bool x_59),(.int .i64 x_60),(.int .i64 x_61),(.int .i64 x_62)]),(.int .i64 x_63)] ∧
 gd (List.all [x_55,x_56,x_57,(.int .i64 x_58),(.bool x_59),(.int .i64 x_60),(.int .i64 x_61),(.int .i64 x_62)] okCell) (
 onM (AW.putCells w_54 b_11 0 [x_55,x_56,x_57,(.int .i64 x_58),(.bool x_59),(.int .i64 x_60),(.int .i64 x_61),(.int .i64 x_62)]) fun w_64 =>
 ∃ res_65 : AV,∃ res_66 : AV,∃ res_67 : AV,∃ res_68 : Int,∃ res_69 : Bool,∃ res_70 : Int,∃ res_71 : Int,∃ res_72 : Int,ldN 8 w_64 b_11 0 = some (.agg [res_65,res_66,res_67,(.int .i64 res_68),(.bool res_69),(.int .i64 res_70),(.int .i64 res_71),(.int .i64 res_72)]) ∧
 K (.tup [(.agg [res_65,res_66,res_67,(.int .i64 res_68),(.bool res_69),(.int .i64 res_70),(.int .i64 res_71),(.int .i64 res_72)]),(.int .i64 x_63)]) w_64)))
def adv61 : Adv := (.sq .lf (.sq .lf (.sq (.sq .lf (.cd (.sq .lf .lf) .lf)) (.sq .lf .lf))))
set_option maxRecDepth 100000 in
theorem eq61 (hk : Hook) (d_0 : AV) (d_1 : AV) (d_2 : AV) (d_3 : Int) (d_4 : Bool) (d_5 : Int) (d_6 : Int) (d_7 : Int) (s_8 : List UInt8) (w : AW) (K : AV → AW → Prop) : fnS Try.prog hk Try.f61 adv61 [(.agg [d_0,d_1,d_2,(.int .i64 d_3),(.bool d_4),(.int .i64 d_5),(.int .i64 d_6),(.int .i64 d_7)]),(.str s_8)] w K = F61 hk d_0 d_1 d_2 d_3 d_4 d_5 d_6 d_7 s_8 w K := by kernel_rfl
theorem in61 {hk : Hook} {d_0 : AV} {d_1 : AV} {d_2 : AV} {d_3 : Int} {d_4 : Bool} {d_5 : Int} {d_6 : Int} {d_7 : Int} {s_8 : List UInt8} {w : AW} {K : AV → AW → Prop} (hn : hk 61 [(.agg [d_0,d_1,d_2,(.int .i64 d_3),(.bool d_4),(.int .i64 d_5),(.int .i64 d_6),(.int .i64 d_7)]),(.str s_8)] w = none) (h : F61 hk d_0 d_1 d_2 d_3 d_4 d_5 d_6 d_7 s_8 w K) : Cl Try.prog hk 61 [(.agg [d_0,d_1,d_2,(.int .i64 d_3),(.bool d_4),(.int .i64 d_5),(.int .i64 d_6),(.int .i64 d_7)]),(.str s_8)] w K :=
 fnS_ok Try.func61 hn (by rw [eq61]; exact h)
def F62 (hk : Hook) (d_0 : AV) (d_1 : AV) (d_2 : AV) (d_3 : Int) (d_4 : Bool) (d_5 : Int) (d_6 : Int) (d_7 : Int) (w : AW) (K : AV → AW → Prop) : Prop :=
 gd (List.all [d_0,d_1,d_2,(.int .i64 d_3),(.bool d_4),(.int .i64 d_5),(.int .i64 d_6),(.int .i64 d_7)] okCell) (
 new w [d_0,d_1,d_2,(.int .i64 d_3),(.bool d_4),(.int .i64 d_5),(.int .i64 d_6),(.int .i64 d_7)] fun b_8 w_9 =>
 new w_9 [.nilslice,.nilslice,.nilslice,(.int .i64 0),(.bool false),(.int .i64 0),(.int .i64 0),(.int .i64 0)] fun b_10 w_11 =>
 ∃ x_12 : AV,∃ x_13 : AV,∃ x_14 : AV,∃ x_15 : Int,∃ x_16 : Bool,∃ x_17 : Int,∃ x_18 : Int,∃ x_19 : Int,ldN 8 w_11 b_8 0 = some (.agg [x_12,x_13,x_14,(.int .i64 x_15),(.bool x_16),(.int .i64 x_17),(.int .i64 x_18),(.int .i64 x_19)]) ∧
 Cl Try.prog hk 83 [(.agg [x_12,x_13,x_14,(.int .i64 x_15),(.bool x_16),(.int .i64 x_17),(.int .i64 x_18),(.int .i64 x_19)]),(.int .i64 0)] w_11 fun r_20 w_21 =>
 ∃ x_22 : AV,∃ x_23 : AV,∃ x_24 : AV,∃ x_25 : Int,∃ x_26 : Bool,∃ x_27 : Int,∃ x_28 : Int,∃ x_29 : Int,∃ x_30 : Int,r_20 = .tup [(.agg [x_22,x_23,x_24,(.int .i64 x_25),(.bool x_26),(.int .i64 x_27),(.int .i64 x_28),(.int .i64 x_29)]),(.int .i64 x_30)] ∧
 gd (List.all [x_22,x_23,x_24,(.int .i64 x_25),(.bool x_26),(.int .i64 x_27),(.int .i64 x_28),(.int .i64 x_29)] okCell) (
 onM (AW.putCells w_21 b_10 0 [x_22,x_23,x_24,(.int .i64 x_25),(.bool x_26),(.int .i64 x_27),(.int .i64 x_28),(.int .i64 x_29)]) fun w_31 =>
 ∃ res_32 : AV,∃ res_33 : AV,∃ res_34 : AV,∃ res_35 : Int,∃ res_36 : Bool,∃ res_37 : Int,∃ res_38 : Int,∃ res_39 : Int,ldN 8 w_31 b_10 0 = some (.agg [res_32,res_33,res_34,(.int .i64 res_35),(.bool res_36),(.int .i64 res_37),(.int .i64 res_38),(.int .i64 res_39)]) ∧
 K (.tup [(.agg [res_32,res_33,res_34,(.int .i64 res_35),(.bool res_36),(.int .i64 res_37),(.int .i64 res_38),(.int .i64 res_39)]),(.int .i64 x_30)]) w_31))
def adv62 : Adv := (.sq .lf (.sq .lf .lf))
set_option maxRecDepth 100000 in
theorem eq62 (hk : Hook) (d_0 : AV) (d_1 : AV) (d_2 : AV) (d_3 : Int) (d_4 : Bool) (d_5 : Int) (d_6 : Int) (d_7 : Int) (w : AW) (K : AV → AW → Prop) : fnS Try.prog hk Try.f62 adv62 [(.agg [d_0,d_1,d_2,(.int .i64 d_3),(.bool d_4),(.int .i64 d_5),(.int .i64 d_6),(.int .i64 d_7)])] w K = F62 hk d_0 d_1 d_2 d_3 d_4 d_5 d_6 d_7 w K := by kernel_rfl
theorem in62 {hk : Hook} {d_0 : AV} {d_1 : AV} {d_2 : AV} {d_3 : Int} {d_4 : Bool} {d_5 : Int} {d_6 : Int} {d_7 : Int} {w : AW} {K : AV → AW → Prop} (hn : hk 62 [(.agg [d_0,d_1,d_2,(.int .i64 d_3),(.bool d_4),(.int .i64 d_5),(.int .i64 d_6),(.int .i64 d_7)])] w = none) (h : F62 hk d_0 d_1 d_2 d_3 d_4 d_5 d_6 d_7 w K) : Cl Try.prog hk 62 [(.agg [d_0,d_1,d_2,(.int .i64 d_3),(.bool d_4),(.int .i64 d_5),(.int .i64 d_6),(.int .i64 d_7)])] w K :=
 fnS_ok Try.func62 hn (by rw [eq62]; exact h)
def F63 (hk : Hook) (d_0 : AV) (d_1 : AV) (d_2 : AV) (d_3 : Int) (d_4 : Bool) (d_5 : Int) (d_6 : Int) (d_7 : Int) (name_8 : List UInt8) (w : AW) (K : AV → AW → Prop) : Prop :=
 gd (List.all [d_0,d_1,d_2,(.int .i64 d_3),(.bool d_4),(.int .i64 d_5),(.int .i64 d_6),(.int .i64 d_7)] okCell) (
 new w [d_0,d_1,d_2,(.int .i64 d_3),(.bool d_4),(.int .i64 d_5),(.int .i64 d_6),(.int .i64 d_7)] fun b_9 w_10 =>
 ∃ x_11 : AV,∃ x_12 : AV,∃ x_13 : AV,∃ x_14 : Int,∃ x_15 : Bool,∃ x_16 : Int,∃ x_17 : Int,∃ x_18 : Int,ldN 8 w_10 b_9 0 = some (.agg [x_11,x_12,x_13,(.int .i64 x_14),(.bool x_15),(.int .i64 x_16),(.int .i64 x_17),(.int .i64 x_18)]) ∧
 Cl Try.prog hk 77 [(.agg [x_11,x_12,x_13,(.int .i64 x_14),(.bool x_15),(.int .i64 x_16),(.int .i64 x_17),(.int .i64 x_18)])] w_10 fun r_19 w_20 =>
 ∃ x_21 : AV,∃ x_22 : AV,r_19 = (.agg [x_21,x_22]) ∧
 new w_20 [.nilslice,.nilslice] fun b_23 w_24 =>
 gd (List.all [x_21,x_22] okCell) (
 onM (AW.putCells w_24 b_23 0 [x_21,x_22]) fun w_25 =>
 ∃ x_26 : AV,∃ x_27 : AV,ldN 2 w_25 b_23 0 = some (.agg [x_26,x_27]) ∧
 Cl Try.prog hk 78 [(.agg [x_26,x_27]),(.str name_8)] w_25 fun r_28 w_29 =>
 ∃ f_30 : Int,r_28 = (.int .i64 f_30) ∧
 ifT (decide (f_30 = 0)) (K (.tup [.nilslice,(.int .i64 70)]) w_29)
 (∃ x_31 : Bool,ld w_29 b_9 (0 + 4) = some (.bool x_31) ∧
 ifT x_31 (K (.tup [.nilslice,(.int .i64 6)]) w_29)
 (∃ x_32 : AV,∃ x_33 : AV,ldN 2 w_29 b_23 0 = some (.agg [x_32,x_33]) ∧
 Cl Try.prog hk 80 [(.agg [x_32,x_33]),(.int .i64 f_30)] w_29 fun r_34 w_35 =>
 loopP [.nilslice,(.int .i64 0)] w_35 fun R_36 l_37 w_38 => ∃ out_39 : AV,∃ i_40 : Int,l_37 = [out_39,(.int .i64 i_40)] ∧ ∀ _ : Nat → AV,
  ∃ x_41 : Int,lenS r_34 = some (.int .i64 x_41) ∧
  ifT (decide (i_40 < x_41)) (atP (idxS 1 r_34 (.int .i64 i_40)) fun b_42 o_43 =>
  onM (ld w_38 b_42 o_43) fun x_44 =>
  onE (appS 1 1 w_38 out_39 x_44) fun out_45 w_46 =>
  R_36 [out_45,(.int .i64 (wi (i_40 + 1)))] w_46)
  (K (.tup [out_39,(.int .i64 0)]) w_38)))))
def adv63 : Adv := (.sq .lf (.sq .lf (.sq .lf (.sq (.sq .lf (.cd (.sq .lf .lf) .lf)) (.sq (.sq .lf (.cd (.sq .lf .lf) .lf)) (.sq .lf (.sq .lf (.sq (.sq .lf (.bl (.lp [(8,.sc (.opq)),(10,.sc (.int .i64))] (.sq (.sq .lf (.cd .lf .lf)) (.sq (.bl .lf) .lf))))) (.sq .lf .lf)))))))))
set_option maxRecDepth 100000 in
theorem eq63 (hk : Hook) (d_0 : AV) (d_1 : AV) (d_2 : AV) (d_3 : Int) (d_4 : Bool) (d_5 : Int) (d_6 : Int) (d_7 : Int) (name_8 : List UInt8) (w : AW) (K : AV → AW → Prop) : fnS Try.prog hk Try.f63 adv63 [(.agg [d_0,d_1,d_2,(.int .i64 d_3),(.bool d_4),(.int .i64 d_5),(.int .i64 d_6),(.int .i64 d_7)]),(.str name_8)] w K = F63 hk d_0 d_1 d_2 d_3 d_4 d_5 d_6 d_7 name_8 w K := by kernel_rfl
theorem in63 {hk : Hook} {d_0 : AV} {d_1 : AV} {d_2 : AV} {d_3 : Int} {d_4 : Bool} {d_5 : Int} {d_6 : Int} {d_7 : Int} {name_8 : List UInt8} {w : AW} {K : AV → AW → Prop} (hn : hk 63 [(.agg [d_0,d_1,d_2,(.int .i64 d_3),(.bool d_4),(.int .i64 d_5),(.int .i64 d_6),(.int .i64 d_7)]),(.str name_8)] w = none) (h : F63 hk d_0 d_1 d_2 d_3 d_4 d_5 d_6 d_7 name_8 w K) : Cl Try.prog hk 63 [(.agg [d_0,d_1,d_2,(.int .i64 d_3),(.bool d_4),(.int .i64 d_5),(.int .i64 d_6),(.int .i64 d_7)]),(.str name_8)] w K :=
 fnS_ok Try.func63 hn (by rw [eq63]; exact h)
def F64 (hk : Hook) (d_0 : AV) (d_1 : AV) (d_2 : AV) (d_3 : Int) (d_4 : Bool) (d_5 : Int) (d_6 : Int) (d_7 : Int) (ops_8 : Int) (w : AW) (K : AV → AW → Prop) : Prop :=
 gd (List.all [d_0,d_1,d_2,(.int .i64 d_3),(.bool d_4),(.int .i64 d_5),(.int .i64 d_6),(.int .i64 d_7)] okCell) (
 new w [d_0,d_1,d_2,(.int .i64 d_3),(.bool d_4),(.int .i64 d_5),(.int .i64 d_6),(.int .i64 d_7)] fun b_9 w_10 =>
 new w_10 [.nilslice,.nilslice,.nilslice,(.int .i64 0),(.bool false),(.int .i64 0),(.int .i64 0),(.int .i64 0)] fun b_11 w_12 =>
 ifT (decide (ops_8 < 0)) (∃ x_13 : AV,∃ x_14 : AV,∃ x_15 : AV,∃ x_16 : Int,∃ x_17 : Bool,∃ x_18 : Int,∃ x_19 : Int,∃ x_20 : Int,ldN 8 w_12 b_9 0 = some (.agg [x_13,x_14,x_15,(.int .i64 x_16),(.bool x_17),(.int .i64 x_18),(.int .i64 x_19),(.int .i64 x_20)]) ∧
  gd (List.all [x_13,x_14,x_15,(.int .i64 x_16),(.bool x_17),(.int .i64 x_18),(.int .i64 x_19),(.int .i64 x_20)] okCell) (
  onM (AW.putCells w_12 b_11 0 [x_13,x_14,x_15,(.int .i64 x_16),(.bool x_17),(.int .i64 x_18),(.int .i64 x_19),(.int .i64 x_20)]) fun w_21 =>
  ∃ res_22 : AV,∃ res_23 : AV,∃ res_24 : AV,∃ res_25 : Int,∃ res_26 : Bool,∃ res_27 : Int,∃ res_28 : Int,∃ res_29 : Int,ldN 8 w_21 b_11 0 = some (.agg [res_22,res_23,res_24,(.int .i64 res_25),(.bool res_26),(.int .i64 res_27),(.int .i64 res_28),(.int .i64 res_29)]) ∧
 K (.tup [(.agg [res_22,res_23,res_24,(.int .i64 res_25),(.bool res_26),(.int .i64 res_27),(.int .i64 res_28),(.int .i64 res_29)]),(.int .i64 2)]) w_21))
 (onM (AW.putCells w_12 b_9 (0 + 5) [(.int .i64 ops_8)]) fun w_30 =>
 ∃ x_31 : AV,∃ x_32 : AV,∃ x_33 : AV,∃ x_34 : Int,∃ x_35 : Bool,∃ x_36 : Int,∃ x_37 : Int,∃ x_38 : Int,ldN 8 w_30 b_9 0 = some (.agg [x_31,x_32,x_33,(.int .i64 x_34),(.bool x_35),(.int .i64 x_36),(.int .i64 x_37),(.int .i64 x_38)]) ∧
 gd (List.all [x_31,x_32,x_33,(.int .i64 x_34),(.bool x_35),(.int .i64 x_36),(.int .i64 x_37),(.int .i64 x_38)] okCell) (
 onM (AW.putCells w_30 b_11 0 [x_31,x_32,x_33,(.int .i64 x_34),(.bool x_35),(.int .i64 x_36),(.int .i64 x_37),(.int .i64 x_38)]) fun w_39 =>
 ∃ res_40 : AV,∃ res_41 : AV,∃ res_42 : AV,∃ res_43 : Int,∃ res_44 : Bool,∃ res_45 : Int,∃ res_46 : Int,∃ res_47 : Int,ldN 8 w_39 b_11 0 = some (.agg [res_40,res_41,res_42,(.int .i64 res_43),(.bool res_44),(.int .i64 res_45),(.int .i64 res_46),(.int .i64 res_47)]) ∧
 K (.tup [(.agg [res_40,res_41,res_42,(.int .i64 res_43),(.bool res_44),(.int .i64 res_45),(.int .i64 res_46),(.int .i64 res_47)]),(.int .i64 0)]) w_39)))
def adv64 : Adv := (.sq .lf (.sq (.sq .lf (.cd (.sq .lf .lf) .lf)) (.sq .lf (.sq .lf .lf))))
set_option maxRecDepth 100000 in
theorem eq64 (hk : Hook) (d_0 : AV) (d_1 : AV) (d_2 : AV) (d_3 : Int) (d_4 : Bool) (d_5 : Int) (d_6 : Int) (d_7 : Int) (ops_8 : Int) (w : AW) (K : AV → AW → Prop) : fnS Try.prog hk Try.f64 adv64 [(.agg [d_0,d_1,d_2,(.int .i64 d_3),(.bool d_4),(.int .i64 d_5),(.int .i64 d_6),(.int .i64 d_7)]),(.int .i64 ops_8)] w K = F64 hk d_0 d_1 d_2 d_3 d_4 d_5 d_6 d_7 ops_8 w K := by kernel_rfl
theorem in64 {hk : Hook} {d_0 : AV} {d_1 : AV} {d_2 : AV} {d_3 : Int} {d_4 : Bool} {d_5 : Int} {d_6 : Int} {d_7 : Int} {ops_8 : Int} {w : AW} {K : AV → AW → Prop} (hn : hk 64 [(.agg [d_0,d_1,d_2,(.int .i64 d_3),(.bool d_4),(.int .i64 d_5),(.int .i64 d_6),(.int .i64 d_7)]),(.int .i64 ops_8)] w = none) (h : F64 hk d_0 d_1 d_2 d_3 d_4 d_5 d_6 d_7 ops_8 w K) : Cl Try.prog hk 64 [(.agg [d_0,d_1,d_2,(.int .i64 d_3),(.bool d_4),(.int .i64 d_5),(.int .i64 d_6),(.int .i64 d_7)]),(.int .i64 ops_8)] w K :=
 fnS_ok Try.func64 hn (by rw [eq64]; exact h)
def F65 (hk : Hook) (d_0 : AV) (d_1 : AV) (d_2 : AV) (d_3 : Int) (d_4 : Bool) (d_5 : Int) (d_6 : Int) (d_7 : Int) (ops_8 : Int) (e_9 : Int) (w : AW) (K : AV → AW → Prop) : Prop :=
 gd (List.all [d_0,d_1,d_2,(.int .i64 d_3),(.bool d_4),(.int .i64 d_5),(.int .i64 d_6),(.int .i64 d_7)] okCell) (
 new w [d_0,d_1,d_2,(.int .i64 d_3),(.bool d_4),(.int .i64 d_5),(.int .i64 d_6),(.int .i64 d_7)] fun b_10 w_11 =>
 new w_11 [.nilslice,.nilslice,.nilslice,(.int .i64 0),(.bool false),(.int .i64 0),(.int .i64 0),(.int .i64 0)] fun b_12 w_13 =>
 join (fun l_14 w_15 => l_14 = [] ∧ ∀ _ : Nat → AV,
  onM (AW.putCells w_15 b_10 (0 + 6) [(.int .i64 ops_8)]) fun w_17 =>
  onM (AW.putCells w_17 b_10 (0 + 7) [(.int .i64 e_9)]) fun w_18 =>
  ∃ x_19 : AV,∃ x_20 : AV,∃ x_21 : AV,∃ x_22 : Int,∃ x_23 : Bool,∃ x_24 : Int,∃ x_25 : Int,∃ x_26 : Int,ldN 8 w_18 b_10 0 = some (.agg [x_19,x_20,x_21,(.int .i64 x_22),(.bool x_23),(.int .i64 x_24),(.int .i64 x_25),(.int .i64 x_26)]) ∧
  gd (List.all [x_19,x_20,x_21,(.int .i64 x_22),(.bool x_23),(.int .i64 x_24),(.int .i64 x_25),(.int .i64 x_26)] okCell) (
  onM (AW.putCells w_18 b_12 0 [x_19,x_20,x_21,(.int .i64 x_22),(.bool x_23),(.int .i64 x_24),(.int .i64 x_25),(.int .i64 x_26)]) fun w_27 =>
  ∃ res_28 : AV,∃ res_29 : AV,∃ res_30 : AV,∃ res_31 : Int,∃ res_32 : Bool,∃ res_33 : Int,∃ res_34 : Int,∃ res_35 : Int,ldN 8 w_27 b_12 0 = some (.agg [res_28,res_29,res_30,(.int .i64 res_31),(.bool res_32),(.int .i64 res_33),(.int .i64 res_34),(.int .i64 res_35)]) ∧
 K (.tup [(.agg [res_28,res_29,res_30,(.int .i64 res_31),(.bool res_32),(.int .i64 res_33),(.int .i64 res_34),(.int .i64 res_35)]),(.int .i64 0)]) w_27)) fun J_16 =>
 ifT (decide (ops_8 < 0)) (∃ x_36 : AV,∃ x_37 : AV,∃ x_38 : AV,∃ x_39 : Int,∃ x_40 : Bool,∃ x_41 : Int,∃ x_42 : Int,∃ x_43 : Int,ldN 8 w_13 b_10 0 = some (.agg [x_36,x_37,x_38,(.int .i64 x_39),(.bool x_40),(.int .i64 x_41),(.int .i64 x_42),(.int .i64 x_43)]) ∧
 gd (List.all [x_36,x_37,x_38,(.int .i64 x_39),(.bool x_40),(.int .i64 x_41),(.int .i64 x_42),(.int .i64 x_43)] okCell) (
 onM (AW.putCells w_13 b_12 0 [x_36,x_37,x_38,(.int .i64 x_39),(.bool x_40),(.int .i64 x_41),(.int .i64 x_42),(.int .i64 x_43)]) fun w_44 =>
 ∃ res_45 : AV,∃ res_46 : AV,∃ res_47 : AV,∃ res_48 : Int,∃ res_49 : Bool,∃ res_50 : Int,∃ res_51 : Int,∃ res_52 : Int,ldN 8 w_44 b_12 0 = some (.agg [res_45,res_46,res_47,(.int .i64 res_48),(.bool res_49),(.int .i64 res_50),(.int .i64 res_51),(.int .i64 res_52)]) ∧
 K (.tup [(.agg [res_45,res_46,res_47,(.int .i64 res_48),(.bool res_49),(.int .i64 res_50),(.int .i64 res_51),(.int .i64 res_52)]),(.int .i64 2)]) w_44))
 (ifT (!decide (e_9 = 4)) (ifT (!decide (e_9 = 5)) (∃ x_53 : AV,∃ x_54 : AV,∃ x_55 : AV,∃ x_56 : Int,∃ x_57 : Bool,∃ x_58 : Int,∃ x_59 : Int,∃ x_60 : Int,ldN 8 w_13 b_10 0 = some (.agg [x_53,x_54,x_55,(.int .i64 x_56),(.bool x_57),(.int .i64 x_58),(.int .i64 x_59),(.int .i64 x_60)]) ∧
  gd (List.all [x_53,x_54,x_55,(.int .i64 x_56),(.bool x_57),(.int .i64 x_58),(.int .i64 x_59),(.int .i64 x_60)] okCell) (
  onM (AW.putCells w_13 b_12 0 [x_53,x_54,x_55,(.int .i64 x_56),(.bool x_57),(.int .i64 x_58),(.int .i64 x_59),(.int .i64 x_60)]) fun w_61 =>
  ∃ res_62 : AV,∃ res_63 : AV,∃ res_64 : AV,∃ res_65 : Int,∃ res_66 : Bool,∃ res_67 : Int,∃ res_68 : Int,∃ res_69 : Int,ldN 8 w_61 b_12 0 = some (.agg [res_62,res_63,res_64,(.int .i64 res_65),(.bool res_66),(.int .i64 res_67),(.int .i64 res_68),(.int .i64 res_69)]) ∧
 K (.tup [(.agg [res_62,res_63,res_64,(.int .i64 res_65),(.bool res_66),(.int .i64 res_67),(.int .i64 res_68),(.int .i64 res_69)]),(.int .i64 2)]) w_61))
 (J_16 [] w_13))
 (J_16 [] w_13)))
def adv65 : Adv := (.sq .lf (.sj [] (.sq .lf (.cd (.sq .lf .lf) .lf)) (.sq .lf (.sq .lf (.sq .lf .lf)))))
set_option maxRecDepth 100000 in
theorem eq65 (hk : Hook) (d_0 : AV) (d_1 : AV) (d_2 : AV) (d_3 : Int) (d_4 : Bool) (d_5 : Int) (d_6 : Int) (d_7 : Int) (ops_8 : Int) (e_9 : Int) (w : AW) (K : AV → AW → Prop) : fnS Try.prog hk Try.f65 adv65 [(.agg [d_0,d_1,d_2,(.int .i64 d_3),(.bool d_4),(.int .i64 d_5),(.int .i64 d_6),(.int .i64 d_7)]),(.int .i64 ops_8),(.int .i64 e_9)] w K = F65 hk d_0 d_1 d_2 d_3 d_4 d_5 d_6 d_7 ops_8 e_9 w K := by kernel_rfl
theorem in65 {hk : Hook} {d_0 : AV} {d_1 : AV} {d_2 : AV} {d_3 : Int} {d_4 : Bool} {d_5 : Int} {d_6 : Int} {d_7 : Int} {ops_8 : Int} {e_9 : Int} {w : AW} {K : AV → AW → Prop} (hn : hk 65 [(.agg [d_0,d_1,d_2,(.int .i64 d_3),(.bool d_4),(.int .i64 d_5),(.int .i64 d_6),(.int .i64 d_7)]),(.int .i64 ops_8),(.int .i64 e_9)] w = none) (h : F65 hk d_0 d_1 d_2 d_3 d_4 d_5 d_6 d_7 ops_8 e_9 w K) : Cl Try.prog hk 65 [(.agg [d_0,d_1,d_2,(.int .i64 d_3),(.bool d_4),(.int .i64 d_5),(.int .i64 d_6),(.int .i64 d_7)]),(.int .i64 ops_8),(.int .i64 e_9)] w K :=
 fnS_ok Try.func65 hn (by rw [eq65]; exact h)
def F66 (hk : Hook) (d_0 : AV) (d_1 : AV) (d_2 : AV) (d_3 : Int) (d_4 : Bool) (d_5 : Int) (d_6 : Int) (d_7 : Int) (w : AW) (K : AV → AW → Prop) : Prop :=
 gd (List.all [d_0,d_1,d_2,(.int .i64 d_3),(.bool d_4),(.int .i64 d_5),(.int .i64 d_6),(.int .i64 d_7)] okCell) (
 new w [d_0,d_1,d_2,(.int .i64 d_3),(.bool d_4),(.int .i64 d_5),(.int .i64 d_6),(.int .i64 d_7)] fun b_8 w_9 =>
 ∃ x_10 : AV,∃ x_11 : AV,∃ x_12 : AV,∃ x_13 : Int,∃ x_14 : Bool,∃ x_15 : Int,∃ x_16 : Int,∃ x_17 : Int,ldN 8 w_9 b_8 0 = some (.agg [x_10,x_11,x_12,(.int .i64 x_13),(.bool x_14),(.int .i64 x_15),(.int .i64 x_16),(.int .i64 x_17)]) ∧
 Cl Try.prog hk 77 [(.agg [x_10,x_11,x_12,(.int .i64 x_13),(.bool x_14),(.int .i64 x_15),(.int .i64 x_16),(.int .i64 x_17)])] w_9 fun r_18 w_19 =>
 ∃ x_20 : AV,∃ x_21 : AV,r_18 = (.agg [x_20,x_21]) ∧
 ∃ x_22 : Int,lenS x_20 = some (.int .i64 x_22) ∧
 loopP [.nilslice,(.int .i64 0)] w_19 fun R_23 l_24 w_25 => ∃ out_26 : AV,∃ x_27 : Int,l_24 = [out_26,(.int .i64 x_27)] ∧ ∀ _ : Nat → AV,
  ifT (decide (x_27 < x_22)) (loopP [(.str []),(.int .i64 0)] w_25 fun R_28 l_29 w_30 => ∃ least_31 : List UInt8,∃ i_32 : Int,l_29 = [(.str least_31),(.int .i64 i_32)] ∧ ∀ _ : Nat → AV,
  ∃ x_33 : Int,lenS x_20 = some (.int .i64 x_33) ∧
  ifT (decide (i_32 < x_33)) (atP (idxS 2 x_20 (.int .i64 i_32)) fun b_34 o_35 =>
  ∃ name_36 : List UInt8,ld w_30 b_34 (o_35 + 0) = some (.str name_36) ∧
  ifT (least_31 == []) (∃ x_37 : Int,lenS out_26 = some (.int .i64 x_37) ∧
  ifT (decide (x_37 = 0)) (R_28 [(.str name_36),(.int .i64 (wi (i_32 + 1)))] w_30)
  (∃ x_38 : Int,lenS out_26 = some (.int .i64 x_38) ∧
  atP (idxS 1 out_26 (.int .i64 (wi (x_38 - 1)))) fun b_39 o_40 =>
  ∃ x_41 : List UInt8,ld w_30 b_39 o_40 = some (.str x_41) ∧
  ifT (!(cmpBytes name_36 x_41 || name_36 == x_41)) (R_28 [(.str name_36),(.int .i64 (wi (i_32 + 1)))] w_30)
  (R_28 [(.str least_31),(.int .i64 (wi (i_32 + 1)))] w_30)))
  (ifT (cmpBytes name_36 least_31) (∃ x_42 : Int,lenS out_26 = some (.int .i64 x_42) ∧
  ifT (decide (x_42 = 0)) (R_28 [(.str name_36),(.int .i64 (wi (i_32 + 1)))] w_30)
  (∃ x_43 : Int,lenS out_26 = some (.int .i64 x_43) ∧
  atP (idxS 1 out_26 (.int .i64 (wi (x_43 - 1)))) fun b_44 o_45 =>
  ∃ x_46 : List UInt8,ld w_30 b_44 o_45 = some (.str x_46) ∧
  ifT (!(cmpBytes name_36 x_46 || name_36 == x_46)) (R_28 [(.str name_36),(.int .i64 (wi (i_32 + 1)))] w_30)
  (R_28 [(.str least_31),(.int .i64 (wi (i_32 + 1)))] w_30)))
  (R_28 [(.str least_31),(.int .i64 (wi (i_32 + 1)))] w_30)))
  (new w_30 [(.str least_31)] fun b_47 w_48 =>
  onE (appS 1 16 w_48 out_26 (.slice b_47 0 1 1 none)) fun out_49 w_50 =>
  R_23 [out_49,(.int .i64 (wi (x_27 + 1)))] w_50))
  (K out_26 w_25))
def adv66 : Adv := (.sq .lf (.sq .lf (.sq .lf (.sq (.sq .lf (.bl (.lp [(4,.sc (.opq)),(13,.sc (.int .i64))] (.sq .lf (.sq (.cd .lf .lf) (.sq (.bl (.sq .lf (.sq (.sq .lf (.bl (.lp [(5,.sc (.str)),(6,.sc (.int .i64))] (.sq (.sq .lf (.cd .lf .lf)) (.sq (.bl (.sq .lf (.sq .lf (.cd .lf .lf)))) .lf))))) .lf))) .lf)))))) (.sq .lf .lf)))))
set_option maxRecDepth 100000 in
theorem eq66 (hk : Hook) (d_0 : AV) (d_1 : AV) (d_2 : AV) (d_3 : Int) (d_4 : Bool) (d_5 : Int) (d_6 : Int) (d_7 : Int) (w : AW) (K : AV → AW → Prop) : fnS Try.prog hk Try.f66 adv66 [(.agg [d_0,d_1,d_2,(.int .i64 d_3),(.bool d_4),(.int .i64 d_5),(.int .i64 d_6),(.int .i64 d_7)])] w K = F66 hk d_0 d_1 d_2 d_3 d_4 d_5 d_6 d_7 w K := by kernel_rfl
theorem in66 {hk : Hook} {d_0 : AV} {d_1 : AV} {d_2 : AV} {d_3 : Int} {d_4 : Bool} {d_5 : Int} {d_6 : Int} {d_7 : Int} {w : AW} {K : AV → AW → Prop} (hn : hk 66 [(.agg [d_0,d_1,d_2,(.int .i64 d_3),(.bool d_4),(.int .i64 d_5),(.int .i64 d_6),(.int .i64 d_7)])] w = none) (h : F66 hk d_0 d_1 d_2 d_3 d_4 d_5 d_6 d_7 w K) : Cl Try.prog hk 66 [(.agg [d_0,d_1,d_2,(.int .i64 d_3),(.bool d_4),(.int .i64 d_5),(.int .i64 d_6),(.int .i64 d_7)])] w K :=
 fnS_ok Try.func66 hn (by rw [eq66]; exact h)
set_option maxRecDepth 100000 in
def F67 (hk : Hook) (s_0 : AV) (s_1 : AV) (x_2 : Int) (x_3 : Int) (x_4 : Int) (x_5 : AV) (x_6 : List UInt8) (x_7 : List UInt8) (w : AW) (K : AV → AW → Prop) : Prop :=
  gd (List.all [s_0, s_1] okCell) (
  new w [s_0, s_1] fun b_8 w_9 =>
  gd (List.all [(.int .i64 x_2), (.int .i64 x_3), (.int .i64 x_4), x_5, (.str x_6), (.str x_7)] okCell) (
  new w_9 [(.int .i64 x_2), (.int .i64 x_3), (.int .i64 x_4), x_5, (.str x_6), (.str x_7)] fun b_10 w_11 =>
  new w_11 [.nilslice, .nilslice] fun b_12 w_13 =>
  ∃ x_14 : AV, ∃ x_15 : AV, ldN 2 w_13 b_8 0 = some (.agg [x_14, x_15]) ∧
  ∃ x_16 : Int, ld w_13 b_10 (0 + 1) = some (.int .i64 x_16) ∧
  Cl Try.prog hk 80 [(.agg [x_14, x_15]), (.int .i64 x_16)] w_13 fun r_17 w_18 =>
  onE (appS 1 24 w_18 .nilslice r_17) fun l_19 w_20 =>
  ∃ x_21 : Int, ld w_20 b_10 (0 + 0) = some (.int .i64 x_21) ∧
  ifT (decide (x_21 = 1)) (∃ x_22 : AV, ∃ x_23 : AV, ldN 2 w_20 b_8 0 = some (.agg [x_22, x_23]) ∧
   ∃ x_24 : List UInt8, ld w_20 b_10 (0 + 4) = some (.str x_24) ∧
   Cl Try.prog hk 84 [(.agg [x_22, x_23]), (.str x_24)] w_20 fun r_25 w_26 =>
   ∃ x_27 : AV, ∃ x_28 : AV, r_25 = (.agg [x_27, x_28]) ∧
   gd (List.all [x_27, x_28] okCell) (
   onM (AW.putCells w_26 b_8 0 [x_27, x_28]) fun w_29 =>
   onM (ld w_29 b_8 (0 + 0)) fun x_30 =>
   ∃ x_31 : List UInt8, ld w_29 b_10 (0 + 4) = some (.str x_31) ∧
   ∃ x_32 : Int, ld w_29 b_10 (0 + 1) = some (.int .i64 x_32) ∧
   new w_29 [(.str x_31), (.int .i64 x_32)] fun b_33 w_34 =>
   onE (appS 2 24 w_34 x_30 (.slice b_33 0 1 1 none)) fun x_35 w_36 =>
   gd (okCell x_35) (
   onM (AW.putCells w_36 b_8 (0 + 0) [x_35]) fun w_37 =>
   ∃ x_38 : AV, ∃ x_39 : AV, ldN 2 w_37 b_8 0 = some (.agg [x_38, x_39]) ∧
  gd (List.all [x_38, x_39] okCell) (
  onM (AW.putCells w_37 b_12 0 [x_38, x_39]) fun w_40 =>
  ∃ res_41 : AV, ∃ res_42 : AV, ldN 2 w_40 b_12 0 = some (.agg [res_41, res_42]) ∧
  K (.agg [res_41, res_42]) w_40))))
  (ifT (decide (x_21 = 2)) (loopP [l_19] w_20 fun R_43 l_44 w_45 => ∃ l_46 : AV, l_44 = [l_46] ∧ ∀ _ : Nat → AV,
     ∃ x_47 : Int, lenS l_46 = some (.int .i64 x_47) ∧
     ∃ x_48 : Int, ld w_45 b_10 (0 + 2) = some (.int .i64 x_48) ∧
     ifT (decide (x_47 ≤ x_48)) (gd (Nat.ble 64 64 && Nat.ble (64 * 1) (2 ^ 47) && Nat.blt 64 (2 ^ 63) && true) (new w_45 (repl 64 [(.int .u8 0)]) fun b_49 w_50 =>
     new w_50 [(.slice b_49 0 64 64 none)] fun b_51 w_52 =>
     onE (appS 1 24 w_52 l_46 (.slice b_51 0 1 1 none)) fun l_53 w_54 =>
     R_43 [l_53] w_54))
     (∃ x_55 : Int, ld w_45 b_10 (0 + 2) = some (.int .i64 x_55) ∧
    onM (ld w_45 b_10 (0 + 3)) fun x_56 =>
    atP (idxS 1 l_46 (.int .i64 x_55)) fun b_57 o_58 =>
    gd (okCell x_56) (
    onM (AW.putCells w_45 b_57 o_58 [x_56]) fun w_59 =>
    ∃ x_60 : AV, ∃ x_61 : AV, ldN 2 w_59 b_8 0 = some (.agg [x_60, x_61]) ∧
    ∃ x_62 : Int, ld w_59 b_10 (0 + 1) = some (.int .i64 x_62) ∧
    Cl Try.prog hk 85 [(.agg [x_60, x_61]), (.int .i64 x_62), l_46] w_59 fun r_63 w_64 =>
    ∃ x_65 : AV, ∃ x_66 : AV, r_63 = (.agg [x_65, x_66]) ∧
    gd (List.all [x_65, x_66] okCell) (
    onM (AW.putCells w_64 b_8 0 [x_65, x_66]) fun w_67 =>
    ∃ x_68 : AV, ∃ x_69 : AV, ldN 2 w_67 b_8 0 = some (.agg [x_68, x_69]) ∧
  gd (List.all [x_68, x_69] okCell) (
  onM (AW.putCells w_67 b_12 0 [x_68, x_69]) fun w_70 =>
  ∃ res_71 : AV, ∃ res_72 : AV, ldN 2 w_70 b_12 0 = some (.agg [res_71, res_72]) ∧
  K (.agg [res_71, res_72]) w_70)))))
   (ifT (decide (x_21 = 3)) (∃ x_73 : AV, ∃ x_74 : AV, ldN 2 w_20 b_8 0 = some (.agg [x_73, x_74]) ∧
     ∃ x_75 : Int, ld w_20 b_10 (0 + 1) = some (.int .i64 x_75) ∧
     ∃ x_76 : Int, lenS l_19 = some (.int .i64 x_76) ∧
     ∃ x_77 : Int, ld w_20 b_10 (0 + 2) = some (.int .i64 x_77) ∧
     onM (slS 1 l_19 none (some (.int .i64 (imin x_76 x_77))) none) fun x_78 =>
     Cl Try.prog hk 85 [(.agg [x_73, x_74]), (.int .i64 x_75), x_78] w_20 fun r_79 w_80 =>
     ∃ x_81 : AV, ∃ x_82 : AV, r_79 = (.agg [x_81, x_82]) ∧
     gd (List.all [x_81, x_82] okCell) (
     onM (AW.putCells w_80 b_8 0 [x_81, x_82]) fun w_83 =>
     ∃ x_84 : AV, ∃ x_85 : AV, ldN 2 w_83 b_8 0 = some (.agg [x_84, x_85]) ∧
  gd (List.all [x_84, x_85] okCell) (
  onM (AW.putCells w_83 b_12 0 [x_84, x_85]) fun w_86 =>
  ∃ res_87 : AV, ∃ res_88 : AV, ldN 2 w_86 b_12 0 = some (.agg [res_87, res_88]) ∧
  K (.agg [res_87, res_88]) w_86)))
    (ifT (decide (x_21 = 4)) (∃ x_89 : AV, ∃ x_90 : AV, ldN 2 w_20 b_8 0 = some (.agg [x_89, x_90]) ∧
      ∃ x_91 : List UInt8, ld w_20 b_10 (0 + 4) = some (.str x_91) ∧
      ∃ x_92 : Int, ld w_20 b_10 (0 + 1) = some (.int .i64 x_92) ∧
      Cl Try.prog hk 78 [(.agg [x_89, x_90]), (.str x_91)] w_20 fun r_93 w_94 =>
      ∃ x_95 : Int, r_93 = (.int .i64 x_95) ∧
      ld w_94 b_10 (0 + 1) = some (.int .i64 x_92) ∧
      ifT (decide (x_95 = x_92)) (∃ x_96 : AV, ∃ x_97 : AV, ldN 2 w_94 b_8 0 = some (.agg [x_96, x_97]) ∧
       ∃ x_98 : List UInt8, ld w_94 b_10 (0 + 4) = some (.str x_98) ∧
       ∃ x_99 : List UInt8, ld w_94 b_10 (0 + 5) = some (.str x_99) ∧
       Cl Try.prog hk 84 [(.agg [x_96, x_97]), (.str x_98)] w_94 fun r_100 w_101 =>
       ∃ x_102 : AV, ∃ x_103 : AV, r_100 = (.agg [x_102, x_103]) ∧
       ld w_101 b_10 (0 + 5) = some (.str x_99) ∧
       Cl Try.prog hk 84 [(.agg [x_102, x_103]), (.str x_99)] w_101 fun r_104 w_105 =>
       ∃ x_106 : AV, ∃ x_107 : AV, r_104 = (.agg [x_106, x_107]) ∧
       gd (List.all [x_106, x_107] okCell) (
       onM (AW.putCells w_105 b_8 0 [x_106, x_107]) fun w_108 =>
       onM (ld w_108 b_8 (0 + 0)) fun x_109 =>
       ∃ x_110 : List UInt8, ld w_108 b_10 (0 + 5) = some (.str x_110) ∧
       ∃ x_111 : Int, ld w_108 b_10 (0 + 1) = some (.int .i64 x_111) ∧
       new w_108 [(.str x_110), (.int .i64 x_111)] fun b_112 w_113 =>
       onE (appS 2 24 w_113 x_109 (.slice b_112 0 1 1 none)) fun x_114 w_115 =>
       gd (okCell x_114) (
       onM (AW.putCells w_115 b_8 (0 + 0) [x_114]) fun w_116 =>
       ∃ x_117 : AV, ∃ x_118 : AV, ldN 2 w_116 b_8 0 = some (.agg [x_117, x_118]) ∧
  gd (List.all [x_117, x_118] okCell) (
  onM (AW.putCells w_116 b_12 0 [x_117, x_118]) fun w_119 =>
  ∃ res_120 : AV, ∃ res_121 : AV, ldN 2 w_119 b_12 0 = some (.agg [res_120, res_121]) ∧
  K (.agg [res_120, res_121]) w_119))))
      (∃ x_122 : AV, ∃ x_123 : AV, ldN 2 w_94 b_8 0 = some (.agg [x_122, x_123]) ∧
  gd (List.all [x_122, x_123] okCell) (
  onM (AW.putCells w_94 b_12 0 [x_122, x_123]) fun w_124 =>
  ∃ res_125 : AV, ∃ res_126 : AV, ldN 2 w_124 b_12 0 = some (.agg [res_125, res_126]) ∧
  K (.agg [res_125, res_126]) w_124)))
     (ifT (decide (x_21 = 5)) (∃ x_127 : AV, ∃ x_128 : AV, ldN 2 w_20 b_8 0 = some (.agg [x_127, x_128]) ∧
       ∃ x_129 : List UInt8, ld w_20 b_10 (0 + 4) = some (.str x_129) ∧
       ∃ x_130 : Int, ld w_20 b_10 (0 + 1) = some (.int .i64 x_130) ∧
       Cl Try.prog hk 78 [(.agg [x_127, x_128]), (.str x_129)] w_20 fun r_131 w_132 =>
       ∃ x_133 : Int, r_131 = (.int .i64 x_133) ∧
       ld w_132 b_10 (0 + 1) = some (.int .i64 x_130) ∧
       ifT (decide (x_133 = x_130)) (∃ x_134 : AV, ∃ x_135 : AV, ldN 2 w_132 b_8 0 = some (.agg [x_134, x_135]) ∧
        ∃ x_136 : List UInt8, ld w_132 b_10 (0 + 4) = some (.str x_136) ∧
        Cl Try.prog hk 84 [(.agg [x_134, x_135]), (.str x_136)] w_132 fun r_137 w_138 =>
        ∃ x_139 : AV, ∃ x_140 : AV, r_137 = (.agg [x_139, x_140]) ∧
        gd (List.all [x_139, x_140] okCell) (
        onM (AW.putCells w_138 b_8 0 [x_139, x_140]) fun w_141 =>
        ∃ x_142 : AV, ∃ x_143 : AV, ldN 2 w_141 b_8 0 = some (.agg [x_142, x_143]) ∧
  gd (List.all [x_142, x_143] okCell) (
  onM (AW.putCells w_141 b_12 0 [x_142, x_143]) fun w_144 =>
  ∃ res_145 : AV, ∃ res_146 : AV, ldN 2 w_144 b_12 0 = some (.agg [res_145, res_146]) ∧
  K (.agg [res_145, res_146]) w_144)))
       (∃ x_147 : AV, ∃ x_148 : AV, ldN 2 w_132 b_8 0 = some (.agg [x_147, x_148]) ∧
  gd (List.all [x_147, x_148] okCell) (
  onM (AW.putCells w_132 b_12 0 [x_147, x_148]) fun w_149 =>
  ∃ res_150 : AV, ∃ res_151 : AV, ldN 2 w_149 b_12 0 = some (.agg [res_150, res_151]) ∧
  K (.agg [res_150, res_151]) w_149)))
      (∃ x_152 : AV, ∃ x_153 : AV, ldN 2 w_20 b_8 0 = some (.agg [x_152, x_153]) ∧
  gd (List.all [x_152, x_153] okCell) (
  onM (AW.putCells w_20 b_12 0 [x_152, x_153]) fun w_154 =>
  ∃ res_155 : AV, ∃ res_156 : AV, ldN 2 w_154 b_12 0 = some (.agg [res_155, res_156]) ∧
  K (.agg [res_155, res_156]) w_154))))))))
def adv67 : Adv := (.sq .lf (.sq .lf (.sq .lf (.sq (.sq .lf (.bl (.sq .lf (.cd (.sq .lf .lf) (.sq .lf (.cd (.sq (.bl (.lp [(5,.sc (.opq))] (.sq (.sq .lf (.cd .lf .lf)) (.bl .lf)))) (.sq .lf .lf)) (.sq .lf (.cd .lf (.sq .lf (.cd (.sq .lf (.cd (.sq .lf .lf) .lf)) (.sq .lf (.cd (.sq .lf (.cd .lf .lf)) .lf)))))))))))) (.sq .lf .lf)))))
set_option maxRecDepth 100000 in
theorem eq67 (hk : Hook) (s_0 : AV) (s_1 : AV) (x_2 : Int) (x_3 : Int) (x_4 : Int) (x_5 : AV) (x_6 : List UInt8) (x_7 : List UInt8) (w : AW) (K : AV → AW → Prop) : fnS Try.prog hk Try.f67 adv67 [(.agg [s_0,s_1]),(.agg [(.int .i64 x_2),(.int .i64 x_3),(.int .i64 x_4),x_5,(.str x_6),(.str x_7)])] w K = F67 hk s_0 s_1 x_2 x_3 x_4 x_5 x_6 x_7 w K := by kernel_rfl
theorem in67 {hk : Hook} {s_0 : AV} {s_1 : AV} {x_2 : Int} {x_3 : Int} {x_4 : Int} {x_5 : AV} {x_6 : List UInt8} {x_7 : List UInt8} {w : AW} {K : AV → AW → Prop} (hn : hk 67 [(.agg [s_0,s_1]),(.agg [(.int .i64 x_2),(.int .i64 x_3),(.int .i64 x_4),x_5,(.str x_6),(.str x_7)])] w = none) (h : F67 hk s_0 s_1 x_2 x_3 x_4 x_5 x_6 x_7 w K) : Cl Try.prog hk 67 [(.agg [s_0,s_1]),(.agg [(.int .i64 x_2),(.int .i64 x_3),(.int .i64 x_4),x_5,(.str x_6),(.str x_7)])] w K :=
 fnS_ok Try.func67 hn (by rw [eq67]; exact h)
def F77 (hk : Hook) (d_0 : AV) (d_1 : AV) (d_2 : AV) (d_3 : Int) (d_4 : Bool) (d_5 : Int) (d_6 : Int) (d_7 : Int) (w : AW) (K : AV → AW → Prop) : Prop :=
 gd (List.all [d_0,d_1,d_2,(.int .i64 d_3),(.bool d_4),(.int .i64 d_5),(.int .i64 d_6),(.int .i64 d_7)] okCell) (
 new w [d_0,d_1,d_2,(.int .i64 d_3),(.bool d_4),(.int .i64 d_5),(.int .i64 d_6),(.int .i64 d_7)] fun b_8 w_9 =>
 new w_9 [.nilslice,.nilslice] fun b_10 w_11 =>
 ∃ x_12 : AV,∃ x_13 : AV,ldN 2 w_11 b_8 (0 + 0) = some (.agg [x_12,x_13]) ∧
 new w_11 [.nilslice,.nilslice] fun b_14 w_15 =>
 gd (List.all [x_12,x_13] okCell) (
 onM (AW.putCells w_15 b_14 0 [x_12,x_13]) fun w_16 =>
 loopP [(.int .i64 0)] w_16 fun R_17 l_18 w_19 => ∃ i_20 : Int,l_18 = [(.int .i64 i_20)] ∧ ∀ _ : Nat → AV,
  onM (ld w_19 b_8 (0 + 2)) fun x_21 =>
  ∃ x_22 : Int,lenS x_21 = some (.int .i64 x_22) ∧
  ifT (decide (i_20 < x_22)) (∃ x_23 : AV,∃ x_24 : AV,ldN 2 w_19 b_14 0 = some (.agg [x_23,x_24]) ∧
  onM (ld w_19 b_8 (0 + 2)) fun x_25 =>
  atP (idxS 6 x_25 (.int .i64 i_20)) fun b_26 o_27 =>
  ∃ x_28 : Int,∃ x_29 : Int,∃ x_30 : Int,∃ x_31 : AV,∃ x_32 : List UInt8,∃ x_33 : List UInt8,ldN 6 w_19 b_26 o_27 = some (.agg [(.int .i64 x_28),(.int .i64 x_29),(.int .i64 x_30),x_31,(.str x_32),(.str x_33)]) ∧
  Cl Try.prog hk 67 [(.agg [x_23,x_24]),(.agg [(.int .i64 x_28),(.int .i64 x_29),(.int .i64 x_30),x_31,(.str x_32),(.str x_33)])] w_19 fun r_34 w_35 =>
  ∃ x_36 : AV,∃ x_37 : AV,r_34 = (.agg [x_36,x_37]) ∧
  gd (List.all [x_36,x_37] okCell) (
  onM (AW.putCells w_35 b_14 0 [x_36,x_37]) fun w_38 =>
  R_17 [(.int .i64 (wi (i_20 + 1)))] w_38))
  (∃ x_39 : AV,∃ x_40 : AV,ldN 2 w_19 b_14 0 = some (.agg [x_39,x_40]) ∧
 gd (List.all [x_39,x_40] okCell) (
 onM (AW.putCells w_19 b_10 0 [x_39,x_40]) fun w_41 =>
 ∃ res_42 : AV,∃ res_43 : AV,ldN 2 w_41 b_10 0 = some (.agg [res_42,res_43]) ∧
 K (.agg [res_42,res_43]) w_41))))
def adv77 : Adv := (.sq .lf (.sq .lf (.sq (.sq .lf (.bl (.lp [(4,.sc (.int .i64))] (.sq (.sq .lf (.cd .lf .lf)) (.sq (.bl .lf) .lf))))) (.sq .lf .lf))))
set_option maxRecDepth 100000 in
theorem eq77 (hk : Hook) (d_0 : AV) (d_1 : AV) (d_2 : AV) (d_3 : Int) (d_4 : Bool) (d_5 : Int) (d_6 : Int) (d_7 : Int) (w : AW) (K : AV → AW → Prop) : fnS Try.prog hk Try.f77 adv77 [(.agg [d_0,d_1,d_2,(.int .i64 d_3),(.bool d_4),(.int .i64 d_5),(.int .i64 d_6),(.int .i64 d_7)])] w K = F77 hk d_0 d_1 d_2 d_3 d_4 d_5 d_6 d_7 w K := by kernel_rfl
theorem in77 {hk : Hook} {d_0 : AV} {d_1 : AV} {d_2 : AV} {d_3 : Int} {d_4 : Bool} {d_5 : Int} {d_6 : Int} {d_7 : Int} {w : AW} {K : AV → AW → Prop} (hn : hk 77 [(.agg [d_0,d_1,d_2,(.int .i64 d_3),(.bool d_4),(.int .i64 d_5),(.int .i64 d_6),(.int .i64 d_7)])] w = none) (h : F77 hk d_0 d_1 d_2 d_3 d_4 d_5 d_6 d_7 w K) : Cl Try.prog hk 77 [(.agg [d_0,d_1,d_2,(.int .i64 d_3),(.bool d_4),(.int .i64 d_5),(.int .i64 d_6),(.int .i64 d_7)])] w K :=
 fnS_ok Try.func77 hn (by rw [eq77]; exact h)
def F78 (hk : Hook) (s_0 : AV) (s_1 : AV) (name_2 : List UInt8) (w : AW) (K : AV → AW → Prop) : Prop :=
 gd (List.all [s_0,s_1] okCell) (
 new w [s_0,s_1] fun b_3 w_4 =>
 loopP [(.int .i64 0)] w_4 fun R_5 l_6 w_7 => ∃ i_8 : Int,l_6 = [(.int .i64 i_8)] ∧ ∀ _ : Nat → AV,
  onM (ld w_7 b_3 (0 + 0)) fun x_9 =>
  ∃ x_10 : Int,lenS x_9 = some (.int .i64 x_10) ∧
  ifT (decide (i_8 < x_10)) (onM (ld w_7 b_3 (0 + 0)) fun x_11 =>
  atP (idxS 2 x_11 (.int .i64 i_8)) fun b_12 o_13 =>
  ∃ x_14 : List UInt8,ld w_7 b_12 (o_13 + 0) = some (.str x_14) ∧
  ifT (x_14 == name_2) (onM (ld w_7 b_3 (0 + 0)) fun x_15 =>
  atP (idxS 2 x_15 (.int .i64 i_8)) fun b_16 o_17 =>
  ∃ x_18 : Int,ld w_7 b_16 (o_17 + 1) = some (.int .i64 x_18) ∧
  K (.int .i64 x_18) w_7)
  (R_5 [(.int .i64 (wi (i_8 + 1)))] w_7))
  (K (.int .i64 0) w_7))
def adv78 : Adv := (.sq .lf (.sq (.sq .lf (.bl (.lp [(5,.sc (.int .i64))] (.sq (.sq .lf (.cd .lf .lf)) (.sq (.bl (.sq .lf (.cd (.sq .lf .lf) .lf))) .lf))))) (.sq .lf .lf)))
set_option maxRecDepth 100000 in
theorem eq78 (hk : Hook) (s_0 : AV) (s_1 : AV) (name_2 : List UInt8) (w : AW) (K : AV → AW → Prop) : fnS Try.prog hk Try.f78 adv78 [(.agg [s_0,s_1]),(.str name_2)] w K = F78 hk s_0 s_1 name_2 w K := by kernel_rfl
theorem in78 {hk : Hook} {s_0 : AV} {s_1 : AV} {name_2 : List UInt8} {w : AW} {K : AV → AW → Prop} (hn : hk 78 [(.agg [s_0,s_1]),(.str name_2)] w = none) (h : F78 hk s_0 s_1 name_2 w K) : Cl Try.prog hk 78 [(.agg [s_0,s_1]),(.str name_2)] w K :=
 fnS_ok Try.func78 hn (by rw [eq78]; exact h)
def F79 (hk : Hook) (s_0 : List UInt8) (w : AW) (K : AV → AW → Prop) : Prop :=
 ifT (decide (0 < (Int.ofNat (List.length s_0)))) (K (.bool (decide ((Int.ofNat (List.length s_0)) ≤ 64))) w)
 (K (.bool false) w)
def adv79 : Adv := (.sq .lf (.sq .lf .lf))
set_option maxRecDepth 100000 in
theorem eq79 (hk : Hook) (s_0 : List UInt8) (w : AW) (K : AV → AW → Prop) : fnS Try.prog hk Try.f79 adv79 [(.str s_0)] w K = F79 hk s_0 w K := by kernel_rfl
theorem in79 {hk : Hook} {s_0 : List UInt8} {w : AW} {K : AV → AW → Prop} (hn : hk 79 [(.str s_0)] w = none) (h : F79 hk s_0 w K) : Cl Try.prog hk 79 [(.str s_0)] w K :=
 fnS_ok Try.func79 hn (by rw [eq79]; exact h)
def F80 (hk : Hook) (s_0 : AV) (s_1 : AV) (file_2 : Int) (w : AW) (K : AV → AW → Prop) : Prop :=
 gd (List.all [s_0,s_1] okCell) (
 new w [s_0,s_1] fun b_3 w_4 =>
 loopP [(.int .i64 0)] w_4 fun R_5 l_6 w_7 => ∃ i_8 : Int,l_6 = [(.int .i64 i_8)] ∧ ∀ _ : Nat → AV,
  onM (ld w_7 b_3 (0 + 1)) fun x_9 =>
  ∃ x_10 : Int,lenS x_9 = some (.int .i64 x_10) ∧
  ifT (decide (i_8 < x_10)) (onM (ld w_7 b_3 (0 + 1)) fun x_11 =>
  atP (idxS 2 x_11 (.int .i64 i_8)) fun b_12 o_13 =>
  ∃ x_14 : Int,ld w_7 b_12 (o_13 + 0) = some (.int .i64 x_14) ∧
  ifT (decide (x_14 = file_2)) (onM (ld w_7 b_3 (0 + 1)) fun x_15 =>
  atP (idxS 2 x_15 (.int .i64 i_8)) fun b_16 o_17 =>
  onM (ld w_7 b_16 (o_17 + 1)) fun x_18 =>
  K x_18 w_7)
  (R_5 [(.int .i64 (wi (i_8 + 1)))] w_7))
  (K .nilslice w_7))
def adv80 : Adv := (.sq .lf (.sq (.sq .lf (.bl (.lp [(5,.sc (.int .i64))] (.sq (.sq .lf (.cd .lf .lf)) (.sq (.bl (.sq .lf (.cd (.sq .lf .lf) .lf))) .lf))))) (.sq .lf .lf)))
set_option maxRecDepth 100000 in
theorem eq80 (hk : Hook) (s_0 : AV) (s_1 : AV) (file_2 : Int) (w : AW) (K : AV → AW → Prop) : fnS Try.prog hk Try.f80 adv80 [(.agg [s_0,s_1]),(.int .i64 file_2)] w K = F80 hk s_0 s_1 file_2 w K := by kernel_rfl
theorem in80 {hk : Hook} {s_0 : AV} {s_1 : AV} {file_2 : Int} {w : AW} {K : AV → AW → Prop} (hn : hk 80 [(.agg [s_0,s_1]),(.int .i64 file_2)] w = none) (h : F80 hk s_0 s_1 file_2 w K) : Cl Try.prog hk 80 [(.agg [s_0,s_1]),(.int .i64 file_2)] w K :=
 fnS_ok Try.func80 hn (by rw [eq80]; exact h)
def F81 (hk : Hook) (l_0 : AV) (w : AW) (K : AV → AW → Prop) : Prop :=
 onE (appS 1 1 w .nilslice l_0) fun x_1 w_2 =>
 K x_1 w_2
def adv81 : Adv := (.sq .lf (.sq .lf (.sq .lf .lf)))
set_option maxRecDepth 100000 in
theorem eq81 (hk : Hook) (l_0 : AV) (w : AW) (K : AV → AW → Prop) : fnS Try.prog hk Try.f81 adv81 [l_0] w K = F81 hk l_0 w K := by kernel_rfl
theorem in81 {hk : Hook} {l_0 : AV} {w : AW} {K : AV → AW → Prop} (hn : hk 81 [l_0] w = none) (h : F81 hk l_0 w K) : Cl Try.prog hk 81 [l_0] w K :=
 fnS_ok Try.func81 hn (by rw [eq81]; exact h)
def F82 (hk : Hook) (d_0 : AV) (d_1 : AV) (d_2 : AV) (d_3 : Int) (d_4 : Bool) (d_5 : Int) (d_6 : Int) (d_7 : Int) (l_8 : AV) (w : AW) (K : AV → AW → Prop) : Prop :=
 gd (List.all [d_0,d_1,d_2,(.int .i64 d_3),(.bool d_4),(.int .i64 d_5),(.int .i64 d_6),(.int .i64 d_7)] okCell) (
 new w [d_0,d_1,d_2,(.int .i64 d_3),(.bool d_4),(.int .i64 d_5),(.int .i64 d_6),(.int .i64 d_7)] fun b_9 w_10 =>
 new w_10 [.nilslice,.nilslice,.nilslice,(.int .i64 0),(.bool false),(.int .i64 0),(.int .i64 0),(.int .i64 0)] fun b_11 w_12 =>
 ∃ x_13 : AV,∃ x_14 : AV,∃ x_15 : AV,∃ x_16 : Int,∃ x_17 : Bool,∃ x_18 : Int,∃ x_19 : Int,∃ x_20 : Int,ldN 8 w_12 b_9 0 = some (.agg [x_13,x_14,x_15,(.int .i64 x_16),(.bool x_17),(.int .i64 x_18),(.int .i64 x_19),(.int .i64 x_20)]) ∧
 Cl Try.prog hk 91 [(.agg [x_13,x_14,x_15,(.int .i64 x_16),(.bool x_17),(.int .i64 x_18),(.int .i64 x_19),(.int .i64 x_20)])] w_12 fun r_21 w_22 =>
 ∃ x_23 : AV,∃ x_24 : AV,∃ x_25 : AV,∃ x_26 : Int,∃ x_27 : Bool,∃ x_28 : Int,∃ x_29 : Int,∃ x_30 : Int,∃ x_31 : Int,r_21 = .tup [(.agg [x_23,x_24,x_25,(.int .i64 x_26),(.bool x_27),(.int .i64 x_28),(.int .i64 x_29),(.int .i64 x_30)]),(.int .i64 x_31)] ∧
 new w_22 [.nilslice,.nilslice,.nilslice,(.int .i64 0),(.bool false),(.int .i64 0),(.int .i64 0),(.int .i64 0)] fun b_32 w_33 =>
 gd (List.all [x_23,x_24,x_25,(.int .i64 x_26),(.bool x_27),(.int .i64 x_28),(.int .i64 x_29),(.int .i64 x_30)] okCell) (
 onM (AW.putCells w_33 b_32 0 [x_23,x_24,x_25,(.int .i64 x_26),(.bool x_27),(.int .i64 x_28),(.int .i64 x_29),(.int .i64 x_30)]) fun w_34 =>
 ifT (!decide (x_31 = 0)) (∃ x_35 : AV,∃ x_36 : AV,∃ x_37 : AV,∃ x_38 : Int,∃ x_39 : Bool,∃ x_40 : Int,∃ x_41 : Int,∃ x_42 : Int,ldN 8 w_34 b_32 0 = some (.agg [x_35,x_36,x_37,(.int .i64 x_38),(.bool x_39),(.int .i64 x_40),(.int .i64 x_41),(.int .i64 x_42)]) ∧
  gd (List.all [x_35,x_36,x_37,(.int .i64 x_38),(.bool x_39),(.int .i64 x_40),(.int .i64 x_41),(.int .i64 x_42)] okCell) (
  onM (AW.putCells w_34 b_11 0 [x_35,x_36,x_37,(.int .i64 x_38),(.bool x_39),(.int .i64 x_40),(.int .i64 x_41),(.int .i64 x_42)]) fun w_43 =>
  ∃ res_44 : AV,∃ res_45 : AV,∃ res_46 : AV,∃ res_47 : Int,∃ res_48 : Bool,∃ res_49 : Int,∃ res_50 : Int,∃ res_51 : Int,ldN 8 w_43 b_11 0 = some (.agg [res_44,res_45,res_46,(.int .i64 res_47),(.bool res_48),(.int .i64 res_49),(.int .i64 res_50),(.int .i64 res_51)]) ∧
 K (.tup [(.agg [res_44,res_45,res_46,(.int .i64 res_47),(.bool res_48),(.int .i64 res_49),(.int .i64 res_50),(.int .i64 res_51)]),(.int .i64 x_31)]) w_43))
 (onM (ld w_34 b_9 (0 + 2)) fun x_52 =>
 onE (appS 6 80 w_34 .nilslice x_52) fun all_53 w_54 =>
 onE (appS 6 80 w_54 all_53 l_8) fun x_55 w_56 =>
 gd (okCell x_55) (
 onM (AW.putCells w_56 b_32 (0 + 2) [x_55]) fun w_57 =>
 ∃ x_58 : AV,∃ x_59 : AV,∃ x_60 : AV,∃ x_61 : Int,∃ x_62 : Bool,∃ x_63 : Int,∃ x_64 : Int,∃ x_65 : Int,ldN 8 w_57 b_32 0 = some (.agg [x_58,x_59,x_60,(.int .i64 x_61),(.bool x_62),(.int .i64 x_63),(.int .i64 x_64),(.int .i64 x_65)]) ∧
 gd (List.all [x_58,x_59,x_60,(.int .i64 x_61),(.bool x_62),(.int .i64 x_63),(.int .i64 x_64),(.int .i64 x_65)] okCell) (
 onM (AW.putCells w_57 b_11 0 [x_58,x_59,x_60,(.int .i64 x_61),(.bool x_62),(.int .i64 x_63),(.int .i64 x_64),(.int .i64 x_65)]) fun w_66 =>
 ∃ res_67 : AV,∃ res_68 : AV,∃ res_69 : AV,∃ res_70 : Int,∃ res_71 : Bool,∃ res_72 : Int,∃ res_73 : Int,∃ res_74 : Int,ldN 8 w_66 b_11 0 = some (.agg [res_67,res_68,res_69,(.int .i64 res_70),(.bool res_71),(.int .i64 res_72),(.int .i64 res_73),(.int .i64 res_74)]) ∧
 K (.tup [(.agg [res_67,res_68,res_69,(.int .i64 res_70),(.bool res_71),(.int .i64 res_72),(.int .i64 res_73),(.int .i64 res_74)]),(.int .i64 0)]) w_66)))))
def adv82 : Adv := (.sq .lf (.sq .lf (.sq (.sq .lf (.cd (.sq .lf .lf) .lf)) (.sq .lf (.sq .lf (.sq .lf (.sq .lf .lf)))))))
set_option maxRecDepth 100000 in
theorem eq82 (hk : Hook) (d_0 : AV) (d_1 : AV) (d_2 : AV) (d_3 : Int) (d_4 : Bool) (d_5 : Int) (d_6 : Int) (d_7 : Int) (l_8 : AV) (w : AW) (K : AV → AW → Prop) : fnS Try.prog hk Try.f82 adv82 [(.agg [d_0,d_1,d_2,(.int .i64 d_3),(.bool d_4),(.int .i64 d_5),(.int .i64 d_6),(.int .i64 d_7)]),l_8] w K = F82 hk d_0 d_1 d_2 d_3 d_4 d_5 d_6 d_7 l_8 w K := by kernel_rfl
theorem in82 {hk : Hook} {d_0 : AV} {d_1 : AV} {d_2 : AV} {d_3 : Int} {d_4 : Bool} {d_5 : Int} {d_6 : Int} {d_7 : Int} {l_8 : AV} {w : AW} {K : AV → AW → Prop} (hn : hk 82 [(.agg [d_0,d_1,d_2,(.int .i64 d_3),(.bool d_4),(.int .i64 d_5),(.int .i64 d_6),(.int .i64 d_7)]),l_8] w = none) (h : F82 hk d_0 d_1 d_2 d_3 d_4 d_5 d_6 d_7 l_8 w K) : Cl Try.prog hk 82 [(.agg [d_0,d_1,d_2,(.int .i64 d_3),(.bool d_4),(.int .i64 d_5),(.int .i64 d_6),(.int .i64 d_7)]),l_8] w K :=
 fnS_ok Try.func82 hn (by rw [eq82]; exact h)
set_option maxRecDepth 100000 in
def F83 (hk : Hook) (d_0 : AV) (d_1 : AV) (d_2 : AV) (d_3 : Int) (d_4 : Bool) (d_5 : Int) (d_6 : Int) (d_7 : Int) (file_8 : Int) (w : AW) (K : AV → AW → Prop) : Prop :=
 gd (List.all [d_0,d_1,d_2,(.int .i64 d_3),(.bool d_4),(.int .i64 d_5),(.int .i64 d_6),(.int .i64 d_7)] okCell) (
 new w [d_0,d_1,d_2,(.int .i64 d_3),(.bool d_4),(.int .i64 d_5),(.int .i64 d_6),(.int .i64 d_7)] fun b_9 w_10 =>
 new w_10 [.nilslice,.nilslice,.nilslice,(.int .i64 0),(.bool false),(.int .i64 0),(.int .i64 0),(.int .i64 0)] fun b_11 w_12 =>
 ∃ x_13 : AV,∃ x_14 : AV,∃ x_15 : AV,∃ x_16 : Int,∃ x_17 : Bool,∃ x_18 : Int,∃ x_19 : Int,∃ x_20 : Int,ldN 8 w_12 b_9 0 = some (.agg [x_13,x_14,x_15,(.int .i64 x_16),(.bool x_17),(.int .i64 x_18),(.int .i64 x_19),(.int .i64 x_20)]) ∧
 Cl Try.prog hk 91 [(.agg [x_13,x_14,x_15,(.int .i64 x_16),(.bool x_17),(.int .i64 x_18),(.int .i64 x_19),(.int .i64 x_20)])] w_12 fun r_21 w_22 =>
 ∃ x_23 : AV,∃ x_24 : AV,∃ x_25 : AV,∃ x_26 : Int,∃ x_27 : Bool,∃ x_28 : Int,∃ x_29 : Int,∃ x_30 : Int,∃ x_31 : Int,r_21 = .tup [(.agg [x_23,x_24,x_25,(.int .i64 x_26),(.bool x_27),(.int .i64 x_28),(.int .i64 x_29),(.int .i64 x_30)]),(.int .i64 x_31)] ∧
 new w_22 [.nilslice,.nilslice,.nilslice,(.int .i64 0),(.bool false),(.int .i64 0),(.int .i64 0),(.int .i64 0)] fun b_32 w_33 =>
 gd (List.all [x_23,x_24,x_25,(.int .i64 x_26),(.bool x_27),(.int .i64 x_28),(.int .i64 x_29),(.int .i64 x_30)] okCell) (
 onM (AW.putCells w_33 b_32 0 [x_23,x_24,x_25,(.int .i64 x_26),(.bool x_27),(.int .i64 x_28),(.int .i64 x_29),(.int .i64 x_30)]) fun w_34 =>
 ifT (!decide (x_31 = 0)) (∃ x_35 : AV,∃ x_36 : AV,∃ x_37 : AV,∃ x_38 : Int,∃ x_39 : Bool,∃ x_40 : Int,∃ x_41 : Int,∃ x_42 : Int,ldN 8 w_34 b_32 0 = some (.agg [x_35,x_36,x_37,(.int .i64 x_38),(.bool x_39),(.int .i64 x_40),(.int .i64 x_41),(.int .i64 x_42)]) ∧
  gd (List.all [x_35,x_36,x_37,(.int .i64 x_38),(.bool x_39),(.int .i64 x_40),(.int .i64 x_41),(.int .i64 x_42)] okCell) (
  onM (AW.putCells w_34 b_11 0 [x_35,x_36,x_37,(.int .i64 x_38),(.bool x_39),(.int .i64 x_40),(.int .i64 x_41),(.int .i64 x_42)]) fun w_43 =>
  ∃ res_44 : AV,∃ res_45 : AV,∃ res_46 : AV,∃ res_47 : Int,∃ res_48 : Bool,∃ res_49 : Int,∃ res_50 : Int,∃ res_51 : Int,ldN 8 w_43 b_11 0 = some (.agg [res_44,res_45,res_46,(.int .i64 res_47),(.bool res_48),(.int .i64 res_49),(.int .i64 res_50),(.int .i64 res_51)]) ∧
 K (.tup [(.agg [res_44,res_45,res_46,(.int .i64 res_47),(.bool res_48),(.int .i64 res_49),(.int .i64 res_50),(.int .i64 res_51)]),(.int .i64 x_31)]) w_43))
 (loopP [(.int .i64 (-1)),(.int .i64 0)] w_34 fun R_52 l_53 w_54 => ∃ upto_55 : Int,∃ i_56 : Int,l_53 = [(.int .i64 upto_55),(.int .i64 i_56)] ∧ ∀ _ : Nat → AV,
  onM (ld w_54 b_9 (0 + 2)) fun x_57 =>
  ∃ x_58 : Int,lenS x_57 = some (.int .i64 x_58) ∧
  ifT (decide (i_56 < x_58)) (ifT (decide (file_8 = 0)) (R_52 [(.int .i64 i_56),(.int .i64 (wi (i_56 + 1)))] w_54)
  (onM (ld w_54 b_9 (0 + 2)) fun x_59 =>
  atP (idxS 6 x_59 (.int .i64 i_56)) fun b_60 o_61 =>
  ∃ x_62 : Int,ld w_54 b_60 (o_61 + 0) = some (.int .i64 x_62) ∧
  ifT (decide (x_62 = 1)) (onM (ld w_54 b_9 (0 + 2)) fun x_63 =>
  atP (idxS 6 x_63 (.int .i64 i_56)) fun b_64 o_65 =>
  ∃ x_66 : Int,ld w_54 b_64 (o_65 + 1) = some (.int .i64 x_66) ∧
  ifT (decide (x_66 = file_8)) (R_52 [(.int .i64 i_56),(.int .i64 (wi (i_56 + 1)))] w_54)
  (R_52 [(.int .i64 upto_55),(.int .i64 (wi (i_56 + 1)))] w_54))
  (R_52 [(.int .i64 upto_55),(.int .i64 (wi (i_56 + 1)))] w_54)))
  (loopP [.nilslice,(.int .i64 0)] w_54 fun R_67 l_68 w_69 => ∃ left_70 : AV,∃ i_71 : Int,l_68 = [left_70,(.int .i64 i_71)] ∧ ∀ _ : Nat → AV,
  onM (ld w_69 b_9 (0 + 2)) fun x_72 =>
  ∃ x_73 : Int,lenS x_72 = some (.int .i64 x_73) ∧
  ifT (decide (i_71 < x_73)) (onM (ld w_69 b_9 (0 + 2)) fun x_74 =>
  atP (idxS 6 x_74 (.int .i64 i_71)) fun b_75 o_76 =>
  ∃ x_77 : Int,∃ x_78 : Int,∃ x_79 : Int,∃ x_80 : AV,∃ x_81 : List UInt8,∃ x_82 : List UInt8,ldN 6 w_69 b_75 o_76 = some (.agg [(.int .i64 x_77),(.int .i64 x_78),(.int .i64 x_79),x_80,(.str x_81),(.str x_82)]) ∧
  new w_69 [(.int .i64 0),(.int .i64 0),(.int .i64 0),.nilslice,(.str []),(.str [])] fun b_83 w_84 =>
  gd (List.all [(.int .i64 x_77),(.int .i64 x_78),(.int .i64 x_79),x_80,(.str x_81),(.str x_82)] okCell) (
  onM (AW.putCells w_84 b_83 0 [(.int .i64 x_77),(.int .i64 x_78),(.int .i64 x_79),x_80,(.str x_81),(.str x_82)]) fun w_85 =>
  join (fun l_86 w_87 => ∃ sector_89 : Bool,l_86 = [(.bool sector_89)] ∧ ∀ _ : Nat → AV,
  ifT sector_89 (∃ x_90 : Int,ld w_87 b_83 (0 + 1) = some (.int .i64 x_90) ∧
  ifT (decide (x_90 = file_8)) (∃ x_91 : AV,∃ x_92 : AV,ldN 2 w_87 b_32 (0 + 0) = some (.agg [x_91,x_92]) ∧
  ∃ x_93 : Int,∃ x_94 : Int,∃ x_95 : Int,∃ x_96 : AV,∃ x_97 : List UInt8,∃ x_98 : List UInt8,ldN 6 w_87 b_83 0 = some (.agg [(.int .i64 x_93),(.int .i64 x_94),(.int .i64 x_95),x_96,(.str x_97),(.str x_98)]) ∧
  Cl Try.prog hk 67 [(.agg [x_91,x_92]),(.agg [(.int .i64 x_93),(.int .i64 x_94),(.int .i64 x_95),x_96,(.str x_97),(.str x_98)])] w_87 fun r_99 w_100 =>
  ∃ x_101 : AV,∃ x_102 : AV,r_99 = (.agg [x_101,x_102]) ∧
  gd (List.all [x_101,x_102] okCell) (
  onM (AW.putCells w_100 b_32 (0 + 0) [x_101,x_102]) fun w_103 =>
  R_67 [left_70,(.int .i64 (wi (i_71 + 1)))] w_103))
  (ifT (!sector_89) (ifT (decide (i_71 ≤ upto_55)) (∃ x_104 : AV,∃ x_105 : AV,ldN 2 w_87 b_32 (0 + 0) = some (.agg [x_104,x_105]) ∧
   ∃ x_106 : Int,∃ x_107 : Int,∃ x_108 : Int,∃ x_109 : AV,∃ x_110 : List UInt8,∃ x_111 : List UInt8,ldN 6 w_87 b_83 0 = some (.agg [(.int .i64 x_106),(.int .i64 x_107),(.int .i64 x_108),x_109,(.str x_110),(.str x_111)]) ∧
   Cl Try.prog hk 67 [(.agg [x_104,x_105]),(.agg [(.int .i64 x_106),(.int .i64 x_107),(.int .i64 x_108),x_109,(.str x_110),(.str x_111)])] w_87 fun r_112 w_113 =>
   ∃ x_114 : AV,∃ x_115 : AV,r_112 = (.agg [x_114,x_115]) ∧
   gd (List.all [x_114,x_115] okCell) (
   onM (AW.putCells w_113 b_32 (0 + 0) [x_114,x_115]) fun w_116 =>
   R_67 [left_70,(.int .i64 (wi (i_71 + 1)))] w_116))
  (∃ x_117 : Int,∃ x_118 : Int,∃ x_119 : Int,∃ x_120 : AV,∃ x_121 : List UInt8,∃ x_122 : List UInt8,ldN 6 w_87 b_83 0 = some (.agg [(.int .i64 x_117),(.int .i64 x_118),(.int .i64 x_119),x_120,(.str x_121),(.str x_122)]) ∧
   gd (List.all [(.int .i64 x_117),(.int .i64 x_118),(.int .i64 x_119),x_120,(.str x_121),(.str x_122)] okCell) (
   new w_87 [(.int .i64 x_117),(.int .i64 x_118),(.int .i64 x_119),x_120,(.str x_121),(.str x_122)] fun b_123 w_124 =>
   onE (appS 6 80 w_124 left_70 (.slice b_123 0 1 1 none)) fun left_125 w_126 =>
   R_67 [left_125,(.int .i64 (wi (i_71 + 1)))] w_126)))
  (∃ x_127 : Int,∃ x_128 : Int,∃ x_129 : Int,∃ x_130 : AV,∃ x_131 : List UInt8,∃ x_132 : List UInt8,ldN 6 w_87 b_83 0 = some (.agg [(.int .i64 x_127),(.int .i64 x_128),(.int .i64 x_129),x_130,(.str x_131),(.str x_132)]) ∧
  gd (List.all [(.int .i64 x_127),(.int .i64 x_128),(.int .i64 x_129),x_130,(.str x_131),(.str x_132)] okCell) (
  new w_87 [(.int .i64 x_127),(.int .i64 x_128),(.int .i64 x_129),x_130,(.str x_131),(.str x_132)] fun b_133 w_134 =>
  onE (appS 6 80 w_134 left_70 (.slice b_133 0 1 1 none)) fun left_135 w_136 =>
  R_67 [left_135,(.int .i64 (wi (i_71 + 1)))] w_136))))
  (ifT (!sector_89) (ifT (decide (i_71 ≤ upto_55)) (∃ x_137 : AV,∃ x_138 : AV,ldN 2 w_87 b_32 (0 + 0) = some (.agg [x_137,x_138]) ∧
   ∃ x_139 : Int,∃ x_140 : Int,∃ x_141 : Int,∃ x_142 : AV,∃ x_143 : List UInt8,∃ x_144 : List UInt8,ldN 6 w_87 b_83 0 = some (.agg [(.int .i64 x_139),(.int .i64 x_140),(.int .i64 x_141),x_142,(.str x_143),(.str x_144)]) ∧
   Cl Try.prog hk 67 [(.agg [x_137,x_138]),(.agg [(.int .i64 x_139),(.int .i64 x_140),(.int .i64 x_141),x_142,(.str x_143),(.str x_144)])] w_87 fun r_145 w_146 =>
   ∃ x_147 : AV,∃ x_148 : AV,r_145 = (.agg [x_147,x_148]) ∧
   gd (List.all [x_147,x_148] okCell) (
   onM (AW.putCells w_146 b_32 (0 + 0) [x_147,x_148]) fun w_149 =>
   R_67 [left_70,(.int .i64 (wi (i_71 + 1)))] w_149))
  (∃ x_150 : Int,∃ x_151 : Int,∃ x_152 : Int,∃ x_153 : AV,∃ x_154 : List UInt8,∃ x_155 : List UInt8,ldN 6 w_87 b_83 0 = some (.agg [(.int .i64 x_150),(.int .i64 x_151),(.int .i64 x_152),x_153,(.str x_154),(.str x_155)]) ∧
   gd (List.all [(.int .i64 x_150),(.int .i64 x_151),(.int .i64 x_152),x_153,(.str x_154),(.str x_155)] okCell) (
   new w_87 [(.int .i64 x_150),(.int .i64 x_151),(.int .i64 x_152),x_153,(.str x_154),(.str x_155)] fun b_156 w_157 =>
   onE (appS 6 80 w_157 left_70 (.slice b_156 0 1 1 none)) fun left_158 w_159 =>
   R_67 [left_158,(.int .i64 (wi (i_71 + 1)))] w_159)))
  (∃ x_160 : Int,∃ x_161 : Int,∃ x_162 : Int,∃ x_163 : AV,∃ x_164 : List UInt8,∃ x_165 : List UInt8,ldN 6 w_87 b_83 0 = some (.agg [(.int .i64 x_160),(.int .i64 x_161),(.int .i64 x_162),x_163,(.str x_164),(.str x_165)]) ∧
  gd (List.all [(.int .i64 x_160),(.int .i64 x_161),(.int .i64 x_162),x_163,(.str x_164),(.str x_165)] okCell) (
  new w_87 [(.int .i64 x_160),(.int .i64 x_161),(.int .i64 x_162),x_163,(.str x_164),(.str x_165)] fun b_166 w_167 =>
  onE (appS 6 80 w_167 left_70 (.slice b_166 0 1 1 none)) fun left_168 w_169 =>
  R_67 [left_168,(.int .i64 (wi (i_71 + 1)))] w_169)))) fun J_88 =>
  ∃ x_170 : Int,ld w_85 b_83 (0 + 0) = some (.int .i64 x_170) ∧
  ifT (decide (x_170 = 2)) (J_88 [(.bool true)] w_85)
  (∃ x_171 : Int,ld w_85 b_83 (0 + 0) = some (.int .i64 x_171) ∧
  J_88 [(.bool (decide (x_171 = 3)))] w_85)))
  (gd (okCell left_70) (
 onM (AW.putCells w_69 b_32 (0 + 2) [left_70]) fun w_172 =>
 ∃ x_173 : AV,∃ x_174 : AV,∃ x_175 : AV,∃ x_176 : Int,∃ x_177 : Bool,∃ x_178 : Int,∃ x_179 : Int,∃ x_180 : Int,ldN 8 w_172 b_32 0 = some (.agg [x_173,x_174,x_175,(.int .i64 x_176),(.bool x_177),(.int .i64 x_178),(.int .i64 x_179),(.int .i64 x_180)]) ∧
 gd (List.all [x_173,x_174,x_175,(.int .i64 x_176),(.bool x_177),(.int .i64 x_178),(.int .i64 x_179),(.int .i64 x_180)] okCell) (
 onM (AW.putCells w_172 b_11 0 [x_173,x_174,x_175,(.int .i64 x_176),(.bool x_177),(.int .i64 x_178),(.int .i64 x_179),(.int .i64 x_180)]) fun w_181 =>
 ∃ res_182 : AV,∃ res_183 : AV,∃ res_184 : AV,∃ res_185 : Int,∃ res_186 : Bool,∃ res_187 : Int,∃ res_188 : Int,∃ res_189 : Int,ldN 8 w_181 b_11 0 = some (.agg [res_182,res_183,res_184,(.int .i64 res_185),(.bool res_186),(.int .i64 res_187),(.int .i64 res_188),(.int .i64 res_189)]) ∧
 K (.tup [(.agg [res_182,res_183,res_184,(.int .i64 res_185),(.bool res_186),(.int .i64 res_187),(.int .i64 res_188),(.int .i64 res_189)]),(.int .i64 0)]) w_181)))))))
def adv83 : Adv := (.sq .lf (.sq .lf (.sq (.sq .lf (.cd (.sq .lf .lf) .lf)) (.sq .lf (.sq (.sq .lf (.bl (.lp [(8,.sc (.int .i64)),(9,.sc (.int .i64))] (.sq (.sq .lf (.cd .lf .lf)) (.sq (.bl (.sq .lf (.cd .lf .lf))) .lf))))) (.sq .lf (.sq (.sq .lf (.bl (.lp [(10,.sc (.opq)),(11,.sc (.int .i64))] (.sq (.sq .lf (.cd .lf .lf)) (.sq (.bl (.sq .lf (.sj [(13,.sc (.bool))] .lf (.sq .lf (.cd .lf .lf))))) .lf))))) (.sq .lf (.sq .lf .lf)))))))))
set_option maxRecDepth 100000 in
theorem eq83 (hk : Hook) (d_0 : AV) (d_1 : AV) (d_2 : AV) (d_3 : Int) (d_4 : Bool) (d_5 : Int) (d_6 : Int) (d_7 : Int) (file_8 : Int) (w : AW) (K : AV → AW → Prop) : fnS Try.prog hk Try.f83 adv83 [(.agg [d_0,d_1,d_2,(.int .i64 d_3),(.bool d_4),(.int .i64 d_5),(.int .i64 d_6),(.int .i64 d_7)]),(.int .i64 file_8)] w K = F83 hk d_0 d_1 d_2 d_3 d_4 d_5 d_6 d_7 file_8 w K := by kernel_rfl
theorem in83 {hk : Hook} {d_0 : AV} {d_1 : AV} {d_2 : AV} {d_3 : Int} {d_4 : Bool} {d_5 : Int} {d_6 : Int} {d_7 : Int} {file_8 : Int} {w : AW} {K : AV → AW → Prop} (hn : hk 83 [(.agg [d_0,d_1,d_2,(.int .i64 d_3),(.bool d_4),(.int .i64 d_5),(.int .i64 d_6),(.int .i64 d_7)]),(.int .i64 file_8)] w = none) (h : F83 hk d_0 d_1 d_2 d_3 d_4 d_5 d_6 d_7 file_8 w K) : Cl Try.prog hk 83 [(.agg [d_0,d_1,d_2,(.int .i64 d_3),(.bool d_4),(.int .i64 d_5),(.int .i64 d_6),(.int .i64 d_7)]),(.int .i64 file_8)] w K :=
 fnS_ok Try.func83 hn (by rw [eq83]; exact h)
def F84 (hk : Hook) (s_0 : AV) (s_1 : AV) (name_2 : List UInt8) (w : AW) (K : AV → AW → Prop) : Prop :=
 gd (List.all [s_0,s_1] okCell) (
 new w [s_0,s_1] fun b_3 w_4 =>
 new w_4 [.nilslice,.nilslice] fun b_5 w_6 =>
 loopP [.nilslice,(.int .i64 0)] w_6 fun R_7 l_8 w_9 => ∃ l_10 : AV,∃ i_11 : Int,l_8 = [l_10,(.int .i64 i_11)] ∧ ∀ _ : Nat → AV,
  onM (ld w_9 b_3 (0 + 0)) fun x_12 =>
  ∃ x_13 : Int,lenS x_12 = some (.int .i64 x_13) ∧
  ifT (decide (i_11 < x_13)) (onM (ld w_9 b_3 (0 + 0)) fun x_14 =>
  atP (idxS 2 x_14 (.int .i64 i_11)) fun b_15 o_16 =>
  ∃ x_17 : List UInt8,ld w_9 b_15 (o_16 + 0) = some (.str x_17) ∧
  ifT (!(x_17 == name_2)) (onM (ld w_9 b_3 (0 + 0)) fun x_18 =>
  atP (idxS 2 x_18 (.int .i64 i_11)) fun b_19 o_20 =>
  ∃ x_21 : List UInt8,∃ x_22 : Int,ldN 2 w_9 b_19 o_20 = some (.agg [(.str x_21),(.int .i64 x_22)]) ∧
  new w_9 [(.str x_21),(.int .i64 x_22)] fun b_23 w_24 =>
  onE (appS 2 24 w_24 l_10 (.slice b_23 0 1 1 none)) fun l_25 w_26 =>
  R_7 [l_25,(.int .i64 (wi (i_11 + 1)))] w_26)
  (R_7 [l_10,(.int .i64 (wi (i_11 + 1)))] w_9))
  (gd (okCell l_10) (
 onM (AW.putCells w_9 b_3 (0 + 0) [l_10]) fun w_27 =>
 ∃ x_28 : AV,∃ x_29 : AV,ldN 2 w_27 b_3 0 = some (.agg [x_28,x_29]) ∧
 gd (List.all [x_28,x_29] okCell) (
 onM (AW.putCells w_27 b_5 0 [x_28,x_29]) fun w_30 =>
 ∃ res_31 : AV,∃ res_32 : AV,ldN 2 w_30 b_5 0 = some (.agg [res_31,res_32]) ∧
 K (.agg [res_31,res_32]) w_30))))
def adv84 : Adv := (.sq .lf (.sq .lf (.sq (.sq .lf (.bl (.lp [(5,.sc (.opq)),(6,.sc (.int .i64))] (.sq (.sq .lf (.cd .lf .lf)) (.sq (.bl (.sq .lf (.cd .lf .lf))) .lf))))) (.sq .lf (.sq .lf .lf)))))
set_option maxRecDepth 100000 in
theorem eq84 (hk : Hook) (s_0 : AV) (s_1 : AV) (name_2 : List UInt8) (w : AW) (K : AV → AW → Prop) : fnS Try.prog hk Try.f84 adv84 [(.agg [s_0,s_1]),(.str name_2)] w K = F84 hk s_0 s_1 name_2 w K := by kernel_rfl
theorem in84 {hk : Hook} {s_0 : AV} {s_1 : AV} {name_2 : List UInt8} {w : AW} {K : AV → AW → Prop} (hn : hk 84 [(.agg [s_0,s_1]),(.str name_2)] w = none) (h : F84 hk s_0 s_1 name_2 w K) : Cl Try.prog hk 84 [(.agg [s_0,s_1]),(.str name_2)] w K :=
 fnS_ok Try.func84 hn (by rw [eq84]; exact h)
def F85 (hk : Hook) (s_0 : AV) (s_1 : AV) (file_2 : Int) (sectors_3 : AV) (w : AW) (K : AV → AW → Prop) : Prop :=
 gd (List.all [s_0,s_1] okCell) (
 new w [s_0,s_1] fun b_4 w_5 =>
 new w_5 [.nilslice,.nilslice] fun b_6 w_7 =>
 loopP [.nilslice,(.int .i64 0)] w_7 fun R_8 l_9 w_10 => ∃ l_11 : AV,∃ i_12 : Int,l_9 = [l_11,(.int .i64 i_12)] ∧ ∀ _ : Nat → AV,
  onM (ld w_10 b_4 (0 + 1)) fun x_13 =>
  ∃ x_14 : Int,lenS x_13 = some (.int .i64 x_14) ∧
  ifT (decide (i_12 < x_14)) (onM (ld w_10 b_4 (0 + 1)) fun x_15 =>
  atP (idxS 2 x_15 (.int .i64 i_12)) fun b_16 o_17 =>
  ∃ x_18 : Int,ld w_10 b_16 (o_17 + 0) = some (.int .i64 x_18) ∧
  ifT (!decide (x_18 = file_2)) (onM (ld w_10 b_4 (0 + 1)) fun x_19 =>
  atP (idxS 2 x_19 (.int .i64 i_12)) fun b_20 o_21 =>
  ∃ x_22 : Int,∃ x_23 : AV,ldN 2 w_10 b_20 o_21 = some (.agg [(.int .i64 x_22),x_23]) ∧
  gd (List.all [(.int .i64 x_22),x_23] okCell) (
  new w_10 [(.int .i64 x_22),x_23] fun b_24 w_25 =>
  onE (appS 2 32 w_25 l_11 (.slice b_24 0 1 1 none)) fun l_26 w_27 =>
  R_8 [l_26,(.int .i64 (wi (i_12 + 1)))] w_27))
  (R_8 [l_11,(.int .i64 (wi (i_12 + 1)))] w_10))
  (gd (okCell sectors_3) (
 gd (List.all [(.int .i64 file_2),sectors_3] okCell) (
 new w_10 [(.int .i64 file_2),sectors_3] fun b_28 w_29 =>
 onE (appS 2 32 w_29 l_11 (.slice b_28 0 1 1 none)) fun x_30 w_31 =>
 gd (okCell x_30) (
 onM (AW.putCells w_31 b_4 (0 + 1) [x_30]) fun w_32 =>
 ∃ x_33 : AV,∃ x_34 : AV,ldN 2 w_32 b_4 0 = some (.agg [x_33,x_34]) ∧
 gd (List.all [x_33,x_34] okCell) (
 onM (AW.putCells w_32 b_6 0 [x_33,x_34]) fun w_35 =>
 ∃ res_36 : AV,∃ res_37 : AV,ldN 2 w_35 b_6 0 = some (.agg [res_36,res_37]) ∧
 K (.agg [res_36,res_37]) w_35))))))
def adv85 : Adv := (.sq .lf (.sq .lf (.sq (.sq .lf (.bl (.lp [(7,.sc (.opq)),(8,.sc (.int .i64))] (.sq (.sq .lf (.cd .lf .lf)) (.sq (.bl (.sq .lf (.cd .lf .lf))) .lf))))) (.sq .lf (.sq .lf .lf)))))
set_option maxRecDepth 100000 in
theorem eq85 (hk : Hook) (s_0 : AV) (s_1 : AV) (file_2 : Int) (sectors_3 : AV) (w : AW) (K : AV → AW → Prop) : fnS Try.prog hk Try.f85 adv85 [(.agg [s_0,s_1]),(.int .i64 file_2),sectors_3] w K = F85 hk s_0 s_1 file_2 sectors_3 w K := by kernel_rfl
theorem in85 {hk : Hook} {s_0 : AV} {s_1 : AV} {file_2 : Int} {sectors_3 : AV} {w : AW} {K : AV → AW → Prop} (hn : hk 85 [(.agg [s_0,s_1]),(.int .i64 file_2),sectors_3] w = none) (h : F85 hk s_0 s_1 file_2 sectors_3 w K) : Cl Try.prog hk 85 [(.agg [s_0,s_1]),(.int .i64 file_2),sectors_3] w K :=
 fnS_ok Try.func85 hn (by rw [eq85]; exact h)
set_option maxRecDepth 100000 in
def F91 (hk : Hook) (d_0 : AV) (d_1 : AV) (d_2 : AV) (d_3 : Int) (d_4 : Bool) (d_5 : Int) (d_6 : Int) (d_7 : Int) (w : AW) (K : AV → AW → Prop) : Prop :=
  gd (List.all [d_0, d_1, d_2, (.int .i64 d_3), (.bool d_4), (.int .i64 d_5), (.int .i64 d_6), (.int .i64 d_7)] okCell) (
  new w [d_0, d_1, d_2, (.int .i64 d_3), (.bool d_4), (.int .i64 d_5), (.int .i64 d_6), (.int .i64 d_7)] fun b_8 w_9 =>
  new w_9 [.nilslice, .nilslice, .nilslice, (.int .i64 0), (.bool false), (.int .i64 0), (.int .i64 0), (.int .i64 0)] fun b_10 w_11 =>
  ∃ x_12 : Bool, ld w_11 b_8 (0 + 4) = some (.bool x_12) ∧
  ifT x_12 (∃ x_13 : AV, ∃ x_14 : AV, ∃ x_15 : AV, ∃ x_16 : Int, ∃ x_17 : Bool, ∃ x_18 : Int, ∃ x_19 : Int, ∃ x_20 : Int, ldN 8 w_11 b_8 0 = some (.agg [x_13, x_14, x_15, (.int .i64 x_16), (.bool x_17), (.int .i64 x_18), (.int .i64 x_19), (.int .i64 x_20)]) ∧
   gd (List.all [x_13, x_14, x_15, (.int .i64 x_16), (.bool x_17), (.int .i64 x_18), (.int .i64 x_19), (.int .i64 x_20)] okCell) (
   onM (AW.putCells w_11 b_10 0 [x_13, x_14, x_15, (.int .i64 x_16), (.bool x_17), (.int .i64 x_18), (.int .i64 x_19), (.int .i64 x_20)]) fun w_21 =>
   ∃ res_22 : AV, ∃ res_23 : AV, ∃ res_24 : AV, ∃ res_25 : Int, ∃ res_26 : Bool, ∃ res_27 : Int, ∃ res_28 : Int, ∃ res_29 : Int, ldN 8 w_21 b_10 0 = some (.agg [res_22, res_23, res_24, (.int .i64 res_25), (.bool res_26), (.int .i64 res_27), (.int .i64 res_28), (.int .i64 res_29)]) ∧
  K (.tup [(.agg [res_22, res_23, res_24, (.int .i64 res_25), (.bool res_26), (.int .i64 res_27), (.int .i64 res_28), (.int .i64 res_29)]), (.int .i64 6)]) w_21))
  (∃ x_30 : Int, ld w_11 b_8 (0 + 5) = some (.int .i64 x_30) ∧
  ∃ x_31 : Int, ld w_11 b_8 (0 + 6) = some (.int .i64 x_31) ∧
  join (fun l_32 w_33 => l_32 = [] ∧ ∀ _ : Nat → AV,
   join (fun l_35 w_36 => l_35 = [] ∧ ∀ _ : Nat → AV,
    ifT (decide (x_30 = 0)) (onM (AW.putCells w_36 b_8 (0 + 4) [(.bool true)]) fun w_38 =>
     ∃ x_39 : AV, ∃ x_40 : AV, ∃ x_41 : AV, ∃ x_42 : Int, ∃ x_43 : Bool, ∃ x_44 : Int, ∃ x_45 : Int, ∃ x_46 : Int, ldN 8 w_38 b_8 0 = some (.agg [x_39, x_40, x_41, (.int .i64 x_42), (.bool x_43), (.int .i64 x_44), (.int .i64 x_45), (.int .i64 x_46)]) ∧
     gd (List.all [x_39, x_40, x_41, (.int .i64 x_42), (.bool x_43), (.int .i64 x_44), (.int .i64 x_45), (.int .i64 x_46)] okCell) (
     onM (AW.putCells w_38 b_10 0 [x_39, x_40, x_41, (.int .i64 x_42), (.bool x_43), (.int .i64 x_44), (.int .i64 x_45), (.int .i64 x_46)]) fun w_47 =>
     ∃ res_48 : AV, ∃ res_49 : AV, ∃ res_50 : AV, ∃ res_51 : Int, ∃ res_52 : Bool, ∃ res_53 : Int, ∃ res_54 : Int, ∃ res_55 : Int, ldN 8 w_47 b_10 0 = some (.agg [res_48, res_49, res_50, (.int .i64 res_51), (.bool res_52), (.int .i64 res_53), (.int .i64 res_54), (.int .i64 res_55)]) ∧
  K (.tup [(.agg [res_48, res_49, res_50, (.int .i64 res_51), (.bool res_52), (.int .i64 res_53), (.int .i64 res_54), (.int .i64 res_55)]), (.int .i64 6)]) w_47))
    (ifT (decide (x_31 = 0)) (∃ x_56 : AV, ∃ x_57 : AV, ∃ x_58 : AV, ∃ x_59 : Int, ∃ x_60 : Bool, ∃ x_61 : Int, ∃ x_62 : Int, ∃ x_63 : Int, ldN 8 w_36 b_8 0 = some (.agg [x_56, x_57, x_58, (.int .i64 x_59), (.bool x_60), (.int .i64 x_61), (.int .i64 x_62), (.int .i64 x_63)]) ∧
     ∃ x_64 : Int, ld w_36 b_8 (0 + 7) = some (.int .i64 x_64) ∧
     gd (List.all [x_56, x_57, x_58, (.int .i64 x_59), (.bool x_60), (.int .i64 x_61), (.int .i64 x_62), (.int .i64 x_63)] okCell) (
     onM (AW.putCells w_36 b_10 0 [x_56, x_57, x_58, (.int .i64 x_59), (.bool x_60), (.int .i64 x_61), (.int .i64 x_62), (.int .i64 x_63)]) fun w_65 =>
     ld w_65 b_8 (0 + 7) = some (.int .i64 x_64) ∧
     ∃ res_66 : AV, ∃ res_67 : AV, ∃ res_68 : AV, ∃ res_69 : Int, ∃ res_70 : Bool, ∃ res_71 : Int, ∃ res_72 : Int, ∃ res_73 : Int, ldN 8 w_65 b_10 0 = some (.agg [res_66, res_67, res_68, (.int .i64 res_69), (.bool res_70), (.int .i64 res_71), (.int .i64 res_72), (.int .i64 res_73)]) ∧
  K (.tup [(.agg [res_66, res_67, res_68, (.int .i64 res_69), (.bool res_70), (.int .i64 res_71), (.int .i64 res_72), (.int .i64 res_73)]), (.int .i64 x_64)]) w_65))
    (∃ x_74 : AV, ∃ x_75 : AV, ∃ x_76 : AV, ∃ x_77 : Int, ∃ x_78 : Bool, ∃ x_79 : Int, ∃ x_80 : Int, ∃ x_81 : Int, ldN 8 w_36 b_8 0 = some (.agg [x_74, x_75, x_76, (.int .i64 x_77), (.bool x_78), (.int .i64 x_79), (.int .i64 x_80), (.int .i64 x_81)]) ∧
    gd (List.all [x_74, x_75, x_76, (.int .i64 x_77), (.bool x_78), (.int .i64 x_79), (.int .i64 x_80), (.int .i64 x_81)] okCell) (
    onM (AW.putCells w_36 b_10 0 [x_74, x_75, x_76, (.int .i64 x_77), (.bool x_78), (.int .i64 x_79), (.int .i64 x_80), (.int .i64 x_81)]) fun w_82 =>
    ∃ res_83 : AV, ∃ res_84 : AV, ∃ res_85 : AV, ∃ res_86 : Int, ∃ res_87 : Bool, ∃ res_88 : Int, ∃ res_89 : Int, ∃ res_90 : Int, ldN 8 w_82 b_10 0 = some (.agg [res_83, res_84, res_85, (.int .i64 res_86), (.bool res_87), (.int .i64 res_88), (.int .i64 res_89), (.int .i64 res_90)]) ∧
  K (.tup [(.agg [res_83, res_84, res_85, (.int .i64 res_86), (.bool res_87), (.int .i64 res_88), (.int .i64 res_89), (.int .i64 res_90)]), (.int .i64 0)]) w_82)))) fun J_37 =>
   ∃ x_91 : Int, ld w_33 b_8 (0 + 6) = some (.int .i64 x_91) ∧
   ifT (decide (0 ≤ x_91)) (∃ x_92 : Int, ld w_33 b_8 (0 + 6) = some (.int .i64 x_92) ∧
    onM (AW.putCells w_33 b_8 (0 + 6) [(.int .i64 (wi (x_92 - 1)))]) fun w_93 =>
    J_37 [] w_93)
   (J_37 [] w_33)) fun J_34 =>
  ∃ x_94 : Int, ld w_11 b_8 (0 + 5) = some (.int .i64 x_94) ∧
  ifT (decide (0 ≤ x_94)) (∃ x_95 : Int, ld w_11 b_8 (0 + 5) = some (.int .i64 x_95) ∧
   onM (AW.putCells w_11 b_8 (0 + 5) [(.int .i64 (wi (x_95 - 1)))]) fun w_96 =>
   J_34 [] w_96)
  (J_34 [] w_11)))
def adv91 : Adv := (.sq .lf (.sq (.sq .lf (.cd (.sq .lf .lf) .lf)) (.sq .lf (.sj [] (.sq .lf (.cd .lf .lf)) (.sj [] (.sq .lf (.cd .lf .lf)) (.sq (.sq .lf (.cd (.sq .lf (.sq .lf .lf)) .lf)) (.sq (.sq .lf (.cd (.sq .lf .lf) .lf)) (.sq .lf .lf))))))))
set_option maxRecDepth 100000 in
theorem eq91 (hk : Hook) (d_0 : AV) (d_1 : AV) (d_2 : AV) (d_3 : Int) (d_4 : Bool) (d_5 : Int) (d_6 : Int) (d_7 : Int) (w : AW) (K : AV → AW → Prop) : fnS Try.prog hk Try.f91 adv91 [(.agg [d_0,d_1,d_2,(.int .i64 d_3),(.bool d_4),(.int .i64 d_5),(.int .i64 d_6),(.int .i64 d_7)])] w K = F91 hk d_0 d_1 d_2 d_3 d_4 d_5 d_6 d_7 w K := by kernel_rfl
theorem in91 {hk : Hook} {d_0 : AV} {d_1 : AV} {d_2 : AV} {d_3 : Int} {d_4 : Bool} {d_5 : Int} {d_6 : Int} {d_7 : Int} {w : AW} {K : AV → AW → Prop} (hn : hk 91 [(.agg [d_0,d_1,d_2,(.int .i64 d_3),(.bool d_4),(.int .i64 d_5),(.int .i64 d_6),(.int .i64 d_7)])] w = none) (h : F91 hk d_0 d_1 d_2 d_3 d_4 d_5 d_6 d_7 w K) : Cl Try.prog hk 91 [(.agg [d_0,d_1,d_2,(.int .i64 d_3),(.bool d_4),(.int .i64 d_5),(.int .i64 d_6),(.int .i64 d_7)])] w K :=
 fnS_ok Try.func91 hn (by rw [eq91]; exact h)
end Go.Proofs.Ytbjeebgdjlemjaa
