/-
 What the functions of this chapter do.
 No condition beyond those that each theorem names.
-/
import Derived.Test.YtlejeoajnfaloaaGreatDoorSxu
import Derived.Test.YtlejeoajnfaloaaGreatDoorProg
import Derived.KernelRfl
import Derived.Test.YtlejeoajnfaloaaGreatDoorSxt
import Derived.Test.YtlejeoajnfaloaaGreatDoorSxp
import Derived.Test.YtlejeoajnfaloaaGreatDoorSxl
import Derived.Test.YtlejeoajnfaloaaGreatDoorSxm
import Derived.Shelf.SortM.Plain
import Derived.Shelf.SortM.SortNone
import Derived.Ground.GgzProg
import Derived.Ground.SlgmProg
set_option linter.unusedSimpArgs false
open Go.Sx
set_option linter.unusedVariables false
namespace Go.Proofs.YtlejeoajnfaloaaGreatDoor
def F5 (hk : Hook) (n_0 : Int) (m_1 : List UInt8) (m_2 : Int) (m_3 : Int) (m_4 : Int) (m_5 : Int) (m_6 : Int) (m_7 : Int) (m_8 : Int) (m_9 : Int) (m_10 : Bool) (m_11 : AV) (m_12 : AV) (b_13 : AV) (w : AW) (K : AV → AW → Prop) : Prop :=
 gd (List.all [(.str m_1), (.int .u8 m_2), (.int .i64 m_3), (.int .i64 m_4), (.int .i64 m_5), (.int .i64 m_6), (.int .i64 m_7), (.int .i64 m_8), (.int .i64 m_9), (.bool m_10), m_11, m_12] okCell) (
 new w [(.str m_1), (.int .u8 m_2), (.int .i64 m_3), (.int .i64 m_4), (.int .i64 m_5), (.int .i64 m_6), (.int .i64 m_7), (.int .i64 m_8), (.int .i64 m_9), (.bool m_10), m_11, m_12] fun b_14 w_15 =>
 new w_15 [.nilptr, (.str []), (.int .i64 0), (.int .i64 0), (.int .u8 0), (.int .i64 0), (.int .i64 0), (.int .i64 0), (.int .i64 0), (.int .i64 0), .nilslice, .nilslice, (.int .i64 0), .nilslice, .nilslice, .nilslice, .nilslice, (.int .i64 0), (.int .i64 0), (.int .i64 0), .nilslice, .nilptr, (.int .i64 0), (.bool false)] fun b_16 w_17 =>
 new w_17 [.nilptr, (.ptr b_16 0)] fun b_18 w_19 =>
 ∃ x_20 : Int, lenS (.slice b_18 0 2 2 none) = some (.int .i64 x_20) ∧
 loopP [(.int .i64 0)] w_19 fun R_21 l_22 w_23 => ∃ x_24 : Int, l_22 = [(.int .i64 x_24)] ∧ ∀ _ : Nat → AV,
  ifT (decide (x_24 < x_20)) (atP (idxS 1 (.slice b_18 0 2 2 none) (.int .i64 x_24)) fun b_25 o_26 =>
  onM (ld w_23 b_25 o_26) fun p_27 =>
  Cl Tryz.prog hk 13 [p_27, (.int .i64 n_0)] w_23 fun r_28 w_29 =>
  ∃ x_30 : AV, ∃ x_31 : Int, r_28 = .tup [x_30, (.int .i64 x_31)] ∧
  ∃ x_32 : List UInt8, ∃ x_33 : Int, ∃ x_34 : Int, ∃ x_35 : Int, ∃ x_36 : Int, ∃ x_37 : Int, ∃ x_38 : Int, ∃ x_39 : Int, ∃ x_40 : Int, ∃ x_41 : Bool, ∃ x_42 : AV, ∃ x_43 : AV, ldN 12 w_29 b_14 0 = some (.agg [(.str x_32), (.int .u8 x_33), (.int .i64 x_34), (.int .i64 x_35), (.int .i64 x_36), (.int .i64 x_37), (.int .i64 x_38), (.int .i64 x_39), (.int .i64 x_40), (.bool x_41), x_42, x_43]) ∧
  Cl Tryz.prog hk 23 [p_27, (.agg [(.str x_32), (.int .u8 x_33), (.int .i64 x_34), (.int .i64 x_35), (.int .i64 x_36), (.int .i64 x_37), (.int .i64 x_38), (.int .i64 x_39), (.int .i64 x_40), (.bool x_41), x_42, x_43]), (.int .i64 n_0)] w_29 fun r_44 w_45 =>
  ∃ x_46 : AV, ∃ x_47 : Int, r_44 = .tup [x_46, (.int .i64 x_47)] ∧
  Cl Tryz.prog hk 14 [p_27, b_13] w_45 fun r_48 w_49 =>
  ∃ x_50 : Int, ∃ x_51 : AV, ∃ x_52 : Int, r_48 = .tup [(.int .i64 x_50), x_51, (.int .i64 x_52)] ∧
  Cl Tryz.prog hk 28 [p_27, (.int .i64 n_0)] w_49 fun r_53 w_54 =>
  ∃ x_55 : AV, ∃ x_56 : Int, r_53 = .tup [x_55, (.int .i64 x_56)] ∧
  Cl Tryz.prog hk 15 [p_27] w_54 fun r_57 w_58 =>
  ∃ x_59 : Int, ∃ x_60 : AV, r_57 = .tup [(.int .i64 x_59), x_60] ∧
  Cl Tryz.prog hk 22 [p_27] w_58 fun r_61 w_62 =>
  ∃ x_63 : Int, ∃ x_64 : AV, ∃ x_65 : Bool, r_61 = .tup [(.int .i64 x_63), x_64, (.bool x_65)] ∧
  ifT (!decide (x_31 = 1)) (K (.bool false) w_62)
  (ifT (!decide (x_47 = 1)) (K (.bool false) w_62)
  (ifT (!decide (x_52 = 1)) (K (.bool false) w_62)
  (ifT (!decide (x_56 = 1)) (K (.bool false) w_62)
  (Cl Tryz.prog hk 16 [p_27, (.int .i64 n_0), b_13] w_62 fun r_66 w_67 =>
  ∃ x_68 : Int, r_66 = (.int .i64 x_68) ∧
  ifT (!decide (x_68 = 1)) (K (.bool false) w_67)
  (be (wi ((wi (x_50 + x_59)) + x_63)) fun x_69 =>
  ∃ x_70 : Int, lenS x_30 = some (.int .i64 x_70) ∧
  ∃ x_71 : Int, lenS x_46 = some (.int .i64 x_71) ∧
  be (wi ((wi (x_69 + x_70)) + x_71)) fun x_72 =>
  ∃ x_73 : Int, lenS x_51 = some (.int .i64 x_73) ∧
  ∃ x_74 : Int, lenS x_55 = some (.int .i64 x_74) ∧
  be (wi ((wi (x_72 + x_73)) + x_74)) fun x_75 =>
  ∃ x_76 : Int, lenS x_60 = some (.int .i64 x_76) ∧
  ∃ x_77 : Int, lenS x_64 = some (.int .i64 x_77) ∧
  be (wi ((wi (x_75 + x_76)) + x_77)) fun x_78 =>
  Cl Tryz.prog hk 29 [p_27] w_67 fun r_79 w_80 =>
  ∃ x_81 : Int, lenS r_79 = some (.int .i64 x_81) ∧
  ifT (!decide ((wi (x_78 + x_81)) = 0)) (K (.bool false) w_80)
  (ifT x_65 (K (.bool false) w_80)
  (Cl Tryz.prog hk 27 [p_27] w_80 fun r_82 w_83 =>
  ∃ x_84 : Bool, r_82 = (.bool x_84) ∧
  ifT x_84 (K (.bool false) w_83)
  (Cl Tryz.prog hk 21 [p_27] w_83 fun r_85 w_86 =>
  ∃ x_87 : Int, ∃ x_88 : Int, ∃ x_89 : Int, ∃ x_90 : Int, ∃ x_91 : Int, ∃ x_92 : Int, ∃ x_93 : Int, ∃ x_94 : Int, ∃ x_95 : AV, ∃ x_96 : AV, ∃ x_97 : Int, ∃ x_98 : AV, ∃ x_99 : AV, ∃ x_100 : AV, ∃ x_101 : AV, ∃ x_102 : Int, ∃ x_103 : Int, ∃ x_104 : Int, ∃ x_105 : AV, r_85 = (.agg [(.int .i64 x_87), (.int .i64 x_88), (.int .u8 x_89), (.int .i64 x_90), (.int .i64 x_91), (.int .i64 x_92), (.int .i64 x_93), (.int .i64 x_94), x_95, x_96, (.int .i64 x_97), x_98, x_99, x_100, x_101, (.int .i64 x_102), (.int .i64 x_103), (.int .i64 x_104), x_105]) ∧
  ifT (!decide (x_88 = 0)) (K (.bool false) w_86)
  (R_21 [(.int .i64 (wi (x_24 + 1)))] w_86))))))))))
  (Cl Tryz.prog hk 10 [] w_23 fun r_106 w_107 =>
 ∃ x_108 : Bool, r_106 = (.bool x_108) ∧
 K (.bool x_108) w_107))
def adv5 : Adv := (.sq .lf (.sq .lf (.sq (.sq .lf (.bl (.lp [(29, .sc (.int .i64))] (.sq .lf (.sq (.cd .lf .lf) (.sq (.bl (.sq .lf (.sq .lf (.sq .lf (.sq .lf (.sq .lf (.sq .lf (.sq .lf (.sq .lf (.cd (.sq .lf .lf) .lf)))))))))) .lf)))))) (.sq .lf .lf))))
set_option maxRecDepth 100000 in
theorem eq5 (hk : Hook) (n_0 : Int) (m_1 : List UInt8) (m_2 : Int) (m_3 : Int) (m_4 : Int) (m_5 : Int) (m_6 : Int) (m_7 : Int) (m_8 : Int) (m_9 : Int) (m_10 : Bool) (m_11 : AV) (m_12 : AV) (b_13 : AV) (w : AW) (K : AV → AW → Prop) : fnS Tryz.prog hk Tryz.f5 adv5 [(.int .i64 n_0), (.agg [(.str m_1), (.int .u8 m_2), (.int .i64 m_3), (.int .i64 m_4), (.int .i64 m_5), (.int .i64 m_6), (.int .i64 m_7), (.int .i64 m_8), (.int .i64 m_9), (.bool m_10), m_11, m_12]), b_13] w K = F5 hk n_0 m_1 m_2 m_3 m_4 m_5 m_6 m_7 m_8 m_9 m_10 m_11 m_12 b_13 w K := by kernel_rfl
theorem in5 {hk : Hook} {n_0 : Int} {m_1 : List UInt8} {m_2 : Int} {m_3 : Int} {m_4 : Int} {m_5 : Int} {m_6 : Int} {m_7 : Int} {m_8 : Int} {m_9 : Int} {m_10 : Bool} {m_11 : AV} {m_12 : AV} {b_13 : AV} {w : AW} {K : AV → AW → Prop} (hn : hk 5 [(.int .i64 n_0), (.agg [(.str m_1), (.int .u8 m_2), (.int .i64 m_3), (.int .i64 m_4), (.int .i64 m_5), (.int .i64 m_6), (.int .i64 m_7), (.int .i64 m_8), (.int .i64 m_9), (.bool m_10), m_11, m_12]), b_13] w = none) (h : F5 hk n_0 m_1 m_2 m_3 m_4 m_5 m_6 m_7 m_8 m_9 m_10 m_11 m_12 b_13 w K) : Cl Tryz.prog hk 5 [(.int .i64 n_0), (.agg [(.str m_1), (.int .u8 m_2), (.int .i64 m_3), (.int .i64 m_4), (.int .i64 m_5), (.int .i64 m_6), (.int .i64 m_7), (.int .i64 m_8), (.int .i64 m_9), (.bool m_10), m_11, m_12]), b_13] w K :=
 fnS_ok Tryz.func5 hn (by rw [eq5]; exact h)
def F13 (hk : Hook) (p_0 : AV) (draw_1 : Int) (w : AW) (K : AV → AW → Prop) : Prop :=
 Cl Tryz.prog hk 44 [p_0] w fun r_2 w_3 =>
 ∃ e_4 : Int, r_2 = (.int .i64 e_4) ∧
 ifT (!decide (e_4 = 0)) (K (.tup [.nilslice, (.int .i64 e_4)]) w_3)
 (onP p_0 fun b_5 o_6 =>
 ∃ x_7 : Int, ∃ x_8 : Int, ∃ x_9 : Int, ∃ x_10 : Int, ∃ x_11 : Int, ∃ x_12 : Int, ∃ x_13 : Int, ∃ x_14 : Int, ∃ x_15 : AV, ∃ x_16 : AV, ∃ x_17 : Int, ∃ x_18 : AV, ∃ x_19 : AV, ∃ x_20 : AV, ∃ x_21 : AV, ∃ x_22 : Int, ∃ x_23 : Int, ∃ x_24 : Int, ∃ x_25 : AV, ldN 19 w_3 b_5 (o_6 + 2) = some (.agg [(.int .i64 x_7), (.int .i64 x_8), (.int .u8 x_9), (.int .i64 x_10), (.int .i64 x_11), (.int .i64 x_12), (.int .i64 x_13), (.int .i64 x_14), x_15, x_16, (.int .i64 x_17), x_18, x_19, x_20, x_21, (.int .i64 x_22), (.int .i64 x_23), (.int .i64 x_24), x_25]) ∧
 Cl Tryz.prog hk 46 [(.agg [(.int .i64 x_7), (.int .i64 x_8), (.int .u8 x_9), (.int .i64 x_10), (.int .i64 x_11), (.int .i64 x_12), (.int .i64 x_13), (.int .i64 x_14), x_15, x_16, (.int .i64 x_17), x_18, x_19, x_20, x_21, (.int .i64 x_22), (.int .i64 x_23), (.int .i64 x_24), x_25]), (.int .i64 draw_1)] w_3 fun r_26 w_27 =>
 ∃ x_28 : Int, ∃ x_29 : Int, ∃ x_30 : Int, ∃ x_31 : Int, ∃ x_32 : Int, ∃ x_33 : Int, ∃ x_34 : Int, ∃ x_35 : Int, ∃ x_36 : AV, ∃ x_37 : AV, ∃ x_38 : Int, ∃ x_39 : AV, ∃ x_40 : AV, ∃ x_41 : AV, ∃ x_42 : AV, ∃ x_43 : Int, ∃ x_44 : Int, ∃ x_45 : Int, ∃ x_46 : AV, ∃ x_47 : AV, ∃ x_48 : Int, r_26 = .tup [(.agg [(.int .i64 x_28), (.int .i64 x_29), (.int .u8 x_30), (.int .i64 x_31), (.int .i64 x_32), (.int .i64 x_33), (.int .i64 x_34), (.int .i64 x_35), x_36, x_37, (.int .i64 x_38), x_39, x_40, x_41, x_42, (.int .i64 x_43), (.int .i64 x_44), (.int .i64 x_45), x_46]), x_47, (.int .i64 x_48)] ∧
 Cl Tryz.prog hk 45 [p_0, (.agg [(.int .i64 x_28), (.int .i64 x_29), (.int .u8 x_30), (.int .i64 x_31), (.int .i64 x_32), (.int .i64 x_33), (.int .i64 x_34), (.int .i64 x_35), x_36, x_37, (.int .i64 x_38), x_39, x_40, x_41, x_42, (.int .i64 x_43), (.int .i64 x_44), (.int .i64 x_45), x_46]), x_47, (.int .i64 x_48)] w_27 fun r_49 w_50 =>
 ∃ x_51 : AV, ∃ x_52 : Int, r_49 = .tup [x_51, (.int .i64 x_52)] ∧
 K (.tup [x_51, (.int .i64 x_52)]) w_50)
def adv13 : Adv := (.sq .lf (.sq (.sq .lf (.sq .lf (.cd (.sq .lf .lf) .lf))) (.sq .lf .lf)))
set_option maxRecDepth 100000 in
theorem eq13 (hk : Hook) (p_0 : AV) (draw_1 : Int) (w : AW) (K : AV → AW → Prop) : fnS Tryz.prog hk Tryz.f13 adv13 [p_0, (.int .i64 draw_1)] w K = F13 hk p_0 draw_1 w K := by kernel_rfl
theorem in13 {hk : Hook} {p_0 : AV} {draw_1 : Int} {w : AW} {K : AV → AW → Prop} (hn : hk 13 [p_0, (.int .i64 draw_1)] w = none) (h : F13 hk p_0 draw_1 w K) : Cl Tryz.prog hk 13 [p_0, (.int .i64 draw_1)] w K :=
 fnS_ok Tryz.func13 hn (by rw [eq13]; exact h)
def F14 (hk : Hook) (p_0 : AV) (data_1 : AV) (w : AW) (K : AV → AW → Prop) : Prop :=
 Cl Tryz.prog hk 44 [p_0] w fun r_2 w_3 =>
 ∃ e_4 : Int, r_2 = (.int .i64 e_4) ∧
 ifT (!decide (e_4 = 0)) (K (.tup [(.int .i64 0), .nilslice, (.int .i64 e_4)]) w_3)
 (onP p_0 fun b_5 o_6 =>
 ∃ x_7 : Int, ∃ x_8 : Int, ∃ x_9 : Int, ∃ x_10 : Int, ∃ x_11 : Int, ∃ x_12 : Int, ∃ x_13 : Int, ∃ x_14 : Int, ∃ x_15 : AV, ∃ x_16 : AV, ∃ x_17 : Int, ∃ x_18 : AV, ∃ x_19 : AV, ∃ x_20 : AV, ∃ x_21 : AV, ∃ x_22 : Int, ∃ x_23 : Int, ∃ x_24 : Int, ∃ x_25 : AV, ldN 19 w_3 b_5 (o_6 + 2) = some (.agg [(.int .i64 x_7), (.int .i64 x_8), (.int .u8 x_9), (.int .i64 x_10), (.int .i64 x_11), (.int .i64 x_12), (.int .i64 x_13), (.int .i64 x_14), x_15, x_16, (.int .i64 x_17), x_18, x_19, x_20, x_21, (.int .i64 x_22), (.int .i64 x_23), (.int .i64 x_24), x_25]) ∧
 Cl Tryz.prog hk 47 [(.agg [(.int .i64 x_7), (.int .i64 x_8), (.int .u8 x_9), (.int .i64 x_10), (.int .i64 x_11), (.int .i64 x_12), (.int .i64 x_13), (.int .i64 x_14), x_15, x_16, (.int .i64 x_17), x_18, x_19, x_20, x_21, (.int .i64 x_22), (.int .i64 x_23), (.int .i64 x_24), x_25]), data_1] w_3 fun r_26 w_27 =>
 ∃ x_28 : Int, ∃ x_29 : Int, ∃ x_30 : Int, ∃ x_31 : Int, ∃ x_32 : Int, ∃ x_33 : Int, ∃ x_34 : Int, ∃ x_35 : Int, ∃ x_36 : AV, ∃ x_37 : AV, ∃ x_38 : Int, ∃ x_39 : AV, ∃ x_40 : AV, ∃ x_41 : AV, ∃ x_42 : AV, ∃ x_43 : Int, ∃ x_44 : Int, ∃ x_45 : Int, ∃ x_46 : AV, ∃ x_47 : Int, ∃ x_48 : AV, ∃ x_49 : Int, r_26 = .tup [(.agg [(.int .i64 x_28), (.int .i64 x_29), (.int .u8 x_30), (.int .i64 x_31), (.int .i64 x_32), (.int .i64 x_33), (.int .i64 x_34), (.int .i64 x_35), x_36, x_37, (.int .i64 x_38), x_39, x_40, x_41, x_42, (.int .i64 x_43), (.int .i64 x_44), (.int .i64 x_45), x_46]), (.int .i64 x_47), x_48, (.int .i64 x_49)] ∧
 new w_27 [(.int .i64 0), (.int .i64 0), (.int .u8 0), (.int .i64 0), (.int .i64 0), (.int .i64 0), (.int .i64 0), (.int .i64 0), .nilslice, .nilslice, (.int .i64 0), .nilslice, .nilslice, .nilslice, .nilslice, (.int .i64 0), (.int .i64 0), (.int .i64 0), .nilslice] fun b_50 w_51 =>
 gd (List.all [(.int .i64 x_28), (.int .i64 x_29), (.int .u8 x_30), (.int .i64 x_31), (.int .i64 x_32), (.int .i64 x_33), (.int .i64 x_34), (.int .i64 x_35), x_36, x_37, (.int .i64 x_38), x_39, x_40, x_41, x_42, (.int .i64 x_43), (.int .i64 x_44), (.int .i64 x_45), x_46] okCell) (
 onM (AW.putCells w_51 b_50 0 [(.int .i64 x_28), (.int .i64 x_29), (.int .u8 x_30), (.int .i64 x_31), (.int .i64 x_32), (.int .i64 x_33), (.int .i64 x_34), (.int .i64 x_35), x_36, x_37, (.int .i64 x_38), x_39, x_40, x_41, x_42, (.int .i64 x_43), (.int .i64 x_44), (.int .i64 x_45), x_46]) fun w_52 =>
 ∃ x_53 : Int, ∃ x_54 : Int, ∃ x_55 : Int, ∃ x_56 : Int, ∃ x_57 : Int, ∃ x_58 : Int, ∃ x_59 : Int, ∃ x_60 : Int, ∃ x_61 : AV, ∃ x_62 : AV, ∃ x_63 : Int, ∃ x_64 : AV, ∃ x_65 : AV, ∃ x_66 : AV, ∃ x_67 : AV, ∃ x_68 : Int, ∃ x_69 : Int, ∃ x_70 : Int, ∃ x_71 : AV, ldN 19 w_52 b_50 0 = some (.agg [(.int .i64 x_53), (.int .i64 x_54), (.int .u8 x_55), (.int .i64 x_56), (.int .i64 x_57), (.int .i64 x_58), (.int .i64 x_59), (.int .i64 x_60), x_61, x_62, (.int .i64 x_63), x_64, x_65, x_66, x_67, (.int .i64 x_68), (.int .i64 x_69), (.int .i64 x_70), x_71]) ∧
 Cl Tryz.prog hk 45 [p_0, (.agg [(.int .i64 x_53), (.int .i64 x_54), (.int .u8 x_55), (.int .i64 x_56), (.int .i64 x_57), (.int .i64 x_58), (.int .i64 x_59), (.int .i64 x_60), x_61, x_62, (.int .i64 x_63), x_64, x_65, x_66, x_67, (.int .i64 x_68), (.int .i64 x_69), (.int .i64 x_70), x_71]), x_48, (.int .i64 x_49)] w_52 fun r_72 w_73 =>
 ∃ x_74 : AV, ∃ x_75 : Int, r_72 = .tup [x_74, (.int .i64 x_75)] ∧
 ifT (!decide (x_75 = 0)) (K (.tup [(.int .i64 0), .nilslice, (.int .i64 x_75)]) w_73)
 (K (.tup [(.int .i64 x_47), x_74, (.int .i64 0)]) w_73)))
def adv14 : Adv := (.sq .lf (.sq (.sq .lf (.sq .lf (.cd (.sq .lf .lf) .lf))) (.sq .lf (.sq (.sq .lf (.sq .lf (.cd (.sq .lf .lf) .lf))) (.sq .lf .lf)))))
set_option maxRecDepth 100000 in
theorem eq14 (hk : Hook) (p_0 : AV) (data_1 : AV) (w : AW) (K : AV → AW → Prop) : fnS Tryz.prog hk Tryz.f14 adv14 [p_0, data_1] w K = F14 hk p_0 data_1 w K := by kernel_rfl
theorem in14 {hk : Hook} {p_0 : AV} {data_1 : AV} {w : AW} {K : AV → AW → Prop} (hn : hk 14 [p_0, data_1] w = none) (h : F14 hk p_0 data_1 w K) : Cl Tryz.prog hk 14 [p_0, data_1] w K :=
 fnS_ok Tryz.func14 hn (by rw [eq14]; exact h)
def F15 (hk : Hook) (p_0 : AV) (w : AW) (K : AV → AW → Prop) : Prop :=
 Cl Tryz.prog hk 44 [p_0] w fun r_1 w_2 =>
 ∃ x_3 : Int, r_1 = (.int .i64 x_3) ∧
 ifT (decide (x_3 = 1)) (K (.tup [(.int .i64 0), .nilslice]) w_2)
 (onP p_0 fun b_4 o_5 =>
 ∃ x_6 : Int, ld w_2 b_4 (o_5 + 22) = some (.int .i64 x_6) ∧
 onP p_0 fun b_7 o_8 =>
 ∃ x_9 : Int, ld w_2 b_7 ((o_8 + 2) + 6) = some (.int .i64 x_9) ∧
 ifT (decide (x_6 < x_9)) (K (.tup [(.int .i64 0), .nilslice]) w_2)
 (onP p_0 fun b_10 o_11 =>
 ∃ x_12 : Int, ld w_2 b_10 (o_11 + 22) = some (.int .i64 x_12) ∧
 onP p_0 fun b_13 o_14 =>
 ∃ x_15 : Int, ld w_2 b_13 ((o_14 + 2) + 10) = some (.int .i64 x_15) ∧
 ifT (decide (x_15 ≤ x_12)) (K (.tup [(.int .i64 0), .nilslice]) w_2)
 (onP p_0 fun b_16 o_17 =>
 onM (ld w_2 b_16 ((o_17 + 2) + 9)) fun x_18 =>
 onP p_0 fun b_19 o_20 =>
 ∃ x_21 : Int, ld w_2 b_19 (o_20 + 22) = some (.int .i64 x_21) ∧
 onP p_0 fun b_22 o_23 =>
 ∃ x_24 : Int, ld w_2 b_22 ((o_23 + 2) + 6) = some (.int .i64 x_24) ∧
 onP p_0 fun b_25 o_26 =>
 ∃ x_27 : Int, ld w_2 b_25 ((o_26 + 2) + 10) = some (.int .i64 x_27) ∧
 onP p_0 fun b_28 o_29 =>
 ∃ x_30 : Int, ld w_2 b_28 ((o_29 + 2) + 6) = some (.int .i64 x_30) ∧
 onM (slS 2 x_18 (some (.int .i64 (wi (x_21 - x_24)))) (some (.int .i64 (wi (x_27 - x_30)))) none) fun x_31 =>
 ∃ x_32 : Int, lenS x_31 = some (.int .i64 x_32) ∧
 loopP [.nilslice, (.int .i64 0)] w_2 fun R_33 l_34 w_35 => ∃ out_36 : AV, ∃ x_37 : Int, l_34 = [out_36, (.int .i64 x_37)] ∧ ∀ _ : Nat → AV,
  ifT (decide (x_37 < x_32)) (atP (idxS 2 x_31 (.int .i64 x_37)) fun b_38 o_39 =>
  ∃ x_40 : Int, ∃ x_41 : AV, ldN 2 w_35 b_38 o_39 = some (.agg [(.int .i64 x_40), x_41]) ∧
  new w_35 [(.int .i64 0), .nilslice] fun b_42 w_43 =>
  gd (List.all [(.int .i64 x_40), x_41] okCell) (
  onM (AW.putCells w_43 b_42 0 [(.int .i64 x_40), x_41]) fun w_44 =>
  ∃ x_45 : Int, ld w_44 b_42 (0 + 0) = some (.int .i64 x_45) ∧
  onM (ld w_44 b_42 (0 + 1)) fun x_46 =>
  Cl Tryz.prog hk 48 [x_46] w_44 fun r_47 w_48 =>
  gd (okCell r_47) (
  gd (List.all [(.int .i64 x_45), r_47] okCell) (
  new w_48 [(.int .i64 x_45), r_47] fun b_49 w_50 =>
  ld w_50 b_42 (0 + 0) = some (.int .i64 x_45) ∧
  onE (appS 2 32 w_50 out_36 (.slice b_49 0 1 1 none)) fun x_51 w_52 =>
  R_33 [x_51, (.int .i64 (wi (x_37 + 1)))] w_52))))
  (onP p_0 fun b_53 o_54 =>
 ∃ x_55 : Int, ld w_35 b_53 (o_54 + 22) = some (.int .i64 x_55) ∧
 onP p_0 fun b_56 o_57 =>
 ∃ x_58 : Int, ld w_35 b_56 ((o_57 + 2) + 10) = some (.int .i64 x_58) ∧
 onP p_0 fun b_59 o_60 =>
 onM (AW.putCells w_35 b_59 (o_60 + 22) [(.int .i64 x_58)]) fun w_61 =>
 K (.tup [(.int .i64 (wi (x_55 + 1))), out_36]) w_61))))
def adv15 : Adv := (.sq .lf (.sq (.sq .lf (.cd (.sq .lf .lf) .lf)) (.sq .lf (.sq (.sq .lf (.bl (.lp [(4, .sc (.opq)), (63, .sc (.int .i64))] (.sq .lf (.sq (.cd .lf .lf) (.sq (.bl (.sq .lf .lf)) .lf)))))) (.sq .lf (.sq .lf (.sq .lf .lf)))))))
set_option maxRecDepth 100000 in
theorem eq15 (hk : Hook) (p_0 : AV) (w : AW) (K : AV → AW → Prop) : fnS Tryz.prog hk Tryz.f15 adv15 [p_0] w K = F15 hk p_0 w K := by kernel_rfl
theorem in15 {hk : Hook} {p_0 : AV} {w : AW} {K : AV → AW → Prop} (hn : hk 15 [p_0] w = none) (h : F15 hk p_0 w K) : Cl Tryz.prog hk 15 [p_0] w K :=
 fnS_ok Tryz.func15 hn (by rw [eq15]; exact h)
def F16 (hk : Hook) (p_0 : AV) (index_1 : Int) (snap_2 : AV) (w : AW) (K : AV → AW → Prop) : Prop :=
 Cl Tryz.prog hk 44 [p_0] w fun r_3 w_4 =>
 ∃ e_5 : Int, r_3 = (.int .i64 e_5) ∧
 ifT (!decide (e_5 = 0)) (K (.int .i64 e_5) w_4)
 (onP p_0 fun b_6 o_7 =>
 ∃ x_8 : Int, ∃ x_9 : Int, ∃ x_10 : Int, ∃ x_11 : Int, ∃ x_12 : Int, ∃ x_13 : Int, ∃ x_14 : Int, ∃ x_15 : Int, ∃ x_16 : AV, ∃ x_17 : AV, ∃ x_18 : Int, ∃ x_19 : AV, ∃ x_20 : AV, ∃ x_21 : AV, ∃ x_22 : AV, ∃ x_23 : Int, ∃ x_24 : Int, ∃ x_25 : Int, ∃ x_26 : AV, ldN 19 w_4 b_6 (o_7 + 2) = some (.agg [(.int .i64 x_8), (.int .i64 x_9), (.int .u8 x_10), (.int .i64 x_11), (.int .i64 x_12), (.int .i64 x_13), (.int .i64 x_14), (.int .i64 x_15), x_16, x_17, (.int .i64 x_18), x_19, x_20, x_21, x_22, (.int .i64 x_23), (.int .i64 x_24), (.int .i64 x_25), x_26]) ∧
 Cl Tryz.prog hk 49 [(.agg [(.int .i64 x_8), (.int .i64 x_9), (.int .u8 x_10), (.int .i64 x_11), (.int .i64 x_12), (.int .i64 x_13), (.int .i64 x_14), (.int .i64 x_15), x_16, x_17, (.int .i64 x_18), x_19, x_20, x_21, x_22, (.int .i64 x_23), (.int .i64 x_24), (.int .i64 x_25), x_26]), (.int .i64 index_1), snap_2] w_4 fun r_27 w_28 =>
 ∃ x_29 : Int, ∃ x_30 : Int, ∃ x_31 : Int, ∃ x_32 : Int, ∃ x_33 : Int, ∃ x_34 : Int, ∃ x_35 : Int, ∃ x_36 : Int, ∃ x_37 : AV, ∃ x_38 : AV, ∃ x_39 : Int, ∃ x_40 : AV, ∃ x_41 : AV, ∃ x_42 : AV, ∃ x_43 : AV, ∃ x_44 : Int, ∃ x_45 : Int, ∃ x_46 : Int, ∃ x_47 : AV, ∃ x_48 : Int, r_27 = .tup [(.agg [(.int .i64 x_29), (.int .i64 x_30), (.int .u8 x_31), (.int .i64 x_32), (.int .i64 x_33), (.int .i64 x_34), (.int .i64 x_35), (.int .i64 x_36), x_37, x_38, (.int .i64 x_39), x_40, x_41, x_42, x_43, (.int .i64 x_44), (.int .i64 x_45), (.int .i64 x_46), x_47]), (.int .i64 x_48)] ∧
 new w_28 [(.int .i64 0), (.int .i64 0), (.int .u8 0), (.int .i64 0), (.int .i64 0), (.int .i64 0), (.int .i64 0), (.int .i64 0), .nilslice, .nilslice, (.int .i64 0), .nilslice, .nilslice, .nilslice, .nilslice, (.int .i64 0), (.int .i64 0), (.int .i64 0), .nilslice] fun b_49 w_50 =>
 gd (List.all [(.int .i64 x_29), (.int .i64 x_30), (.int .u8 x_31), (.int .i64 x_32), (.int .i64 x_33), (.int .i64 x_34), (.int .i64 x_35), (.int .i64 x_36), x_37, x_38, (.int .i64 x_39), x_40, x_41, x_42, x_43, (.int .i64 x_44), (.int .i64 x_45), (.int .i64 x_46), x_47] okCell) (
 onM (AW.putCells w_50 b_49 0 [(.int .i64 x_29), (.int .i64 x_30), (.int .u8 x_31), (.int .i64 x_32), (.int .i64 x_33), (.int .i64 x_34), (.int .i64 x_35), (.int .i64 x_36), x_37, x_38, (.int .i64 x_39), x_40, x_41, x_42, x_43, (.int .i64 x_44), (.int .i64 x_45), (.int .i64 x_46), x_47]) fun w_51 =>
 ∃ x_52 : Int, ∃ x_53 : Int, ∃ x_54 : Int, ∃ x_55 : Int, ∃ x_56 : Int, ∃ x_57 : Int, ∃ x_58 : Int, ∃ x_59 : Int, ∃ x_60 : AV, ∃ x_61 : AV, ∃ x_62 : Int, ∃ x_63 : AV, ∃ x_64 : AV, ∃ x_65 : AV, ∃ x_66 : AV, ∃ x_67 : Int, ∃ x_68 : Int, ∃ x_69 : Int, ∃ x_70 : AV, ldN 19 w_51 b_49 0 = some (.agg [(.int .i64 x_52), (.int .i64 x_53), (.int .u8 x_54), (.int .i64 x_55), (.int .i64 x_56), (.int .i64 x_57), (.int .i64 x_58), (.int .i64 x_59), x_60, x_61, (.int .i64 x_62), x_63, x_64, x_65, x_66, (.int .i64 x_67), (.int .i64 x_68), (.int .i64 x_69), x_70]) ∧
 Cl Tryz.prog hk 45 [p_0, (.agg [(.int .i64 x_52), (.int .i64 x_53), (.int .u8 x_54), (.int .i64 x_55), (.int .i64 x_56), (.int .i64 x_57), (.int .i64 x_58), (.int .i64 x_59), x_60, x_61, (.int .i64 x_62), x_63, x_64, x_65, x_66, (.int .i64 x_67), (.int .i64 x_68), (.int .i64 x_69), x_70]), .nilslice, (.int .i64 x_48)] w_51 fun r_71 w_72 =>
 ∃ x_73 : AV, ∃ x_74 : Int, r_71 = .tup [x_73, (.int .i64 x_74)] ∧
 K (.int .i64 x_74) w_72))
def adv16 : Adv := (.sq .lf (.sq (.sq .lf (.sq .lf (.cd (.sq .lf .lf) .lf))) (.sq .lf (.sq .lf (.sq .lf .lf)))))
set_option maxRecDepth 100000 in
theorem eq16 (hk : Hook) (p_0 : AV) (index_1 : Int) (snap_2 : AV) (w : AW) (K : AV → AW → Prop) : fnS Tryz.prog hk Tryz.f16 adv16 [p_0, (.int .i64 index_1), snap_2] w K = F16 hk p_0 index_1 snap_2 w K := by kernel_rfl
theorem in16 {hk : Hook} {p_0 : AV} {index_1 : Int} {snap_2 : AV} {w : AW} {K : AV → AW → Prop} (hn : hk 16 [p_0, (.int .i64 index_1), snap_2] w = none) (h : F16 hk p_0 index_1 snap_2 w K) : Cl Tryz.prog hk 16 [p_0, (.int .i64 index_1), snap_2] w K :=
 fnS_ok Tryz.func16 hn (by rw [eq16]; exact h)
set_option maxRecDepth 100000 in
def F21 (hk : Hook) (p_0 : AV) (w : AW) (K : AV → AW → Prop) : Prop :=
 new w [(.int .i64 0), (.int .i64 0), (.int .u8 0), (.int .i64 0), (.int .i64 0), (.int .i64 0), (.int .i64 0), (.int .i64 0), .nilslice, .nilslice, (.int .i64 0), .nilslice, .nilslice, .nilslice, .nilslice, (.int .i64 0), (.int .i64 0), (.int .i64 0), .nilslice] fun b_1 w_2 =>
 Cl Tryz.prog hk 44 [p_0] w_2 fun r_3 w_4 =>
 ∃ x_5 : Int, r_3 = (.int .i64 x_5) ∧
 ifT (decide (x_5 = 1)) (onM (AW.putCells w_4 b_1 0 [(.int .i64 0), (.int .i64 0), (.int .u8 0), (.int .i64 0), (.int .i64 0), (.int .i64 0), (.int .i64 0), (.int .i64 0), .nilslice, .nilslice, (.int .i64 0), .nilslice, .nilslice, .nilslice, .nilslice, (.int .i64 0), (.int .i64 0), (.int .i64 0), .nilslice]) fun w_6 =>
  ∃ res_7 : Int, ∃ res_8 : Int, ∃ res_9 : Int, ∃ res_10 : Int, ∃ res_11 : Int, ∃ res_12 : Int, ∃ res_13 : Int, ∃ res_14 : Int, ∃ res_15 : AV, ∃ res_16 : AV, ∃ res_17 : Int, ∃ res_18 : AV, ∃ res_19 : AV, ∃ res_20 : AV, ∃ res_21 : AV, ∃ res_22 : Int, ∃ res_23 : Int, ∃ res_24 : Int, ∃ res_25 : AV, ldN 19 w_6 b_1 0 = some (.agg [(.int .i64 res_7), (.int .i64 res_8), (.int .u8 res_9), (.int .i64 res_10), (.int .i64 res_11), (.int .i64 res_12), (.int .i64 res_13), (.int .i64 res_14), res_15, res_16, (.int .i64 res_17), res_18, res_19, res_20, res_21, (.int .i64 res_22), (.int .i64 res_23), (.int .i64 res_24), res_25]) ∧
 K (.agg [(.int .i64 res_7), (.int .i64 res_8), (.int .u8 res_9), (.int .i64 res_10), (.int .i64 res_11), (.int .i64 res_12), (.int .i64 res_13), (.int .i64 res_14), res_15, res_16, (.int .i64 res_17), res_18, res_19, res_20, res_21, (.int .i64 res_22), (.int .i64 res_23), (.int .i64 res_24), res_25]) w_6)
 (onP p_0 fun b_26 o_27 =>
 ∃ x_28 : Int, ∃ x_29 : Int, ∃ x_30 : Int, ∃ x_31 : Int, ∃ x_32 : Int, ∃ x_33 : Int, ∃ x_34 : Int, ∃ x_35 : Int, ∃ x_36 : AV, ∃ x_37 : AV, ∃ x_38 : Int, ∃ x_39 : AV, ∃ x_40 : AV, ∃ x_41 : AV, ∃ x_42 : AV, ∃ x_43 : Int, ∃ x_44 : Int, ∃ x_45 : Int, ∃ x_46 : AV, ldN 19 w_4 b_26 (o_27 + 2) = some (.agg [(.int .i64 x_28), (.int .i64 x_29), (.int .u8 x_30), (.int .i64 x_31), (.int .i64 x_32), (.int .i64 x_33), (.int .i64 x_34), (.int .i64 x_35), x_36, x_37, (.int .i64 x_38), x_39, x_40, x_41, x_42, (.int .i64 x_43), (.int .i64 x_44), (.int .i64 x_45), x_46]) ∧
 Cl Tryz.prog hk 56 [(.agg [(.int .i64 x_28), (.int .i64 x_29), (.int .u8 x_30), (.int .i64 x_31), (.int .i64 x_32), (.int .i64 x_33), (.int .i64 x_34), (.int .i64 x_35), x_36, x_37, (.int .i64 x_38), x_39, x_40, x_41, x_42, (.int .i64 x_43), (.int .i64 x_44), (.int .i64 x_45), x_46])] w_4 fun r_47 w_48 =>
 ∃ x_49 : Int, ∃ x_50 : Int, ∃ x_51 : Int, ∃ x_52 : Int, ∃ x_53 : Int, ∃ x_54 : Int, ∃ x_55 : Int, ∃ x_56 : Int, ∃ x_57 : AV, ∃ x_58 : AV, ∃ x_59 : Int, ∃ x_60 : AV, ∃ x_61 : AV, ∃ x_62 : AV, ∃ x_63 : AV, ∃ x_64 : Int, ∃ x_65 : Int, ∃ x_66 : Int, ∃ x_67 : AV, ∃ x_68 : AV, ∃ x_69 : Int, r_47 = .tup [(.agg [(.int .i64 x_49), (.int .i64 x_50), (.int .u8 x_51), (.int .i64 x_52), (.int .i64 x_53), (.int .i64 x_54), (.int .i64 x_55), (.int .i64 x_56), x_57, x_58, (.int .i64 x_59), x_60, x_61, x_62, x_63, (.int .i64 x_64), (.int .i64 x_65), (.int .i64 x_66), x_67]), x_68, (.int .i64 x_69)] ∧
 new w_48 [(.int .i64 0), (.int .i64 0), (.int .u8 0), (.int .i64 0), (.int .i64 0), (.int .i64 0), (.int .i64 0), (.int .i64 0), .nilslice, .nilslice, (.int .i64 0), .nilslice, .nilslice, .nilslice, .nilslice, (.int .i64 0), (.int .i64 0), (.int .i64 0), .nilslice] fun b_70 w_71 =>
 gd (List.all [(.int .i64 x_49), (.int .i64 x_50), (.int .u8 x_51), (.int .i64 x_52), (.int .i64 x_53), (.int .i64 x_54), (.int .i64 x_55), (.int .i64 x_56), x_57, x_58, (.int .i64 x_59), x_60, x_61, x_62, x_63, (.int .i64 x_64), (.int .i64 x_65), (.int .i64 x_66), x_67] okCell) (
 onM (AW.putCells w_71 b_70 0 [(.int .i64 x_49), (.int .i64 x_50), (.int .u8 x_51), (.int .i64 x_52), (.int .i64 x_53), (.int .i64 x_54), (.int .i64 x_55), (.int .i64 x_56), x_57, x_58, (.int .i64 x_59), x_60, x_61, x_62, x_63, (.int .i64 x_64), (.int .i64 x_65), (.int .i64 x_66), x_67]) fun w_72 =>
 onP p_0 fun b_73 o_74 =>
 onM (ld w_72 b_73 ((o_74 + 2) + 18)) fun x_75 =>
 Cl Tryz.prog hk 57 [x_75] w_72 fun r_76 w_77 =>
 gd (okCell r_76) (
 onM (AW.putCells w_77 b_70 (0 + 18) [r_76]) fun w_78 =>
 ∃ x_79 : Int, ∃ x_80 : Int, ∃ x_81 : Int, ∃ x_82 : Int, ∃ x_83 : Int, ∃ x_84 : Int, ∃ x_85 : Int, ∃ x_86 : Int, ∃ x_87 : AV, ∃ x_88 : AV, ∃ x_89 : Int, ∃ x_90 : AV, ∃ x_91 : AV, ∃ x_92 : AV, ∃ x_93 : AV, ∃ x_94 : Int, ∃ x_95 : Int, ∃ x_96 : Int, ∃ x_97 : AV, ldN 19 w_78 b_70 0 = some (.agg [(.int .i64 x_79), (.int .i64 x_80), (.int .u8 x_81), (.int .i64 x_82), (.int .i64 x_83), (.int .i64 x_84), (.int .i64 x_85), (.int .i64 x_86), x_87, x_88, (.int .i64 x_89), x_90, x_91, x_92, x_93, (.int .i64 x_94), (.int .i64 x_95), (.int .i64 x_96), x_97]) ∧
 gd (List.all [(.int .i64 x_79), (.int .i64 x_80), (.int .u8 x_81), (.int .i64 x_82), (.int .i64 x_83), (.int .i64 x_84), (.int .i64 x_85), (.int .i64 x_86), x_87, x_88, (.int .i64 x_89), x_90, x_91, x_92, x_93, (.int .i64 x_94), (.int .i64 x_95), (.int .i64 x_96), x_97] okCell) (
 onM (AW.putCells w_78 b_1 0 [(.int .i64 x_79), (.int .i64 x_80), (.int .u8 x_81), (.int .i64 x_82), (.int .i64 x_83), (.int .i64 x_84), (.int .i64 x_85), (.int .i64 x_86), x_87, x_88, (.int .i64 x_89), x_90, x_91, x_92, x_93, (.int .i64 x_94), (.int .i64 x_95), (.int .i64 x_96), x_97]) fun w_98 =>
 ∃ res_99 : Int, ∃ res_100 : Int, ∃ res_101 : Int, ∃ res_102 : Int, ∃ res_103 : Int, ∃ res_104 : Int, ∃ res_105 : Int, ∃ res_106 : Int, ∃ res_107 : AV, ∃ res_108 : AV, ∃ res_109 : Int, ∃ res_110 : AV, ∃ res_111 : AV, ∃ res_112 : AV, ∃ res_113 : AV, ∃ res_114 : Int, ∃ res_115 : Int, ∃ res_116 : Int, ∃ res_117 : AV, ldN 19 w_98 b_1 0 = some (.agg [(.int .i64 res_99), (.int .i64 res_100), (.int .u8 res_101), (.int .i64 res_102), (.int .i64 res_103), (.int .i64 res_104), (.int .i64 res_105), (.int .i64 res_106), res_107, res_108, (.int .i64 res_109), res_110, res_111, res_112, res_113, (.int .i64 res_114), (.int .i64 res_115), (.int .i64 res_116), res_117]) ∧
 K (.agg [(.int .i64 res_99), (.int .i64 res_100), (.int .u8 res_101), (.int .i64 res_102), (.int .i64 res_103), (.int .i64 res_104), (.int .i64 res_105), (.int .i64 res_106), res_107, res_108, (.int .i64 res_109), res_110, res_111, res_112, res_113, (.int .i64 res_114), (.int .i64 res_115), (.int .i64 res_116), res_117]) w_98))))
def adv21 : Adv := (.sq .lf (.sq (.sq .lf (.cd (.sq .lf .lf) .lf)) (.sq .lf (.sq .lf (.sq .lf .lf)))))
set_option maxRecDepth 100000 in
theorem eq21 (hk : Hook) (p_0 : AV) (w : AW) (K : AV → AW → Prop) : fnS Tryz.prog hk Tryz.f21 adv21 [p_0] w K = F21 hk p_0 w K := by kernel_rfl
theorem in21 {hk : Hook} {p_0 : AV} {w : AW} {K : AV → AW → Prop} (hn : hk 21 [p_0] w = none) (h : F21 hk p_0 w K) : Cl Tryz.prog hk 21 [p_0] w K :=
 fnS_ok Tryz.func21 hn (by rw [eq21]; exact h)
def F22 (hk : Hook) (p_0 : AV) (w : AW) (K : AV → AW → Prop) : Prop :=
 Cl Tryz.prog hk 44 [p_0] w fun r_1 w_2 =>
 ∃ x_3 : Int, r_1 = (.int .i64 x_3) ∧
 ifT (decide (x_3 = 1)) (K (.tup [(.int .i64 0), .nilslice, (.bool false)]) w_2)
 (onP p_0 fun b_4 o_5 =>
 ∃ x_6 : Int, ld w_2 b_4 (o_5 + 22) = some (.int .i64 x_6) ∧
 onP p_0 fun b_7 o_8 =>
 ∃ x_9 : Int, ld w_2 b_7 ((o_8 + 2) + 6) = some (.int .i64 x_9) ∧
 ifT (decide (x_9 ≤ x_6)) (K (.tup [(.int .i64 0), .nilslice, (.bool false)]) w_2)
 (onP p_0 fun b_10 o_11 =>
 ∃ x_12 : Int, ld w_2 b_10 ((o_11 + 2) + 6) = some (.int .i64 x_12) ∧
 onP p_0 fun b_13 o_14 =>
 onM (AW.putCells w_2 b_13 (o_14 + 22) [(.int .i64 x_12)]) fun w_15 =>
 onP p_0 fun b_16 o_17 =>
 ∃ x_18 : Int, ld w_15 b_16 ((o_17 + 2) + 6) = some (.int .i64 x_18) ∧
 onP p_0 fun b_19 o_20 =>
 onM (ld w_15 b_19 ((o_20 + 2) + 8)) fun x_21 =>
 Cl Tryz.prog hk 48 [x_21] w_15 fun r_22 w_23 =>
 ld w_23 b_16 ((o_17 + 2) + 6) = some (.int .i64 x_18) ∧
 K (.tup [(.int .i64 x_18), r_22, (.bool true)]) w_23))
def adv22 : Adv := (.sq .lf (.sq (.sq .lf (.cd (.sq .lf .lf) .lf)) (.sq .lf (.sq .lf .lf))))
set_option maxRecDepth 100000 in
theorem eq22 (hk : Hook) (p_0 : AV) (w : AW) (K : AV → AW → Prop) : fnS Tryz.prog hk Tryz.f22 adv22 [p_0] w K = F22 hk p_0 w K := by kernel_rfl
theorem in22 {hk : Hook} {p_0 : AV} {w : AW} {K : AV → AW → Prop} (hn : hk 22 [p_0] w = none) (h : F22 hk p_0 w K) : Cl Tryz.prog hk 22 [p_0] w K :=
 fnS_ok Tryz.func22 hn (by rw [eq22]; exact h)
def F23 (hk : Hook) (p_0 : AV) (m_1 : List UInt8) (m_2 : Int) (m_3 : Int) (m_4 : Int) (m_5 : Int) (m_6 : Int) (m_7 : Int) (m_8 : Int) (m_9 : Int) (m_10 : Bool) (m_11 : AV) (m_12 : AV) (draw_13 : Int) (w : AW) (K : AV → AW → Prop) : Prop :=
 gd (List.all [(.str m_1), (.int .u8 m_2), (.int .i64 m_3), (.int .i64 m_4), (.int .i64 m_5), (.int .i64 m_6), (.int .i64 m_7), (.int .i64 m_8), (.int .i64 m_9), (.bool m_10), m_11, m_12] okCell) (
 new w [(.str m_1), (.int .u8 m_2), (.int .i64 m_3), (.int .i64 m_4), (.int .i64 m_5), (.int .i64 m_6), (.int .i64 m_7), (.int .i64 m_8), (.int .i64 m_9), (.bool m_10), m_11, m_12] fun b_14 w_15 =>
 Cl Tryz.prog hk 44 [p_0] w_15 fun r_16 w_17 =>
 ∃ e_18 : Int, r_16 = (.int .i64 e_18) ∧
 ifT (!decide (e_18 = 0)) (K (.tup [.nilslice, (.int .i64 e_18)]) w_17)
 (∃ x_19 : List UInt8, ld w_17 b_14 (0 + 0) = some (.str x_19) ∧
 onP p_0 fun b_20 o_21 =>
 ∃ x_22 : List UInt8, ld w_17 b_20 (o_21 + 1) = some (.str x_22) ∧
 ifT (!(x_19 == x_22)) (K (.tup [.nilslice, (.int .i64 2)]) w_17)
 (onP p_0 fun b_23 o_24 =>
 ∃ x_25 : Int, ∃ x_26 : Int, ∃ x_27 : Int, ∃ x_28 : Int, ∃ x_29 : Int, ∃ x_30 : Int, ∃ x_31 : Int, ∃ x_32 : Int, ∃ x_33 : AV, ∃ x_34 : AV, ∃ x_35 : Int, ∃ x_36 : AV, ∃ x_37 : AV, ∃ x_38 : AV, ∃ x_39 : AV, ∃ x_40 : Int, ∃ x_41 : Int, ∃ x_42 : Int, ∃ x_43 : AV, ldN 19 w_17 b_23 (o_24 + 2) = some (.agg [(.int .i64 x_25), (.int .i64 x_26), (.int .u8 x_27), (.int .i64 x_28), (.int .i64 x_29), (.int .i64 x_30), (.int .i64 x_31), (.int .i64 x_32), x_33, x_34, (.int .i64 x_35), x_36, x_37, x_38, x_39, (.int .i64 x_40), (.int .i64 x_41), (.int .i64 x_42), x_43]) ∧
 ∃ x_44 : List UInt8, ∃ x_45 : Int, ∃ x_46 : Int, ∃ x_47 : Int, ∃ x_48 : Int, ∃ x_49 : Int, ∃ x_50 : Int, ∃ x_51 : Int, ∃ x_52 : Int, ∃ x_53 : Bool, ∃ x_54 : AV, ∃ x_55 : AV, ldN 12 w_17 b_14 0 = some (.agg [(.str x_44), (.int .u8 x_45), (.int .i64 x_46), (.int .i64 x_47), (.int .i64 x_48), (.int .i64 x_49), (.int .i64 x_50), (.int .i64 x_51), (.int .i64 x_52), (.bool x_53), x_54, x_55]) ∧
 Cl Tryz.prog hk 58 [(.agg [(.int .i64 x_25), (.int .i64 x_26), (.int .u8 x_27), (.int .i64 x_28), (.int .i64 x_29), (.int .i64 x_30), (.int .i64 x_31), (.int .i64 x_32), x_33, x_34, (.int .i64 x_35), x_36, x_37, x_38, x_39, (.int .i64 x_40), (.int .i64 x_41), (.int .i64 x_42), x_43]), (.agg [(.str x_44), (.int .u8 x_45), (.int .i64 x_46), (.int .i64 x_47), (.int .i64 x_48), (.int .i64 x_49), (.int .i64 x_50), (.int .i64 x_51), (.int .i64 x_52), (.bool x_53), x_54, x_55]), (.int .i64 draw_13)] w_17 fun r_56 w_57 =>
 ∃ x_58 : Int, ∃ x_59 : Int, ∃ x_60 : Int, ∃ x_61 : Int, ∃ x_62 : Int, ∃ x_63 : Int, ∃ x_64 : Int, ∃ x_65 : Int, ∃ x_66 : AV, ∃ x_67 : AV, ∃ x_68 : Int, ∃ x_69 : AV, ∃ x_70 : AV, ∃ x_71 : AV, ∃ x_72 : AV, ∃ x_73 : Int, ∃ x_74 : Int, ∃ x_75 : Int, ∃ x_76 : AV, ∃ x_77 : AV, ∃ x_78 : Int, r_56 = .tup [(.agg [(.int .i64 x_58), (.int .i64 x_59), (.int .u8 x_60), (.int .i64 x_61), (.int .i64 x_62), (.int .i64 x_63), (.int .i64 x_64), (.int .i64 x_65), x_66, x_67, (.int .i64 x_68), x_69, x_70, x_71, x_72, (.int .i64 x_73), (.int .i64 x_74), (.int .i64 x_75), x_76]), x_77, (.int .i64 x_78)] ∧
 Cl Tryz.prog hk 45 [p_0, (.agg [(.int .i64 x_58), (.int .i64 x_59), (.int .u8 x_60), (.int .i64 x_61), (.int .i64 x_62), (.int .i64 x_63), (.int .i64 x_64), (.int .i64 x_65), x_66, x_67, (.int .i64 x_68), x_69, x_70, x_71, x_72, (.int .i64 x_73), (.int .i64 x_74), (.int .i64 x_75), x_76]), x_77, (.int .i64 x_78)] w_57 fun r_79 w_80 =>
 ∃ x_81 : AV, ∃ x_82 : Int, r_79 = .tup [x_81, (.int .i64 x_82)] ∧
 K (.tup [x_81, (.int .i64 x_82)]) w_80)))
def adv23 : Adv := (.sq .lf (.sq (.sq .lf (.sq .lf (.cd (.sq .lf .lf) .lf))) (.sq (.sq .lf (.cd (.sq .lf .lf) .lf)) (.sq .lf .lf))))
set_option maxRecDepth 100000 in
theorem eq23 (hk : Hook) (p_0 : AV) (m_1 : List UInt8) (m_2 : Int) (m_3 : Int) (m_4 : Int) (m_5 : Int) (m_6 : Int) (m_7 : Int) (m_8 : Int) (m_9 : Int) (m_10 : Bool) (m_11 : AV) (m_12 : AV) (draw_13 : Int) (w : AW) (K : AV → AW → Prop) : fnS Tryz.prog hk Tryz.f23 adv23 [p_0, (.agg [(.str m_1), (.int .u8 m_2), (.int .i64 m_3), (.int .i64 m_4), (.int .i64 m_5), (.int .i64 m_6), (.int .i64 m_7), (.int .i64 m_8), (.int .i64 m_9), (.bool m_10), m_11, m_12]), (.int .i64 draw_13)] w K = F23 hk p_0 m_1 m_2 m_3 m_4 m_5 m_6 m_7 m_8 m_9 m_10 m_11 m_12 draw_13 w K := by kernel_rfl
theorem in23 {hk : Hook} {p_0 : AV} {m_1 : List UInt8} {m_2 : Int} {m_3 : Int} {m_4 : Int} {m_5 : Int} {m_6 : Int} {m_7 : Int} {m_8 : Int} {m_9 : Int} {m_10 : Bool} {m_11 : AV} {m_12 : AV} {draw_13 : Int} {w : AW} {K : AV → AW → Prop} (hn : hk 23 [p_0, (.agg [(.str m_1), (.int .u8 m_2), (.int .i64 m_3), (.int .i64 m_4), (.int .i64 m_5), (.int .i64 m_6), (.int .i64 m_7), (.int .i64 m_8), (.int .i64 m_9), (.bool m_10), m_11, m_12]), (.int .i64 draw_13)] w = none) (h : F23 hk p_0 m_1 m_2 m_3 m_4 m_5 m_6 m_7 m_8 m_9 m_10 m_11 m_12 draw_13 w K) : Cl Tryz.prog hk 23 [p_0, (.agg [(.str m_1), (.int .u8 m_2), (.int .i64 m_3), (.int .i64 m_4), (.int .i64 m_5), (.int .i64 m_6), (.int .i64 m_7), (.int .i64 m_8), (.int .i64 m_9), (.bool m_10), m_11, m_12]), (.int .i64 draw_13)] w K :=
 fnS_ok Tryz.func23 hn (by rw [eq23]; exact h)
def F27 (hk : Hook) (p_0 : AV) (w : AW) (K : AV → AW → Prop) : Prop :=
 Cl Tryz.prog hk 44 [p_0] w fun r_1 w_2 =>
 ∃ x_3 : Int, r_1 = (.int .i64 x_3) ∧
 K (.bool (decide (x_3 = 4))) w_2
def adv27 : Adv := (.sq .lf (.sq .lf .lf))
set_option maxRecDepth 100000 in
theorem eq27 (hk : Hook) (p_0 : AV) (w : AW) (K : AV → AW → Prop) : fnS Tryz.prog hk Tryz.f27 adv27 [p_0] w K = F27 hk p_0 w K := by kernel_rfl
theorem in27 {hk : Hook} {p_0 : AV} {w : AW} {K : AV → AW → Prop} (hn : hk 27 [p_0] w = none) (h : F27 hk p_0 w K) : Cl Tryz.prog hk 27 [p_0] w K :=
 fnS_ok Tryz.func27 hn (by rw [eq27]; exact h)
def F28 (hk : Hook) (p_0 : AV) (id_1 : Int) (w : AW) (K : AV → AW → Prop) : Prop :=
 Cl Tryz.prog hk 44 [p_0] w fun r_2 w_3 =>
 ∃ e_4 : Int, r_2 = (.int .i64 e_4) ∧
 ifT (!decide (e_4 = 0)) (K (.tup [.nilslice, (.int .i64 e_4)]) w_3)
 (onP p_0 fun b_5 o_6 =>
 ∃ x_7 : Int, ∃ x_8 : Int, ∃ x_9 : Int, ∃ x_10 : Int, ∃ x_11 : Int, ∃ x_12 : Int, ∃ x_13 : Int, ∃ x_14 : Int, ∃ x_15 : AV, ∃ x_16 : AV, ∃ x_17 : Int, ∃ x_18 : AV, ∃ x_19 : AV, ∃ x_20 : AV, ∃ x_21 : AV, ∃ x_22 : Int, ∃ x_23 : Int, ∃ x_24 : Int, ∃ x_25 : AV, ldN 19 w_3 b_5 (o_6 + 2) = some (.agg [(.int .i64 x_7), (.int .i64 x_8), (.int .u8 x_9), (.int .i64 x_10), (.int .i64 x_11), (.int .i64 x_12), (.int .i64 x_13), (.int .i64 x_14), x_15, x_16, (.int .i64 x_17), x_18, x_19, x_20, x_21, (.int .i64 x_22), (.int .i64 x_23), (.int .i64 x_24), x_25]) ∧
 Cl Tryz.prog hk 63 [(.agg [(.int .i64 x_7), (.int .i64 x_8), (.int .u8 x_9), (.int .i64 x_10), (.int .i64 x_11), (.int .i64 x_12), (.int .i64 x_13), (.int .i64 x_14), x_15, x_16, (.int .i64 x_17), x_18, x_19, x_20, x_21, (.int .i64 x_22), (.int .i64 x_23), (.int .i64 x_24), x_25]), (.int .i64 id_1)] w_3 fun r_26 w_27 =>
 ∃ x_28 : Int, ∃ x_29 : Int, ∃ x_30 : Int, ∃ x_31 : Int, ∃ x_32 : Int, ∃ x_33 : Int, ∃ x_34 : Int, ∃ x_35 : Int, ∃ x_36 : AV, ∃ x_37 : AV, ∃ x_38 : Int, ∃ x_39 : AV, ∃ x_40 : AV, ∃ x_41 : AV, ∃ x_42 : AV, ∃ x_43 : Int, ∃ x_44 : Int, ∃ x_45 : Int, ∃ x_46 : AV, ∃ x_47 : AV, ∃ x_48 : Int, r_26 = .tup [(.agg [(.int .i64 x_28), (.int .i64 x_29), (.int .u8 x_30), (.int .i64 x_31), (.int .i64 x_32), (.int .i64 x_33), (.int .i64 x_34), (.int .i64 x_35), x_36, x_37, (.int .i64 x_38), x_39, x_40, x_41, x_42, (.int .i64 x_43), (.int .i64 x_44), (.int .i64 x_45), x_46]), x_47, (.int .i64 x_48)] ∧
 Cl Tryz.prog hk 45 [p_0, (.agg [(.int .i64 x_28), (.int .i64 x_29), (.int .u8 x_30), (.int .i64 x_31), (.int .i64 x_32), (.int .i64 x_33), (.int .i64 x_34), (.int .i64 x_35), x_36, x_37, (.int .i64 x_38), x_39, x_40, x_41, x_42, (.int .i64 x_43), (.int .i64 x_44), (.int .i64 x_45), x_46]), x_47, (.int .i64 x_48)] w_27 fun r_49 w_50 =>
 ∃ x_51 : AV, ∃ x_52 : Int, r_49 = .tup [x_51, (.int .i64 x_52)] ∧
 K (.tup [x_51, (.int .i64 x_52)]) w_50)
def adv28 : Adv := (.sq .lf (.sq (.sq .lf (.sq .lf (.cd (.sq .lf .lf) .lf))) (.sq .lf .lf)))
set_option maxRecDepth 100000 in
theorem eq28 (hk : Hook) (p_0 : AV) (id_1 : Int) (w : AW) (K : AV → AW → Prop) : fnS Tryz.prog hk Tryz.f28 adv28 [p_0, (.int .i64 id_1)] w K = F28 hk p_0 id_1 w K := by kernel_rfl
theorem in28 {hk : Hook} {p_0 : AV} {id_1 : Int} {w : AW} {K : AV → AW → Prop} (hn : hk 28 [p_0, (.int .i64 id_1)] w = none) (h : F28 hk p_0 id_1 w K) : Cl Tryz.prog hk 28 [p_0, (.int .i64 id_1)] w K :=
 fnS_ok Tryz.func28 hn (by rw [eq28]; exact h)
def F29 (hk : Hook) (p_0 : AV) (w : AW) (K : AV → AW → Prop) : Prop :=
 Cl Tryz.prog hk 44 [p_0] w fun r_1 w_2 =>
 ∃ x_3 : Int, r_1 = (.int .i64 x_3) ∧
 ifT (!decide (x_3 = 0)) (K .nilslice w_2)
 (onP p_0 fun b_4 o_5 =>
 ∃ x_6 : Int, ∃ x_7 : Int, ∃ x_8 : Int, ∃ x_9 : Int, ∃ x_10 : Int, ∃ x_11 : Int, ∃ x_12 : Int, ∃ x_13 : Int, ∃ x_14 : AV, ∃ x_15 : AV, ∃ x_16 : Int, ∃ x_17 : AV, ∃ x_18 : AV, ∃ x_19 : AV, ∃ x_20 : AV, ∃ x_21 : Int, ∃ x_22 : Int, ∃ x_23 : Int, ∃ x_24 : AV, ldN 19 w_2 b_4 (o_5 + 2) = some (.agg [(.int .i64 x_6), (.int .i64 x_7), (.int .u8 x_8), (.int .i64 x_9), (.int .i64 x_10), (.int .i64 x_11), (.int .i64 x_12), (.int .i64 x_13), x_14, x_15, (.int .i64 x_16), x_17, x_18, x_19, x_20, (.int .i64 x_21), (.int .i64 x_22), (.int .i64 x_23), x_24]) ∧
 Cl Tryz.prog hk 56 [(.agg [(.int .i64 x_6), (.int .i64 x_7), (.int .u8 x_8), (.int .i64 x_9), (.int .i64 x_10), (.int .i64 x_11), (.int .i64 x_12), (.int .i64 x_13), x_14, x_15, (.int .i64 x_16), x_17, x_18, x_19, x_20, (.int .i64 x_21), (.int .i64 x_22), (.int .i64 x_23), x_24])] w_2 fun r_25 w_26 =>
 ∃ x_27 : Int, ∃ x_28 : Int, ∃ x_29 : Int, ∃ x_30 : Int, ∃ x_31 : Int, ∃ x_32 : Int, ∃ x_33 : Int, ∃ x_34 : Int, ∃ x_35 : AV, ∃ x_36 : AV, ∃ x_37 : Int, ∃ x_38 : AV, ∃ x_39 : AV, ∃ x_40 : AV, ∃ x_41 : AV, ∃ x_42 : Int, ∃ x_43 : Int, ∃ x_44 : Int, ∃ x_45 : AV, ∃ x_46 : AV, ∃ x_47 : Int, r_25 = .tup [(.agg [(.int .i64 x_27), (.int .i64 x_28), (.int .u8 x_29), (.int .i64 x_30), (.int .i64 x_31), (.int .i64 x_32), (.int .i64 x_33), (.int .i64 x_34), x_35, x_36, (.int .i64 x_37), x_38, x_39, x_40, x_41, (.int .i64 x_42), (.int .i64 x_43), (.int .i64 x_44), x_45]), x_46, (.int .i64 x_47)] ∧
 new w_26 [(.int .i64 0), (.int .i64 0), (.int .u8 0), (.int .i64 0), (.int .i64 0), (.int .i64 0), (.int .i64 0), (.int .i64 0), .nilslice, .nilslice, (.int .i64 0), .nilslice, .nilslice, .nilslice, .nilslice, (.int .i64 0), (.int .i64 0), (.int .i64 0), .nilslice] fun b_48 w_49 =>
 gd (List.all [(.int .i64 x_27), (.int .i64 x_28), (.int .u8 x_29), (.int .i64 x_30), (.int .i64 x_31), (.int .i64 x_32), (.int .i64 x_33), (.int .i64 x_34), x_35, x_36, (.int .i64 x_37), x_38, x_39, x_40, x_41, (.int .i64 x_42), (.int .i64 x_43), (.int .i64 x_44), x_45] okCell) (
 onM (AW.putCells w_49 b_48 0 [(.int .i64 x_27), (.int .i64 x_28), (.int .u8 x_29), (.int .i64 x_30), (.int .i64 x_31), (.int .i64 x_32), (.int .i64 x_33), (.int .i64 x_34), x_35, x_36, (.int .i64 x_37), x_38, x_39, x_40, x_41, (.int .i64 x_42), (.int .i64 x_43), (.int .i64 x_44), x_45]) fun w_50 =>
 ∃ x_51 : Int, ∃ x_52 : Int, ∃ x_53 : Int, ∃ x_54 : Int, ∃ x_55 : Int, ∃ x_56 : Int, ∃ x_57 : Int, ∃ x_58 : Int, ∃ x_59 : AV, ∃ x_60 : AV, ∃ x_61 : Int, ∃ x_62 : AV, ∃ x_63 : AV, ∃ x_64 : AV, ∃ x_65 : AV, ∃ x_66 : Int, ∃ x_67 : Int, ∃ x_68 : Int, ∃ x_69 : AV, ldN 19 w_50 b_48 0 = some (.agg [(.int .i64 x_51), (.int .i64 x_52), (.int .u8 x_53), (.int .i64 x_54), (.int .i64 x_55), (.int .i64 x_56), (.int .i64 x_57), (.int .i64 x_58), x_59, x_60, (.int .i64 x_61), x_62, x_63, x_64, x_65, (.int .i64 x_66), (.int .i64 x_67), (.int .i64 x_68), x_69]) ∧
 onP p_0 fun b_70 o_71 =>
 gd (List.all [(.int .i64 x_51), (.int .i64 x_52), (.int .u8 x_53), (.int .i64 x_54), (.int .i64 x_55), (.int .i64 x_56), (.int .i64 x_57), (.int .i64 x_58), x_59, x_60, (.int .i64 x_61), x_62, x_63, x_64, x_65, (.int .i64 x_66), (.int .i64 x_67), (.int .i64 x_68), x_69] okCell) (
 onM (AW.putCells w_50 b_70 (o_71 + 2) [(.int .i64 x_51), (.int .i64 x_52), (.int .u8 x_53), (.int .i64 x_54), (.int .i64 x_55), (.int .i64 x_56), (.int .i64 x_57), (.int .i64 x_58), x_59, x_60, (.int .i64 x_61), x_62, x_63, x_64, x_65, (.int .i64 x_66), (.int .i64 x_67), (.int .i64 x_68), x_69]) fun w_72 =>
 K x_46 w_72)))
def adv29 : Adv := (.sq .lf (.sq (.sq .lf (.cd (.sq .lf .lf) .lf)) (.sq .lf (.sq .lf (.sq .lf .lf)))))
set_option maxRecDepth 100000 in
theorem eq29 (hk : Hook) (p_0 : AV) (w : AW) (K : AV → AW → Prop) : fnS Tryz.prog hk Tryz.f29 adv29 [p_0] w K = F29 hk p_0 w K := by kernel_rfl
theorem in29 {hk : Hook} {p_0 : AV} {w : AW} {K : AV → AW → Prop} (hn : hk 29 [p_0] w = none) (h : F29 hk p_0 w K) : Cl Tryz.prog hk 29 [p_0] w K :=
 fnS_ok Tryz.func29 hn (by rw [eq29]; exact h)
def F44 (hk : Hook) (p_0 : AV) (w : AW) (K : AV → AW → Prop) : Prop :=
 ∃ x_1 : Bool, binOpA Tryz.prog .eql 43 true p_0 .nilptr = some (.bool x_1) ∧
 ifT x_1 (K (.int .i64 1) w)
 (onP p_0 fun b_2 o_3 =>
 onM (ld w b_2 (o_3 + 0)) fun x_4 =>
 ∃ x_5 : Bool, binOpA Tryz.prog .eql 41 true x_4 .nilptr = some (.bool x_5) ∧
 ifT x_5 (K (.int .i64 1) w)
 (onP p_0 fun b_6 o_7 =>
  ∃ x_8 : Bool, ld w b_6 (o_7 + 23) = some (.bool x_8) ∧
  ifT x_8 (K (.int .i64 4) w)
  (K (.int .i64 0) w)))
def adv44 : Adv := (.sq .lf (.sq (.bl (.sq .lf (.cd (.sq .lf .lf) (.sq .lf (.cd (.sq .lf .lf) .lf))))) (.sq .lf .lf)))
set_option maxRecDepth 100000 in
theorem eq44 (hk : Hook) (p_0 : AV) (w : AW) (K : AV → AW → Prop) : fnS Tryz.prog hk Tryz.f44 adv44 [p_0] w K = F44 hk p_0 w K := by kernel_rfl
theorem in44 {hk : Hook} {p_0 : AV} {w : AW} {K : AV → AW → Prop} (hn : hk 44 [p_0] w = none) (h : F44 hk p_0 w K) : Cl Tryz.prog hk 44 [p_0] w K :=
 fnS_ok Tryz.func44 hn (by rw [eq44]; exact h)
end Go.Proofs.YtlejeoajnfaloaaGreatDoor
/-
 A peer that Open did not make.
 No condition beyond those that each theorem names.
-/
set_option linter.unusedSimpArgs false
open Go.Sx
set_option linter.unusedVariables false
set_option linter.unusedSimpArgs false
namespace Go.Proofs.YtlejeoajnfaloaaGreatDoor
structure HK (hk : Hook) : Prop where
 no : ∀ f a w, f ≠ 10 → hk f a w = none
 awake : ∀ w, hk 10 [] w = some (some (.bool true, w))
def NP (w : AW) (p : AV) : Prop := p = .nilptr ∨ ∃ b, p = .ptr b 0 ∧ ld w b 0 = some .nilptr
theorem ld_fr {w w' : AW} {b o : Nat} {v : AV} (h : ld w b o = some v) (hm : Mem w) (hf : Fr w.size w w') : ld w' b o = some v := by
  unfold ld at h ⊢
  cases hc : w.cells? b with
  | none => rw [hc] at h; cases h
  | some cs =>
    rw [hf.cells hm hc (Nat.le_refl _)]
    rw [hc] at h; exact h
theorem ldN_fr {w w' : AW} {n b o : Nat} {v : AV} (h : ldN n w b o = some v) (hm : Mem w) (hf : Fr w.size w w') : ldN n w' b o = some v := by
  unfold ldN at h ⊢
  cases hc : w.cells? b with
  | none => rw [hc] at h; cases h
  | some cs =>
    rw [hf.cells hm hc (Nat.le_refl _)]
    rw [hc] at h; exact h
theorem NP.fr {w w' : AW} {p : AV} (h : NP w p) (hm : Mem w) (hf : Fr w.size w w') : NP w' p := by
 rcases h with h | ⟨b, h1, h2⟩
 ·exact .inl h
 ·exact .inr ⟨b, h1, ld_fr h2 hm hf⟩
section
variable {hk : Hook} {w w' : AW} {K : AV → AW → Prop} {p : AV}
theorem s44 (hh : HK hk) (hp : NP w p) (hK : K (.int .i64 1) w) : Cl Tryz.prog hk 44 [p] w K := by
 refine in44 (hh.no _ _ _ (by decide)) ?_
 unfold F44
 rcases hp with rfl | ⟨b, rfl, h⟩
 ·exact ⟨true, by kernel_rfl, ifT_t hK⟩
 ·exact ⟨false, by kernel_rfl, ifT_f (onM_s (v := .nilptr) h ⟨true, by kernel_rfl, ifT_t hK⟩)⟩
theorem s13 {n : Int} (hh : HK hk) (hp : NP w p) (hK : K (.tup [.nilslice, .int .i64 1]) w) : Cl Tryz.prog hk 13 [p, .int .i64 n] w K := by
 refine in13 (hh.no _ _ _ (by decide)) ?_
 unfold F13
 exact s44 hh hp ⟨_, rfl, ifT_t hK⟩
theorem s28 {n : Int} (hh : HK hk) (hp : NP w p) (hK : K (.tup [.nilslice, .int .i64 1]) w) : Cl Tryz.prog hk 28 [p, .int .i64 n] w K := by
 refine in28 (hh.no _ _ _ (by decide)) ?_
 unfold F28
 exact s44 hh hp ⟨_, rfl, ifT_t hK⟩
theorem s14 {b : AV} (hh : HK hk) (hp : NP w p) (hK : K (.tup [.int .i64 0, .nilslice, .int .i64 1]) w) : Cl Tryz.prog hk 14 [p, b] w K := by
 refine in14 (hh.no _ _ _ (by decide)) ?_
 unfold F14
 exact s44 hh hp ⟨_, rfl, ifT_t hK⟩
theorem s15 (hh : HK hk) (hp : NP w p) (hK : K (.tup [.int .i64 0, .nilslice]) w) : Cl Tryz.prog hk 15 [p] w K := by
 refine in15 (hh.no _ _ _ (by decide)) ?_
 unfold F15
 exact s44 hh hp ⟨_, rfl, ifT_t hK⟩
theorem s16 {n : Int} {b : AV} (hh : HK hk) (hp : NP w p) (hK : K (.int .i64 1) w) : Cl Tryz.prog hk 16 [p, .int .i64 n, b] w K := by
 refine in16 (hh.no _ _ _ (by decide)) ?_
 unfold F16
 exact s44 hh hp ⟨_, rfl, ifT_t hK⟩
theorem s22 (hh : HK hk) (hp : NP w p) (hK : K (.tup [.int .i64 0, .nilslice, .bool false]) w) : Cl Tryz.prog hk 22 [p] w K := by
 refine in22 (hh.no _ _ _ (by decide)) ?_
 unfold F22
 exact s44 hh hp ⟨_, rfl, ifT_t hK⟩
theorem s29 (hh : HK hk) (hp : NP w p) (hK : K .nilslice w) : Cl Tryz.prog hk 29 [p] w K := by
 refine in29 (hh.no _ _ _ (by decide)) ?_
 unfold F29
 exact s44 hh hp ⟨_, rfl, ifT_t hK⟩
theorem s27 (hh : HK hk) (hp : NP w p) (hK : K (.bool false) w) : Cl Tryz.prog hk 27 [p] w K := by
 refine in27 (hh.no _ _ _ (by decide)) ?_
 unfold F27
 exact s44 hh hp ⟨_, rfl, hK⟩
theorem s23 {m1 : List UInt8} {m2 m3 m4 m5 m6 m7 m8 m9 n : Int} {m10 : Bool} {m11 m12 : AV} (hh : HK hk) (hm : Mem w) (hp : NP w p) (h11 : okCell m11 = true) (h12 : okCell m12 = true) (hK : ∀ w', Fr w.size w w' → K (.tup [.nilslice, .int .i64 1]) w') : Cl Tryz.prog hk 23 [p, .agg [.str m1, .int .u8 m2, .int .i64 m3, .int .i64 m4, .int .i64 m5, .int .i64 m6, .int .i64 m7, .int .i64 m8, .int .i64 m9, .bool m10, m11, m12], .int .i64 n] w K := by
 refine in23 (hh.no _ _ _ (by decide)) ?_
 unfold F23
 refine gd_t (by simp only [List.all_cons, h11, h12]; rfl) (new_of hm fun w1 f1 b1 z1 => s44 hh (hp.fr hm f1) ⟨_, rfl, ifT_t (hK w1 f1)⟩)
abbrev zN : List AV := [.int .i64 0, .int .i64 0, .int .u8 0, .int .i64 0, .int .i64 0, .int .i64 0, .int .i64 0, .int .i64 0, .nilslice, .nilslice, .int .i64 0, .nilslice, .nilslice, .nilslice, .nilslice, .int .i64 0, .int .i64 0, .int .i64 0, .nilslice]
theorem s21 (hh : HK hk) (pv : Pv (fun _ => True) w) (hp : NP w p) (hK : ∀ w', Fr w.size w w' → K (.agg zN) w') : Cl Tryz.prog hk 21 [p] w K := by
 refine in21 (hh.no _ _ _ (by decide)) ?_
 unfold F21
 refine pv.st.new' fun b1 w2 st2 x2 => s44 hh (hp.fr pv.mem st2.fr) ⟨_, rfl, ifT_t (st2.put 0 rfl (by decide) fun w6 st6 x6 => ?_)⟩
 exact ⟨_, _, _, _, _, _, _, _, _, _, _, _, _, _, _, _, _, _, _, st6.ldN 0 rfl rfl rfl, hK w6 st6.fr⟩
set_option maxRecDepth 20000 in
theorem s5 {m1 : List UInt8} {m2 m3 m4 m5 m6 m7 m8 m9 n : Int} {m10 : Bool} {m11 m12 b : AV} (hh : HK hk) (pv : Pv (fun _ => True) w) (h11 : okCell m11 = true) (h12 : okCell m12 = true) : Cl Tryz.prog hk 5 [.int .i64 n, .agg [.str m1, .int .u8 m2, .int .i64 m3, .int .i64 m4, .int .i64 m5, .int .i64 m6, .int .i64 m7, .int .i64 m8, .int .i64 m9, .bool m10, m11, m12], b] w fun r _ => r = .bool true := by
 refine in5 (hh.no _ _ _ (by decide)) ?_
 unfold F5
 refine gd_t (by simp only [List.all_cons, h11, h12]; rfl) (pv.st.new' fun b14 w15 st15 x15 => st15.new' fun b16 w17 st17 x17 => st17.new' fun b18 w19 st19 x19 => ⟨_, rfl, ?_⟩)
 refine loopP_ind (fun mm l w23 => ∃ j : Nat, mm = 2 - j ∧ j ≤ 2 ∧ l = [.int .i64 j] ∧ Fr w19.size w19 w23) ?_ ⟨0, rfl, by decide, rfl, Fr.refl st19.mem⟩
 rintro mm l w23 ⟨j, rfl, hj, rfl, f23⟩ R ih
 have l0 : ∀ {w'}, Fr w19.size w19 w' → ld w' b18 0 = some .nilptr := fun f => ld_fr (st19.ld 0 rfl rfl) st19.mem f
 have l1 : ∀ {w'}, Fr w19.size w19 w' → ld w' b18 1 = some (.ptr b16 0) := fun f => ld_fr (st19.ld 0 rfl rfl) st19.mem f
 have l2 : ∀ {w'}, Fr w19.size w19 w' → ld w' b16 0 = some .nilptr := fun f => ld_fr (st19.ld 1 rfl rfl) st19.mem f
 refine ⟨_, rfl, fun _ => ifT_d (fun hc => ?_) fun hc => Cl_hook (hh.awake _) ⟨_, rfl, rfl⟩⟩
 have hpp : ∃ p, ld w23 b18 (0 + j * 1) = some p ∧ NP w23 p := by
  rcases (show j = 0 ∨ j = 1 by omega) with rfl | rfl
  ·exact ⟨_, l0 f23, .inl rfl⟩
  ·exact ⟨_, l1 f23, .inr ⟨b16, rfl, l2 f23⟩⟩
 obtain ⟨p, hp1, hp⟩ := hpp
 have hix : idxS 1 (.slice b18 0 2 2 none) (.int .i64 (j : Int)) = some (.ptr b18 (0 + j * 1)) := by
  rcases (show j = 0 ∨ j = 1 by omega) with rfl | rfl <;> rfl
 rw [hix]
 refine onM_s hp1 (s13 hh hp ⟨_, _, rfl, ?_⟩)
 refine ⟨_, _, _, _, _, _, _, _, _, _, _, _, ldN_fr (st19.ldN 2 rfl rfl rfl) st19.mem f23, s23 hh f23.mem hp h11 h12 fun w45 f45 => ⟨_, _, rfl, ?_⟩⟩
 have hp := hp.fr f23.mem f45
 refine s14 hh hp ⟨_, _, _, rfl, s28 hh hp ⟨_, _, rfl, s15 hh hp ⟨_, _, rfl, s22 hh hp ⟨_, _, _, rfl, ?_⟩⟩⟩⟩
 refine ifT_f (ifT_f (ifT_f (ifT_f (s16 hh hp ⟨_, rfl, ifT_f ?_⟩))))
 have be_of : ∀ {x : Int} {K : Int → Prop}, K x → be x K := fun h => h
 refine be_of ⟨0, rfl, 0, rfl, be_of ⟨0, rfl, 0, rfl, be_of ⟨0, rfl, 0, rfl, be_of ?_⟩⟩⟩
 refine s29 hh hp ⟨0, rfl, ifT_f (ifT_f (s27 hh hp ⟨_, rfl, ifT_f ?_⟩))⟩
 have pv45 : Pv (fun _ => True) w45 := ⟨f45.mem, by have := f45.size; have := f23.size; have := st19.P0.pos; omega, fun _ _ => trivial⟩
 refine s21 hh pv45 hp fun w86 f86 => ⟨_, _, _, _, _, _, _, _, _, _, _, _, _, _, _, _, _, _, _, rfl, ifT_f ?_⟩
 exact ih (2 - (j + 1)) (by omega) _ _ ⟨j + 1, rfl, by omega, by rw [wi_eq (by omega) (by omega)]; rfl, (f23.trans f45 f23.size).trans f86 (by have := f45.size; have := f23.size; omega)⟩
end
end Go.Proofs.YtlejeoajnfaloaaGreatDoor
/-
 The chapter's first example comes out as written, by evaluation.
 No condition beyond those that each theorem names.
-/
set_option linter.unusedSimpArgs false
set_option linter.unusedSimpArgs false
set_option linter.unusedVariables false
namespace Go.Proofs
open Go.RowKit Go.Maps Go.Sort Go.Shelf
shelf_lay_g SlLaysZ.n7 Ggz 7 at Tryz 52 as Tryz.keyshk0
shelf_lay_g SlLaysZ.n6 Ggz 6 at Tryz 51 as Tryz.sortedhk0
shelf_lay_g SlLaysM.n6 Slgm 6 at Tryz 100 as Tryz.sorthk0
theorem Tryz.sortshk0 (m : Nat) : AnyZ.SortsIn Tryz.prog Tryz.sortedhk0_ren Fence.wide m :=
 ⟨fun blk off cap ss W hH hblk hsz => callsIn_wide.2 (AnyM.slices_Sort_string Tryz.sorthk0 blk off cap ss W hH hblk hsz),
  fun p cap W => callsIn_wide.2 (AnyM.slices_Sort_string_none Tryz.sorthk0 p cap W)⟩
theorem Tryz.contracthk0 : Go.Sx.SortC Tryz.prog Go.Sx.kindS 51 101 9 :=
 Go.Sx.sortC_str (ρ := Tryz.sortedhk0_ren) (ρ' := Tryz.keyshk0_ren) { Tryz.keyshk0 with } Tryz.sortedhk0 Tryz.sortshk0 (enters_of Tryz.func100 (by kernel_rfl) rfl) (enters_of Tryz.func101 (by kernel_rfl) rfl) Tryz.underlying9
end Go.Proofs
namespace Go.Proofs.YtlejeoajnfaloaaGreatDoor.snapNone
open Go.Sx
noncomputable def hooks0 : List HR := [⟨51, hookS kindS 51 101⟩]
theorem hooks0_ok : ∀ h ∈ hooks0, HRok Tryz.prog h := by
 intro h hh
 simp only [hooks0, List.mem_cons, List.not_mem_nil, or_false] at hh
 subst hh
 exact hookS_ok kindS_good Tryz.contracthk0 Tryz.func51 rfl
set_option maxRecDepth 100000 in
theorem apart10 : kN Tryz.prog (hookOf hooks0) 100000 (.call 10 [] ⟨1, .nil⟩) (says (.bool true)) = true := by kernel_rfl
end Go.Proofs.YtlejeoajnfaloaaGreatDoor.snapNone
