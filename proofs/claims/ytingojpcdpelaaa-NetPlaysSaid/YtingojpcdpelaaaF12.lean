/-
  What the functions of this chapter do.
  No condition beyond those that each theorem names.
-/
import Derived.Test.YtingojpcdpelaaaSxn
import Derived.Test.YtingojpcdpelaaaProg
import Derived.KernelRfl
set_option linter.unusedSimpArgs false
open Go.Sx
set_option linter.unusedVariables false
namespace Go.Proofs.Ytingojpcdpelaaa
/-- conduit/conduitlaw12.NetSent -/
def F4 (hk : Hook) (work_0 : AV) (w : AW) (K : AV → AW → Prop) : Prop :=
  Cl Try.prog hk 9 [] w fun r_1 w_2 =>
  new w_2 [(.int .i64 0)] fun b_3 w_4 =>
  onM (AW.putCells w_4 b_3 0 [(.int .i64 0)]) fun w_5 =>
  gd (Nat.ble 400 400 && Nat.ble (400 * 8) (2 ^ 47) && Nat.blt 400 (2 ^ 63) && true) (new w_5 (repl 400 [(.int .i64 0)]) fun b_6 w_7 =>
  new w_7 [.nilslice] fun b_8 w_9 =>
  onM (AW.putCells w_9 b_8 0 [(.slice b_6 0 400 400 none)]) fun w_10 =>
  join (fun l_11 w_12 => ∃ lost_14 : Int, ∃ copies_15 : AV, ∃ last_16 : Int, ∃ delivered_17 : Int, l_11 = [(.int .i64 lost_14), copies_15, (.int .i64 last_16), (.int .i64 delivered_17)] ∧ ∀ _ : Nat → AV,
   Cl Try.prog hk 14 [r_1] w_12 fun r_18 w_19 =>
   loopP [(.int .i64 delivered_17), (.int .i64 0)] w_19 fun R_20 l_21 w_22 => ∃ delivered_23 : Int, ∃ i_24 : Int, l_21 = [(.int .i64 delivered_23), (.int .i64 i_24)] ∧ ∀ _ : Nat → AV,
    ∃ x_25 : Int, lenS r_18 = some (.int .i64 x_25) ∧
    ifT (decide (i_24 < x_25)) (atP (idxS 4 r_18 (.int .i64 i_24)) fun b_26 o_27 =>
    ∃ x_28 : Int, ld w_22 b_26 (o_27 + 0) = some (.int .i64 x_28) ∧
    Cl Try.prog hk 13 [r_1, (.int .i64 x_28)] w_22 fun r_29 w_30 =>
    ∃ x_31 : Int, ∃ x_32 : Int, ∃ x_33 : Int, ∃ x_34 : AV, ∃ x_35 : Int, r_29 = .tup [(.agg [(.int .i64 x_31), (.int .i64 x_32), (.int .i64 x_33), x_34]), (.int .i64 x_35)] ∧
    Cl Try.prog hk 16 [(.agg [(.int .i64 x_31), (.int .i64 x_32), (.int .i64 x_33), x_34]), (.int .i64 x_35), (.ptr b_3 0), (.ptr b_8 0)] w_30 fun r_36 w_37 =>
    ∃ x_38 : Bool, r_36 = (.bool x_38) ∧
    ifT (!x_38) (K (.bool false) w_37)
    (R_20 [(.int .i64 (wi (delivered_23 + 1))), (.int .i64 (wi (i_24 + 1)))] w_37))
    (loopP [(.int .i64 0), (.int .i64 0)] w_22 fun R_39 l_40 w_41 => ∃ all_42 : Int, ∃ i_43 : Int, l_40 = [(.int .i64 all_42), (.int .i64 i_43)] ∧ ∀ _ : Nat → AV,
    ∃ x_44 : Int, lenS copies_15 = some (.int .i64 x_44) ∧
    ifT (decide (i_43 < x_44)) (atP (idxS 1 copies_15 (.int .i64 i_43)) fun b_45 o_46 =>
    ∃ x_47 : Int, ld w_41 b_45 o_46 = some (.int .i64 x_47) ∧
    R_39 [(.int .i64 (wi (all_42 + x_47))), (.int .i64 (wi (i_43 + 1)))] w_41)
    (ifT (decide (delivered_23 = all_42)) (Cl Try.prog hk 14 [r_1] w_41 fun r_48 w_49 =>
   ∃ x_50 : Int, lenS r_48 = some (.int .i64 x_50) ∧
   ifT (decide (x_50 = 0)) (ifT (decide (last_16 = (wi (all_42 + lost_14)))) (Cl Try.prog hk 15 [] w_49 fun r_51 w_52 =>
   ∃ x_53 : Bool, r_51 = (.bool x_53) ∧
   K (.bool x_53) w_52)
   (K (.bool false) w_49))
   (K (.bool false) w_49))
   (K (.bool false) w_41)))) fun J_13 =>
  loopP [(.int .i64 0), .nilslice, (.int .i64 0), (.int .i64 0), (.int .i64 0)] w_10 fun R_54 l_55 w_56 => ∃ lost_57 : Int, ∃ copies_58 : AV, ∃ last_59 : Int, ∃ delivered_60 : Int, ∃ i_61 : Int, l_55 = [(.int .i64 lost_57), copies_58, (.int .i64 last_59), (.int .i64 delivered_60), (.int .i64 i_61)] ∧ ∀ _ : Nat → AV,
   ∃ x_62 : Int, lenS work_0 = some (.int .i64 x_62) ∧
   ifT (decide (i_61 < x_62)) (ifT (decide (i_61 < 100)) (atP (idxS 1 work_0 (.int .i64 i_61)) fun b_63 o_64 =>
   ∃ x_65 : Int, ld w_56 b_63 o_64 = some (.int .i64 x_65) ∧
   Cl Try.prog hk 19 [(.int .i64 x_65), (.int .i64 1000003)] w_56 fun r_66 w_67 =>
   ∃ w_68 : Int, r_66 = (.int .i64 w_68) ∧
   Cl Try.prog hk 14 [r_1] w_67 fun r_69 w_70 =>
   join (fun l_71 w_72 => ∃ x_74 : Bool, l_71 = [(.bool x_74)] ∧ ∀ _ : Nat → AV,
    ifT x_74 (∃ x_75 : Int, ld w_72 b_3 0 = some (.int .i64 x_75) ∧
     ∃ x_76 : Int, ld w_72 b_3 0 = some (.int .i64 x_76) ∧
     ∃ x_77 : Int, ld w_72 b_3 0 = some (.int .i64 x_77) ∧
     Cl Try.prog hk 18 [(.int .i64 x_77)] w_72 fun r_78 w_79 =>
     ld w_79 b_3 0 = some (.int .i64 x_76) ∧
     ld w_79 b_3 0 = some (.int .i64 x_75) ∧
     Cl Try.prog hk 10 [r_1, (.int .i64 x_75), (.int .i64 (wi (x_76 + 1))), r_78] w_79 fun r_80 w_81 =>
     ∃ x_82 : Int, ∃ x_83 : Int, r_80 = .tup [(.int .i64 x_82), (.int .i64 x_83)] ∧
     ifT (!decide (x_83 = 0)) (K (.bool false) w_81)
     (ifT (!decide (x_82 = (wi (last_59 + 1)))) (K (.bool false) w_81)
     (∃ x_84 : Int, ld w_81 b_3 0 = some (.int .i64 x_84) ∧
     onM (AW.putCells w_81 b_3 0 [(.int .i64 (wi (x_84 + 1)))]) fun w_85 =>
     onM (ld w_85 b_8 0) fun x_86 =>
     ∃ x_87 : Int, ld w_85 b_3 0 = some (.int .i64 x_87) ∧
     atP (idxS 1 x_86 (.int .i64 x_82)) fun b_88 o_89 =>
     onM (AW.putCells w_85 b_88 o_89 [(.int .i64 x_87)]) fun w_90 =>
     new w_90 [(.int .i64 1)] fun b_91 w_92 =>
     onE (appS 1 8 w_92 copies_58 (.slice b_91 0 1 1 none)) fun copies_93 w_94 =>
     R_54 [(.int .i64 lost_57), copies_93, (.int .i64 x_82), (.int .i64 delivered_60), (.int .i64 (wi (i_61 + 1)))] w_94)))
    (∃ x_95 : Int, lenS r_69 = some (.int .i64 x_95) ∧
   ∃ x_96 : Int, arith .rem .i64 (wi (Int.tdiv w_68 5)) x_95 = some (.int .i64 x_96) ∧
   atP (idxS 4 r_69 (.int .i64 x_96)) fun b_97 o_98 =>
   ∃ x_99 : Int, ∃ x_100 : Int, ∃ x_101 : Int, ∃ x_102 : AV, ldN 4 w_72 b_97 o_98 = some (.agg [(.int .i64 x_99), (.int .i64 x_100), (.int .i64 x_101), x_102]) ∧
   new w_72 [(.int .i64 0), (.int .i64 0), (.int .i64 0), .nilslice] fun b_103 w_104 =>
   gd (List.all [(.int .i64 x_99), (.int .i64 x_100), (.int .i64 x_101), x_102] okCell) (
   onM (AW.putCells w_104 b_103 0 [(.int .i64 x_99), (.int .i64 x_100), (.int .i64 x_101), x_102]) fun w_105 =>
   ifT (decide ((Int.tmod w_68 5) = 2)) (∃ x_106 : Int, ld w_105 b_103 (0 + 0) = some (.int .i64 x_106) ∧
    Cl Try.prog hk 13 [r_1, (.int .i64 x_106)] w_105 fun r_107 w_108 =>
    ∃ x_109 : Int, ∃ x_110 : Int, ∃ x_111 : Int, ∃ x_112 : AV, ∃ x_113 : Int, r_107 = .tup [(.agg [(.int .i64 x_109), (.int .i64 x_110), (.int .i64 x_111), x_112]), (.int .i64 x_113)] ∧
    Cl Try.prog hk 16 [(.agg [(.int .i64 x_109), (.int .i64 x_110), (.int .i64 x_111), x_112]), (.int .i64 x_113), (.ptr b_3 0), (.ptr b_8 0)] w_108 fun r_114 w_115 =>
    ∃ x_116 : Bool, r_114 = (.bool x_116) ∧
    ifT (!x_116) (K (.bool false) w_115)
    (R_54 [(.int .i64 lost_57), copies_58, (.int .i64 last_59), (.int .i64 (wi (delivered_60 + 1))), (.int .i64 (wi (i_61 + 1)))] w_115))
   (ifT (decide ((Int.tmod w_68 5) = 3)) (∃ x_117 : Int, ld w_105 b_103 (0 + 0) = some (.int .i64 x_117) ∧
     Cl Try.prog hk 12 [r_1, (.int .i64 x_117)] w_105 fun r_118 w_119 =>
     ∃ x_120 : Int, r_118 = (.int .i64 x_120) ∧
     ifT (!decide (x_120 = 0)) (K (.bool false) w_119)
     (onM (ld w_119 b_8 0) fun x_121 =>
     ∃ x_122 : Int, ld w_119 b_103 (0 + 0) = some (.int .i64 x_122) ∧
     atP (idxS 1 x_121 (.int .i64 x_122)) fun b_123 o_124 =>
     ∃ x_125 : Int, ld w_119 b_123 o_124 = some (.int .i64 x_125) ∧
     atP (idxS 1 copies_58 (.int .i64 (wi (x_125 - 1)))) fun b_126 o_127 =>
     ∃ x_128 : Int, ld w_119 b_126 o_127 = some (.int .i64 x_128) ∧
     atP (idxS 1 copies_58 (.int .i64 (wi (x_125 - 1)))) fun b_129 o_130 =>
     onM (AW.putCells w_119 b_129 o_130 [(.int .i64 (wi (x_128 - 1)))]) fun w_131 =>
     R_54 [(.int .i64 (wi (lost_57 + 1))), copies_58, (.int .i64 last_59), (.int .i64 delivered_60), (.int .i64 (wi (i_61 + 1)))] w_131))
    (ifT (decide ((Int.tmod w_68 5) = 4)) (∃ x_132 : Int, ld w_105 b_103 (0 + 0) = some (.int .i64 x_132) ∧
      Cl Try.prog hk 11 [r_1, (.int .i64 x_132)] w_105 fun r_133 w_134 =>
      ∃ x_135 : Int, ∃ x_136 : Int, r_133 = .tup [(.int .i64 x_135), (.int .i64 x_136)] ∧
      ifT (!decide (x_136 = 0)) (K (.bool false) w_134)
      (ifT (!decide (x_135 = (wi (last_59 + 1)))) (K (.bool false) w_134)
      (onM (ld w_134 b_8 0) fun x_137 =>
      onM (ld w_134 b_8 0) fun x_138 =>
      ∃ x_139 : Int, ld w_134 b_103 (0 + 0) = some (.int .i64 x_139) ∧
      atP (idxS 1 x_138 (.int .i64 x_139)) fun b_140 o_141 =>
      ∃ x_142 : Int, ld w_134 b_140 o_141 = some (.int .i64 x_142) ∧
      atP (idxS 1 x_137 (.int .i64 x_135)) fun b_143 o_144 =>
      onM (AW.putCells w_134 b_143 o_144 [(.int .i64 x_142)]) fun w_145 =>
      onM (ld w_145 b_8 0) fun x_146 =>
      atP (idxS 1 x_146 (.int .i64 x_135)) fun b_147 o_148 =>
      ∃ x_149 : Int, ld w_145 b_147 o_148 = some (.int .i64 x_149) ∧
      atP (idxS 1 copies_58 (.int .i64 (wi (x_149 - 1)))) fun b_150 o_151 =>
      ∃ x_152 : Int, ld w_145 b_150 o_151 = some (.int .i64 x_152) ∧
      atP (idxS 1 copies_58 (.int .i64 (wi (x_149 - 1)))) fun b_153 o_154 =>
      onM (AW.putCells w_145 b_153 o_154 [(.int .i64 (wi (x_152 + 1)))]) fun w_155 =>
      R_54 [(.int .i64 lost_57), copies_58, (.int .i64 x_135), (.int .i64 delivered_60), (.int .i64 (wi (i_61 + 1)))] w_155)))
     (R_54 [(.int .i64 lost_57), copies_58, (.int .i64 last_59), (.int .i64 delivered_60), (.int .i64 (wi (i_61 + 1)))] w_105)))))) fun J_73 =>
   ∃ x_156 : Int, lenS r_69 = some (.int .i64 x_156) ∧
   ifT (decide (x_156 = 0)) (J_73 [(.bool true)] w_70)
   (J_73 [(.bool (decide ((Int.tmod w_68 5) < 2)))] w_70))
   (J_13 [(.int .i64 lost_57), copies_58, (.int .i64 last_59), (.int .i64 delivered_60)] w_56))
   (J_13 [(.int .i64 lost_57), copies_58, (.int .i64 last_59), (.int .i64 delivered_60)] w_56))
def adv4 : Adv := (.sq .lf (.sq .lf (.sq .lf (.sq .lf (.sq .lf (.sq .lf (.sq .lf (.sq .lf (.sj [(5, .sc (.int .i64)), (6, .sc (.opq)), (8, .sc (.int .i64)), (10, .sc (.int .i64))] (.sq .lf (.bl (.lp [(5, .sc (.int .i64)), (6, .sc (.opq)), (8, .sc (.int .i64)), (10, .sc (.int .i64)), (11, .sc (.int .i64))] (.sq (.sq .lf (.cd .lf .lf)) (.sq (.bl (.sq .lf (.sq .lf (.sq (.sj [(50, .sc (.bool))] .lf (.cd (.sq .lf (.sq (.sq .lf (.cd (.sq .lf .lf) .lf)) (.sq .lf (.sq .lf (.sq .lf (.sq .lf .lf)))))) .lf)) (.sq .lf (.sq .lf (.bl (.sq .lf (.cd (.sq (.sq .lf (.cd (.sq .lf .lf) .lf)) .lf) (.sq .lf (.cd (.sq (.sq .lf (.cd (.sq .lf .lf) .lf)) (.sq .lf .lf)) (.sq .lf (.cd (.sq .lf (.sq (.sq .lf (.cd (.sq .lf .lf) .lf)) (.sq .lf (.sq .lf .lf)))) .lf))))))))))))) .lf))))) (.sq .lf (.sq (.sq .lf (.bl (.lp [(10, .sc (.int .i64)), (20, .sc (.int .i64))] (.sq (.sq .lf (.cd .lf .lf)) (.sq (.bl (.sq (.sq .lf (.cd (.sq .lf .lf) .lf)) .lf)) .lf))))) (.sq .lf (.sq (.sq .lf (.bl (.lp [(21, .sc (.int .i64)), (22, .sc (.int .i64))] (.sq (.sq .lf (.cd .lf .lf)) (.sq (.bl .lf) .lf))))) (.sq .lf .lf))))))))))))))
set_option maxRecDepth 100000 in
theorem eq4 (hk : Hook) (work_0 : AV) (w : AW) (K : AV → AW → Prop) : fnS Try.prog hk Try.f4 adv4 [work_0] w K = F4 hk work_0 w K := by kernel_rfl
theorem in4 {hk : Hook} {work_0 : AV} {w : AW} {K : AV → AW → Prop} (hn : hk 4 [work_0] w = none) (h : F4 hk work_0 w K) : Cl Try.prog hk 4 [work_0] w K :=
  fnS_ok Try.func4 hn (by rw [eq4]; exact h)

/-- conduit/conduitlaw12.NetOrder -/
def F5 (hk : Hook) (bodies_0 : AV) (order_1 : AV) (w : AW) (K : AV → AW → Prop) : Prop :=
  Cl Try.prog hk 9 [] w fun r_2 w_3 =>
  join (fun l_4 w_5 => ∃ numbers_7 : AV, l_4 = [numbers_7] ∧ ∀ _ : Nat → AV,
   Cl Try.prog hk 20 [numbers_7] w_5 fun r_8 w_9 =>
   loopP [r_8, (.int .i64 0)] w_9 fun R_10 l_11 w_12 => ∃ left_13 : AV, ∃ i_14 : Int, l_11 = [left_13, (.int .i64 i_14)] ∧ ∀ _ : Nat → AV,
    ∃ x_15 : Int, lenS left_13 = some (.int .i64 x_15) ∧
    ifT (decide (0 < x_15)) (join (fun l_16 w_17 => ∃ k_19 : Int, l_16 = [(.int .i64 k_19)] ∧ ∀ _ : Nat → AV,
     atP (idxS 1 left_13 (.int .i64 k_19)) fun b_20 o_21 =>
     ∃ x_22 : Int, ld w_17 b_20 o_21 = some (.int .i64 x_22) ∧
     Cl Try.prog hk 13 [r_2, (.int .i64 x_22)] w_17 fun r_23 w_24 =>
     ∃ x_25 : Int, ∃ x_26 : Int, ∃ x_27 : Int, ∃ x_28 : AV, ∃ x_29 : Int, r_23 = .tup [(.agg [(.int .i64 x_25), (.int .i64 x_26), (.int .i64 x_27), x_28]), (.int .i64 x_29)] ∧
     new w_24 [(.int .i64 0), (.int .i64 0), (.int .i64 0), .nilslice] fun b_30 w_31 =>
     gd (List.all [(.int .i64 x_25), (.int .i64 x_26), (.int .i64 x_27), x_28] okCell) (
     onM (AW.putCells w_31 b_30 0 [(.int .i64 x_25), (.int .i64 x_26), (.int .i64 x_27), x_28]) fun w_32 =>
     ifT (!decide (x_29 = 0)) (K (.bool false) w_32)
     (∃ x_33 : Int, ld w_32 b_30 (0 + 0) = some (.int .i64 x_33) ∧
     atP (idxS 1 left_13 (.int .i64 k_19)) fun b_34 o_35 =>
     ∃ x_36 : Int, ld w_32 b_34 o_35 = some (.int .i64 x_36) ∧
     ifT (!decide (x_33 = x_36)) (K (.bool false) w_32)
     (∃ x_37 : Int, ld w_32 b_30 (0 + 1) = some (.int .i64 x_37) ∧
     atP (idxS 1 left_13 (.int .i64 k_19)) fun b_38 o_39 =>
     ∃ x_40 : Int, ld w_32 b_38 o_39 = some (.int .i64 x_40) ∧
     ifT (!decide (x_37 = (wi (x_40 - 1)))) (K (.bool false) w_32)
     (onM (ld w_32 b_30 (0 + 3)) fun x_41 =>
     atP (idxS 1 left_13 (.int .i64 k_19)) fun b_42 o_43 =>
     ∃ x_44 : Int, ld w_32 b_42 o_43 = some (.int .i64 x_44) ∧
     atP (idxS 1 bodies_0 (.int .i64 (wi (x_44 - 1)))) fun b_45 o_46 =>
     onM (ld w_32 b_45 o_46) fun x_47 =>
     Cl Try.prog hk 17 [x_41, x_47] w_32 fun r_48 w_49 =>
     ∃ x_50 : Bool, r_48 = (.bool x_50) ∧
     ifT (!x_50) (K (.bool false) w_49)
     (onM (slS 1 left_13 none (some (.int .i64 k_19)) (some (.int .i64 k_19))) fun x_51 =>
     onM (slS 1 left_13 (some (.int .i64 (wi (k_19 + 1)))) none none) fun x_52 =>
     onE (appS 1 8 w_49 x_51 x_52) fun x_53 w_54 =>
     Cl Try.prog hk 14 [r_2] w_54 fun r_55 w_56 =>
     ∃ x_57 : Int, lenS r_55 = some (.int .i64 x_57) ∧
     ∃ x_58 : Int, lenS x_53 = some (.int .i64 x_58) ∧
     ifT (!decide (x_57 = x_58)) (K (.bool false) w_56)
     (loopP [(.int .i64 0)] w_56 fun R_59 l_60 w_61 => ∃ j_62 : Int, l_60 = [(.int .i64 j_62)] ∧ ∀ _ : Nat → AV,
      ∃ x_63 : Int, lenS r_55 = some (.int .i64 x_63) ∧
      ifT (decide (j_62 < x_63)) (atP (idxS 4 r_55 (.int .i64 j_62)) fun b_64 o_65 =>
      ∃ x_66 : Int, ld w_61 b_64 (o_65 + 0) = some (.int .i64 x_66) ∧
      atP (idxS 1 x_53 (.int .i64 j_62)) fun b_67 o_68 =>
      ∃ x_69 : Int, ld w_61 b_67 o_68 = some (.int .i64 x_69) ∧
      ifT (!decide (x_66 = x_69)) (K (.bool false) w_61)
      (R_59 [(.int .i64 (wi (j_62 + 1)))] w_61))
      (R_10 [x_53, (.int .i64 (wi (i_14 + 1)))] w_61)))))))) fun J_18 =>
    ∃ x_70 : Int, lenS order_1 = some (.int .i64 x_70) ∧
    ifT (decide (0 < x_70)) (∃ x_71 : Int, lenS order_1 = some (.int .i64 x_71) ∧
     ∃ x_72 : Int, arith .rem .i64 i_14 x_71 = some (.int .i64 x_72) ∧
     atP (idxS 1 order_1 (.int .i64 x_72)) fun b_73 o_74 =>
     ∃ x_75 : Int, ld w_12 b_73 o_74 = some (.int .i64 x_75) ∧
     ∃ x_76 : Int, lenS left_13 = some (.int .i64 x_76) ∧
     Cl Try.prog hk 19 [(.int .i64 x_75), (.int .i64 x_76)] w_12 fun r_77 w_78 =>
     ∃ k_79 : Int, r_77 = (.int .i64 k_79) ∧
     J_18 [(.int .i64 k_79)] w_78)
    (J_18 [(.int .i64 0)] w_12))
    (Cl Try.prog hk 15 [] w_12 fun r_80 w_81 =>
   ∃ x_82 : Bool, r_80 = (.bool x_82) ∧
   K (.bool x_82) w_81)) fun J_6 =>
  loopP [.nilslice, (.int .i64 0)] w_3 fun R_83 l_84 w_85 => ∃ numbers_86 : AV, ∃ i_87 : Int, l_84 = [numbers_86, (.int .i64 i_87)] ∧ ∀ _ : Nat → AV,
   ∃ x_88 : Int, lenS bodies_0 = some (.int .i64 x_88) ∧
   ifT (decide (i_87 < x_88)) (ifT (decide (i_87 < 12)) (atP (idxS 1 bodies_0 (.int .i64 i_87)) fun b_89 o_90 =>
   onM (ld w_85 b_89 o_90) fun x_91 =>
   Cl Try.prog hk 10 [r_2, (.int .i64 i_87), (.int .i64 0), x_91] w_85 fun r_92 w_93 =>
   ∃ x_94 : Int, ∃ x_95 : Int, r_92 = .tup [(.int .i64 x_94), (.int .i64 x_95)] ∧
   ifT (!decide (x_95 = 0)) (ifT (decide (x_95 = 3)) (Cl Try.prog hk 15 [] w_93 fun r_96 w_97 =>
    ∃ x_98 : Bool, r_96 = (.bool x_98) ∧
    K (.bool x_98) w_97)
    (K (.bool false) w_93))
   (new w_93 [(.int .i64 x_94)] fun b_99 w_100 =>
   onE (appS 1 8 w_100 numbers_86 (.slice b_99 0 1 1 none)) fun numbers_101 w_102 =>
   R_83 [numbers_101, (.int .i64 (wi (i_87 + 1)))] w_102))
   (J_6 [numbers_86] w_85))
   (J_6 [numbers_86] w_85)
def adv5 : Adv := (.sq .lf (.sq .lf (.sq .lf (.sj [(6, .sc (.opq))] (.sq .lf (.bl (.lp [(6, .sc (.opq)), (7, .sc (.int .i64))] (.sq (.sq .lf (.cd .lf .lf)) (.sq (.bl (.sq .lf (.sq (.sq .lf (.cd (.sq .lf .lf) .lf)) .lf))) .lf))))) (.sq .lf (.sq (.sq .lf (.bl (.lp [(10, .sc (.opq)), (11, .sc (.int .i64))] (.sq (.sq .lf (.cd .lf .lf)) (.sq (.bl (.sq .lf (.sj [(12, .sc (.int .i64))] (.sq .lf (.cd .lf .lf)) (.sq .lf (.sq (.sq .lf (.cd (.sq .lf .lf) .lf)) (.sq .lf (.sq .lf (.sq (.sq .lf (.cd (.sq .lf .lf) .lf)) (.sq .lf (.bl (.lp [(16, .sc (.int .i64))] (.sq (.sq .lf (.cd .lf .lf)) (.sq (.bl (.sq .lf (.cd (.sq .lf .lf) .lf))) .lf))))))))))))) .lf))))) (.sq .lf .lf)))))))
set_option maxRecDepth 100000 in
theorem eq5 (hk : Hook) (bodies_0 : AV) (order_1 : AV) (w : AW) (K : AV → AW → Prop) : fnS Try.prog hk Try.f5 adv5 [bodies_0, order_1] w K = F5 hk bodies_0 order_1 w K := by kernel_rfl
theorem in5 {hk : Hook} {bodies_0 : AV} {order_1 : AV} {w : AW} {K : AV → AW → Prop} (hn : hk 5 [bodies_0, order_1] w = none) (h : F5 hk bodies_0 order_1 w K) : Cl Try.prog hk 5 [bodies_0, order_1] w K :=
  fnS_ok Try.func5 hn (by rw [eq5]; exact h)

/-- conduit/conduitlaw12.NetSpares -/
def F6 (hk : Hook) (b_0 : AV) (w : AW) (K : AV → AW → Prop) : Prop :=
  ∃ x_1 : Int, lenS b_0 = some (.int .i64 x_1) ∧
  onM (slS 1 b_0 none (some (.int .i64 (imin x_1 3000))) none) fun b_2 =>
  Cl Try.prog hk 21 [b_2] w fun r_3 w_4 =>
  Cl Try.prog hk 9 [] w_4 fun r_5 w_6 =>
  Cl Try.prog hk 10 [r_5, (.int .i64 1), (.int .i64 2), r_3] w_6 fun r_7 w_8 =>
  ∃ x_9 : Int, ∃ x_10 : Int, r_7 = .tup [(.int .i64 x_9), (.int .i64 x_10)] ∧
  Cl Try.prog hk 11 [r_5, (.int .i64 1)] w_8 fun r_11 w_12 =>
  ∃ x_13 : Int, ∃ x_14 : Int, r_11 = .tup [(.int .i64 x_13), (.int .i64 x_14)] ∧
  Cl Try.prog hk 14 [r_5] w_12 fun r_15 w_16 =>
  Cl Try.prog hk 14 [r_5] w_16 fun r_17 w_18 =>
  ifT (!decide ((wi (x_10 + x_14)) = 0)) (K (.bool false) w_18)
  (∃ x_19 : Int, lenS r_15 = some (.int .i64 x_19) ∧
  ifT (!decide (x_19 = 2)) (K (.bool false) w_18)
  (∃ x_20 : Int, lenS r_17 = some (.int .i64 x_20) ∧
  ifT (!decide (x_20 = 2)) (K (.bool false) w_18)
  (atP (idxS 4 r_15 (.int .i64 0)) fun b_21 o_22 =>
  onM (ld w_18 b_21 (o_22 + 3)) fun x_23 =>
  atP (idxS 4 r_15 (.int .i64 1)) fun b_24 o_25 =>
  onM (ld w_18 b_24 (o_25 + 3)) fun x_26 =>
  atP (idxS 4 r_17 (.int .i64 0)) fun b_27 o_28 =>
  onM (ld w_18 b_27 (o_28 + 3)) fun x_29 =>
  atP (idxS 4 r_17 (.int .i64 1)) fun b_30 o_31 =>
  onM (ld w_18 b_30 (o_31 + 3)) fun x_32 =>
  gd (okCell x_23) (
  gd (okCell x_26) (
  gd (okCell x_29) (
  gd (okCell x_32) (
  gd (okCell r_3) (
  new w_18 [x_23, x_26, x_29, x_32, r_3] fun b_33 w_34 =>
  ld w_34 b_30 (o_31 + 3) = some x_32 ∧
  ld w_34 b_27 (o_28 + 3) = some x_29 ∧
  ld w_34 b_24 (o_25 + 3) = some x_26 ∧
  ld w_34 b_21 (o_22 + 3) = some x_23 ∧
  Cl Try.prog hk 22 [(.slice b_33 0 5 5 none)] w_34 fun r_35 w_36 =>
  ∃ x_37 : Bool, r_35 = (.bool x_37) ∧
  Cl Try.prog hk 13 [r_5, (.int .i64 1)] w_36 fun r_38 w_39 =>
  ∃ x_40 : Int, ∃ x_41 : Int, ∃ x_42 : Int, ∃ x_43 : AV, ∃ x_44 : Int, r_38 = .tup [(.agg [(.int .i64 x_40), (.int .i64 x_41), (.int .i64 x_42), x_43]), (.int .i64 x_44)] ∧
  new w_39 [(.int .i64 0), (.int .i64 0), (.int .i64 0), .nilslice] fun b_45 w_46 =>
  gd (List.all [(.int .i64 x_40), (.int .i64 x_41), (.int .i64 x_42), x_43] okCell) (
  onM (AW.putCells w_46 b_45 0 [(.int .i64 x_40), (.int .i64 x_41), (.int .i64 x_42), x_43]) fun w_47 =>
  Cl Try.prog hk 13 [r_5, (.int .i64 2)] w_47 fun r_48 w_49 =>
  ∃ x_50 : Int, ∃ x_51 : Int, ∃ x_52 : Int, ∃ x_53 : AV, ∃ x_54 : Int, r_48 = .tup [(.agg [(.int .i64 x_50), (.int .i64 x_51), (.int .i64 x_52), x_53]), (.int .i64 x_54)] ∧
  new w_49 [(.int .i64 0), (.int .i64 0), (.int .i64 0), .nilslice] fun b_55 w_56 =>
  gd (List.all [(.int .i64 x_50), (.int .i64 x_51), (.int .i64 x_52), x_53] okCell) (
  onM (AW.putCells w_56 b_55 0 [(.int .i64 x_50), (.int .i64 x_51), (.int .i64 x_52), x_53]) fun w_57 =>
  ifT x_37 (ifT (decide ((wi (x_44 + x_54)) = 0)) (onM (ld w_57 b_45 (0 + 3)) fun x_58 =>
  Cl Try.prog hk 17 [x_58, b_2] w_57 fun r_59 w_60 =>
  ∃ x_61 : Bool, r_59 = (.bool x_61) ∧
  ifT x_61 (onM (ld w_60 b_55 (0 + 3)) fun x_62 =>
  Cl Try.prog hk 17 [x_62, b_2] w_60 fun r_63 w_64 =>
  ∃ x_65 : Bool, r_63 = (.bool x_65) ∧
  ifT x_65 (onM (ld w_64 b_45 (0 + 3)) fun x_66 =>
  onM (ld w_64 b_55 (0 + 3)) fun x_67 =>
  gd (okCell x_66) (
  gd (okCell x_67) (
  new w_64 [x_66, x_67] fun b_68 w_69 =>
  Cl Try.prog hk 22 [(.slice b_68 0 2 2 none)] w_69 fun r_70 w_71 =>
  ∃ x_72 : Bool, r_70 = (.bool x_72) ∧
  ifT x_72 (Cl Try.prog hk 15 [] w_71 fun r_73 w_74 =>
  ∃ x_75 : Bool, r_73 = (.bool x_75) ∧
  K (.bool x_75) w_74)
  (K (.bool false) w_71))))
  (K (.bool false) w_64))
  (K (.bool false) w_60))
  (K (.bool false) w_57))
  (K (.bool false) w_57)))))))))))
def adv6 : Adv := (.sq .lf (.sq .lf (.sq .lf (.sq .lf (.sq .lf (.sq .lf (.sq .lf (.sq (.sq .lf (.cd (.sq .lf .lf) .lf)) (.sq .lf (.sq .lf (.sq .lf (.sq .lf .lf))))))))))))
set_option maxRecDepth 100000 in
theorem eq6 (hk : Hook) (b_0 : AV) (w : AW) (K : AV → AW → Prop) : fnS Try.prog hk Try.f6 adv6 [b_0] w K = F6 hk b_0 w K := by kernel_rfl
theorem in6 {hk : Hook} {b_0 : AV} {w : AW} {K : AV → AW → Prop} (hn : hk 6 [b_0] w = none) (h : F6 hk b_0 w K) : Cl Try.prog hk 6 [b_0] w K :=
  fnS_ok Try.func6 hn (by rw [eq6]; exact h)

/-- conduit/conduitlaw12.NetPlays -/
def F7 (hk : Hook) (many_0 : Bool) (script_1 : AV) (w : AW) (K : AV → AW → Prop) : Prop :=
  Cl Try.prog hk 9 [] w fun r_2 w_3 =>
  Cl Try.prog hk 9 [] w_3 fun r_4 w_5 =>
  gd (okCell r_2) (
  gd (okCell r_4) (
  new w_5 [.nilptr, .nilptr] fun b_6 w_7 =>
  gd (List.all [r_2, r_4] okCell) (
  onM (AW.putCells w_7 b_6 0 [r_2, r_4]) fun w_8 =>
  new w_8 [.nilslice, (.int .i64 0), .nilslice, (.int .i64 0)] fun b_9 w_10 =>
  join (fun l_11 w_12 => l_11 = [] ∧ ∀ _ : Nat → AV,
   join (fun l_14 w_15 => l_14 = [] ∧ ∀ _ : Nat → AV,
    onM (ld w_15 b_6 (0 + 0 * 1)) fun x_17 =>
    onM (ld w_15 b_9 ((0 + 0 * 2) + 0)) fun x_18 =>
    Cl Try.prog hk 14 [x_17] w_15 fun r_19 w_20 =>
    ld w_20 b_9 ((0 + 0 * 2) + 0) = some x_18 ∧
    Cl Try.prog hk 28 [r_19, x_18] w_20 fun r_21 w_22 =>
    ∃ x_23 : Bool, r_21 = (.bool x_23) ∧
    ifT x_23 (onM (ld w_22 b_6 (0 + 1 * 1)) fun x_24 =>
    onM (ld w_22 b_9 ((0 + 1 * 2) + 0)) fun x_25 =>
    Cl Try.prog hk 14 [x_24] w_22 fun r_26 w_27 =>
    ld w_27 b_9 ((0 + 1 * 2) + 0) = some x_25 ∧
    Cl Try.prog hk 28 [r_26, x_25] w_27 fun r_28 w_29 =>
    ∃ x_30 : Bool, r_28 = (.bool x_30) ∧
    ifT x_30 (Cl Try.prog hk 15 [] w_29 fun r_31 w_32 =>
    ∃ x_33 : Bool, r_31 = (.bool x_33) ∧
    K (.bool x_33) w_32)
    (K (.bool false) w_29))
    (K (.bool false) w_22)) fun J_16 =>
   loopP [(.int .i64 0)] w_12 fun R_34 l_35 w_36 => ∃ i_37 : Int, l_35 = [(.int .i64 i_37)] ∧ ∀ _ : Nat → AV,
    ∃ x_38 : Int, lenS script_1 = some (.int .i64 x_38) ∧
    ifT (decide (i_37 < x_38)) (ifT (decide (i_37 < 80)) (atP (idxS 6 script_1 (.int .i64 i_37)) fun b_39 o_40 =>
    ∃ x_41 : Int, ∃ x_42 : Int, ∃ x_43 : Int, ∃ x_44 : Int, ∃ x_45 : AV, ∃ x_46 : Int, ldN 6 w_36 b_39 o_40 = some (.agg [(.int .i64 x_41), (.int .i64 x_42), (.int .i64 x_43), (.int .i64 x_44), x_45, (.int .i64 x_46)]) ∧
    new w_36 [(.int .i64 0), (.int .i64 0), (.int .i64 0), (.int .i64 0), .nilslice, (.int .i64 0)] fun b_47 w_48 =>
    gd (List.all [(.int .i64 x_41), (.int .i64 x_42), (.int .i64 x_43), (.int .i64 x_44), x_45, (.int .i64 x_46)] okCell) (
    onM (AW.putCells w_48 b_47 0 [(.int .i64 x_41), (.int .i64 x_42), (.int .i64 x_43), (.int .i64 x_44), x_45, (.int .i64 x_46)]) fun w_49 =>
    ∃ x_50 : Int, ld w_49 b_47 (0 + 1) = some (.int .i64 x_50) ∧
    join (fun l_51 w_52 => ∃ ok_54 : Bool, l_51 = [(.bool ok_54)] ∧ ∀ _ : Nat → AV,
     ifT (!ok_54) (K (.bool false) w_52)
     (atP (idxP 2 1 (.ptr b_6 0) (.int .i64 (bAnd .i64 x_50 1))) fun b_55 o_56 =>
     onM (ld w_52 b_55 o_56) fun x_57 =>
     atP (idxP 2 2 (.ptr b_9 0) (.int .i64 (bAnd .i64 x_50 1))) fun b_58 o_59 =>
     onM (ld w_52 b_58 (o_59 + 0)) fun x_60 =>
     Cl Try.prog hk 14 [x_57] w_52 fun r_61 w_62 =>
     ld w_62 b_58 (o_59 + 0) = some x_60 ∧
     Cl Try.prog hk 28 [r_61, x_60] w_62 fun r_63 w_64 =>
     ∃ x_65 : Bool, r_63 = (.bool x_65) ∧
     ifT (!x_65) (K (.bool false) w_64)
     (R_34 [(.int .i64 (wi (i_37 + 1)))] w_64))) fun J_53 =>
    ∃ x_66 : Int, ld w_49 b_47 (0 + 0) = some (.int .i64 x_66) ∧
    ifT (decide (x_66 = 1)) (onM (ld w_49 b_47 (0 + 4)) fun x_67 =>
     Cl Try.prog hk 24 [x_67] w_49 fun r_68 w_69 =>
     atP (idxP 2 1 (.ptr b_6 0) (.int .i64 (bAnd .i64 x_50 1))) fun b_70 o_71 =>
     onM (ld w_69 b_70 o_71) fun x_72 =>
     ∃ x_73 : Int, ld w_69 b_47 (0 + 2) = some (.int .i64 x_73) ∧
     ∃ x_74 : Int, ld w_69 b_47 (0 + 3) = some (.int .i64 x_74) ∧
     Cl Try.prog hk 10 [x_72, (.int .i64 x_73), (.int .i64 x_74), r_68] w_69 fun r_75 w_76 =>
     ∃ x_77 : Int, ∃ x_78 : Int, r_75 = .tup [(.int .i64 x_77), (.int .i64 x_78)] ∧
     atP (idxP 2 2 (.ptr b_9 0) (.int .i64 (bAnd .i64 x_50 1))) fun b_79 o_80 =>
     ∃ x_81 : AV, ∃ x_82 : Int, ldN 2 w_76 b_79 o_80 = some (.agg [x_81, (.int .i64 x_82)]) ∧
     ∃ x_83 : Int, ld w_76 b_47 (0 + 2) = some (.int .i64 x_83) ∧
     ∃ x_84 : Int, ld w_76 b_47 (0 + 3) = some (.int .i64 x_84) ∧
     onM (ld w_76 b_47 (0 + 4)) fun x_85 =>
     new w_76 [.nilslice, (.int .i64 0)] fun b_86 w_87 =>
     ld w_87 b_47 (0 + 4) = some x_85 ∧
     ld w_87 b_47 (0 + 3) = some (.int .i64 x_84) ∧
     ld w_87 b_47 (0 + 2) = some (.int .i64 x_83) ∧
     ldN 2 w_87 b_79 o_80 = some (.agg [x_81, (.int .i64 x_82)]) ∧
     Cl Try.prog hk 23 [(.agg [x_81, (.int .i64 x_82)]), (.int .i64 x_83), (.int .i64 x_84), x_85] w_87 fun r_88 w_89 =>
     ∃ x_90 : AV, ∃ x_91 : Int, ∃ x_92 : Int, ∃ x_93 : Int, r_88 = .tup [(.agg [x_90, (.int .i64 x_91)]), (.int .i64 x_92), (.int .i64 x_93)] ∧
     gd (List.all [x_90, (.int .i64 x_91)] okCell) (
     onM (AW.putCells w_89 b_86 0 [x_90, (.int .i64 x_91)]) fun w_94 =>
     ∃ x_95 : AV, ∃ x_96 : Int, ldN 2 w_94 b_86 0 = some (.agg [x_95, (.int .i64 x_96)]) ∧
     atP (idxP 2 2 (.ptr b_9 0) (.int .i64 (bAnd .i64 x_50 1))) fun b_97 o_98 =>
     gd (List.all [x_95, (.int .i64 x_96)] okCell) (
     onM (AW.putCells w_94 b_97 o_98 [x_95, (.int .i64 x_96)]) fun w_99 =>
     join (fun l_100 w_101 => ∃ ok_103 : Bool, l_100 = [(.bool ok_103)] ∧ ∀ _ : Nat → AV,
      Cl Try.prog hk 26 [r_68] w_101 fun r_104 w_105 =>
      r_104 = .tup [] ∧
      J_53 [(.bool ok_103)] w_105) fun J_102 =>
     ifT (decide (x_77 = x_92)) (ifT (decide (x_78 = x_93)) (onM (ld w_99 b_47 (0 + 4)) fun x_106 =>
     Cl Try.prog hk 25 [r_68, x_106] w_99 fun r_107 w_108 =>
     ∃ x_109 : Bool, r_107 = (.bool x_109) ∧
     J_102 [(.bool x_109)] w_108)
     (J_102 [(.bool false)] w_99))
     (J_102 [(.bool false)] w_99))))
    (ifT (decide (x_66 = 2)) (atP (idxP 2 1 (.ptr b_6 0) (.int .i64 (bAnd .i64 x_50 1))) fun b_110 o_111 =>
      onM (ld w_49 b_110 o_111) fun x_112 =>
      ∃ x_113 : Int, ld w_49 b_47 (0 + 5) = some (.int .i64 x_113) ∧
      new w_49 [(.int .i64 0), (.int .i64 0), (.int .i64 0), .nilslice] fun b_114 w_115 =>
      ld w_115 b_47 (0 + 5) = some (.int .i64 x_113) ∧
      ld w_115 b_110 o_111 = some x_112 ∧
      Cl Try.prog hk 13 [x_112, (.int .i64 x_113)] w_115 fun r_116 w_117 =>
      ∃ x_118 : Int, ∃ x_119 : Int, ∃ x_120 : Int, ∃ x_121 : AV, ∃ x_122 : Int, r_116 = .tup [(.agg [(.int .i64 x_118), (.int .i64 x_119), (.int .i64 x_120), x_121]), (.int .i64 x_122)] ∧
      gd (List.all [(.int .i64 x_118), (.int .i64 x_119), (.int .i64 x_120), x_121] okCell) (
      onM (AW.putCells w_117 b_114 0 [(.int .i64 x_118), (.int .i64 x_119), (.int .i64 x_120), x_121]) fun w_123 =>
      atP (idxP 2 2 (.ptr b_9 0) (.int .i64 (bAnd .i64 x_50 1))) fun b_124 o_125 =>
      ∃ x_126 : AV, ∃ x_127 : Int, ldN 2 w_123 b_124 o_125 = some (.agg [x_126, (.int .i64 x_127)]) ∧
      ∃ x_128 : Int, ld w_123 b_47 (0 + 5) = some (.int .i64 x_128) ∧
      new w_123 [.nilslice, (.int .i64 0)] fun b_129 w_130 =>
      new w_130 [(.int .i64 0), (.int .i64 0), (.int .i64 0), .nilslice] fun b_131 w_132 =>
      ld w_132 b_47 (0 + 5) = some (.int .i64 x_128) ∧
      ldN 2 w_132 b_124 o_125 = some (.agg [x_126, (.int .i64 x_127)]) ∧
      Cl Try.prog hk 27 [(.agg [x_126, (.int .i64 x_127)]), (.int .i64 x_128)] w_132 fun r_133 w_134 =>
      ∃ x_135 : AV, ∃ x_136 : Int, ∃ x_137 : Int, ∃ x_138 : Int, ∃ x_139 : Int, ∃ x_140 : AV, ∃ x_141 : Int, r_133 = .tup [(.agg [x_135, (.int .i64 x_136)]), (.agg [(.int .i64 x_137), (.int .i64 x_138), (.int .i64 x_139), x_140]), (.int .i64 x_141)] ∧
      gd (List.all [x_135, (.int .i64 x_136)] okCell) (
      onM (AW.putCells w_134 b_129 0 [x_135, (.int .i64 x_136)]) fun w_142 =>
      gd (List.all [(.int .i64 x_137), (.int .i64 x_138), (.int .i64 x_139), x_140] okCell) (
      onM (AW.putCells w_142 b_131 0 [(.int .i64 x_137), (.int .i64 x_138), (.int .i64 x_139), x_140]) fun w_143 =>
      ∃ x_144 : AV, ∃ x_145 : Int, ldN 2 w_143 b_129 0 = some (.agg [x_144, (.int .i64 x_145)]) ∧
      atP (idxP 2 2 (.ptr b_9 0) (.int .i64 (bAnd .i64 x_50 1))) fun b_146 o_147 =>
      gd (List.all [x_144, (.int .i64 x_145)] okCell) (
      onM (AW.putCells w_143 b_146 o_147 [x_144, (.int .i64 x_145)]) fun w_148 =>
      ifT (decide (x_122 = x_141)) (∃ x_149 : Int, ∃ x_150 : Int, ∃ x_151 : Int, ∃ x_152 : AV, ldN 4 w_148 b_114 0 = some (.agg [(.int .i64 x_149), (.int .i64 x_150), (.int .i64 x_151), x_152]) ∧
      gd (List.all [(.int .i64 x_149), (.int .i64 x_150), (.int .i64 x_151), x_152] okCell) (
      new w_148 [(.int .i64 x_149), (.int .i64 x_150), (.int .i64 x_151), x_152] fun b_153 w_154 =>
      ∃ x_155 : Int, ∃ x_156 : Int, ∃ x_157 : Int, ∃ x_158 : AV, ldN 4 w_154 b_131 0 = some (.agg [(.int .i64 x_155), (.int .i64 x_156), (.int .i64 x_157), x_158]) ∧
      gd (List.all [(.int .i64 x_155), (.int .i64 x_156), (.int .i64 x_157), x_158] okCell) (
      new w_154 [(.int .i64 x_155), (.int .i64 x_156), (.int .i64 x_157), x_158] fun b_159 w_160 =>
      Cl Try.prog hk 28 [(.slice b_153 0 1 1 none), (.slice b_159 0 1 1 none)] w_160 fun r_161 w_162 =>
      ∃ x_163 : Bool, r_161 = (.bool x_163) ∧
      J_53 [(.bool x_163)] w_162)))
      (J_53 [(.bool false)] w_148))))))
     (ifT (decide (x_66 = 3)) (atP (idxP 2 1 (.ptr b_6 0) (.int .i64 (bAnd .i64 x_50 1))) fun b_164 o_165 =>
       onM (ld w_49 b_164 o_165) fun x_166 =>
       ∃ x_167 : Int, ld w_49 b_47 (0 + 5) = some (.int .i64 x_167) ∧
       Cl Try.prog hk 12 [x_166, (.int .i64 x_167)] w_49 fun r_168 w_169 =>
       ∃ x_170 : Int, r_168 = (.int .i64 x_170) ∧
       atP (idxP 2 2 (.ptr b_9 0) (.int .i64 (bAnd .i64 x_50 1))) fun b_171 o_172 =>
       ∃ x_173 : AV, ∃ x_174 : Int, ldN 2 w_169 b_171 o_172 = some (.agg [x_173, (.int .i64 x_174)]) ∧
       ∃ x_175 : Int, ld w_169 b_47 (0 + 5) = some (.int .i64 x_175) ∧
       new w_169 [.nilslice, (.int .i64 0)] fun b_176 w_177 =>
       new w_177 [(.int .i64 0), (.int .i64 0), (.int .i64 0), .nilslice] fun b_178 w_179 =>
       ld w_179 b_47 (0 + 5) = some (.int .i64 x_175) ∧
       ldN 2 w_179 b_171 o_172 = some (.agg [x_173, (.int .i64 x_174)]) ∧
       Cl Try.prog hk 27 [(.agg [x_173, (.int .i64 x_174)]), (.int .i64 x_175)] w_179 fun r_180 w_181 =>
       ∃ x_182 : AV, ∃ x_183 : Int, ∃ x_184 : Int, ∃ x_185 : Int, ∃ x_186 : Int, ∃ x_187 : AV, ∃ x_188 : Int, r_180 = .tup [(.agg [x_182, (.int .i64 x_183)]), (.agg [(.int .i64 x_184), (.int .i64 x_185), (.int .i64 x_186), x_187]), (.int .i64 x_188)] ∧
       gd (List.all [x_182, (.int .i64 x_183)] okCell) (
       onM (AW.putCells w_181 b_176 0 [x_182, (.int .i64 x_183)]) fun w_189 =>
       gd (List.all [(.int .i64 x_184), (.int .i64 x_185), (.int .i64 x_186), x_187] okCell) (
       onM (AW.putCells w_189 b_178 0 [(.int .i64 x_184), (.int .i64 x_185), (.int .i64 x_186), x_187]) fun w_190 =>
       ∃ x_191 : AV, ∃ x_192 : Int, ldN 2 w_190 b_176 0 = some (.agg [x_191, (.int .i64 x_192)]) ∧
       atP (idxP 2 2 (.ptr b_9 0) (.int .i64 (bAnd .i64 x_50 1))) fun b_193 o_194 =>
       gd (List.all [x_191, (.int .i64 x_192)] okCell) (
       onM (AW.putCells w_190 b_193 o_194 [x_191, (.int .i64 x_192)]) fun w_195 =>
       J_53 [(.bool (decide (x_170 = x_188)))] w_195))))
      (ifT (decide (x_66 = 4)) (atP (idxP 2 1 (.ptr b_6 0) (.int .i64 (bAnd .i64 x_50 1))) fun b_196 o_197 =>
        onM (ld w_49 b_196 o_197) fun x_198 =>
        ∃ x_199 : Int, ld w_49 b_47 (0 + 5) = some (.int .i64 x_199) ∧
        Cl Try.prog hk 11 [x_198, (.int .i64 x_199)] w_49 fun r_200 w_201 =>
        ∃ x_202 : Int, ∃ x_203 : Int, r_200 = .tup [(.int .i64 x_202), (.int .i64 x_203)] ∧
        atP (idxP 2 2 (.ptr b_9 0) (.int .i64 (bAnd .i64 x_50 1))) fun b_204 o_205 =>
        ∃ x_206 : AV, ∃ x_207 : Int, ldN 2 w_201 b_204 o_205 = some (.agg [x_206, (.int .i64 x_207)]) ∧
        ∃ x_208 : Int, ld w_201 b_47 (0 + 5) = some (.int .i64 x_208) ∧
        new w_201 [.nilslice, (.int .i64 0)] fun b_209 w_210 =>
        ld w_210 b_47 (0 + 5) = some (.int .i64 x_208) ∧
        ldN 2 w_210 b_204 o_205 = some (.agg [x_206, (.int .i64 x_207)]) ∧
        Cl Try.prog hk 29 [(.agg [x_206, (.int .i64 x_207)]), (.int .i64 x_208)] w_210 fun r_211 w_212 =>
        ∃ x_213 : AV, ∃ x_214 : Int, ∃ x_215 : Int, ∃ x_216 : Int, r_211 = .tup [(.agg [x_213, (.int .i64 x_214)]), (.int .i64 x_215), (.int .i64 x_216)] ∧
        gd (List.all [x_213, (.int .i64 x_214)] okCell) (
        onM (AW.putCells w_212 b_209 0 [x_213, (.int .i64 x_214)]) fun w_217 =>
        ∃ x_218 : AV, ∃ x_219 : Int, ldN 2 w_217 b_209 0 = some (.agg [x_218, (.int .i64 x_219)]) ∧
        atP (idxP 2 2 (.ptr b_9 0) (.int .i64 (bAnd .i64 x_50 1))) fun b_220 o_221 =>
        gd (List.all [x_218, (.int .i64 x_219)] okCell) (
        onM (AW.putCells w_217 b_220 o_221 [x_218, (.int .i64 x_219)]) fun w_222 =>
        ifT (decide (x_202 = x_215)) (J_53 [(.bool (decide (x_203 = x_216)))] w_222)
        (J_53 [(.bool false)] w_222))))
       (ifT (decide (x_66 = 5)) (atP (idxP 2 1 (.ptr b_6 0) (.int .i64 (bAnd .i64 x_50 1))) fun b_223 o_224 =>
         onM (ld w_49 b_223 o_224) fun x_225 =>
         atP (idxP 2 2 (.ptr b_9 0) (.int .i64 (bAnd .i64 x_50 1))) fun b_226 o_227 =>
         ∃ x_228 : AV, ∃ x_229 : Int, ldN 2 w_49 b_226 o_227 = some (.agg [x_228, (.int .i64 x_229)]) ∧
         Cl Try.prog hk 30 [x_225] w_49 fun r_230 w_231 =>
         ldN 2 w_231 b_226 o_227 = some (.agg [x_228, (.int .i64 x_229)]) ∧
         atP (idxP 2 1 (.ptr b_6 0) (.int .i64 (wi (1 - (bAnd .i64 x_50 1))))) fun b_232 o_233 =>
         gd (okCell r_230) (
         onM (AW.putCells w_231 b_232 o_233 [r_230]) fun w_234 =>
         ldN 2 w_234 b_226 o_227 = some (.agg [x_228, (.int .i64 x_229)]) ∧
         atP (idxP 2 2 (.ptr b_9 0) (.int .i64 (wi (1 - (bAnd .i64 x_50 1))))) fun b_235 o_236 =>
         gd (List.all [x_228, (.int .i64 x_229)] okCell) (
         onM (AW.putCells w_234 b_235 o_236 [x_228, (.int .i64 x_229)]) fun w_237 =>
         J_53 [(.bool true)] w_237)))
        (J_53 [(.bool true)] w_49)))))))
    (J_16 [] w_36))
    (J_16 [] w_36)) fun J_13 =>
  loopP [(.int .i64 0)] w_10 fun R_238 l_239 w_240 => ∃ i_241 : Int, l_239 = [(.int .i64 i_241)] ∧ ∀ _ : Nat → AV,
   ifT many_0 (ifT (decide (i_241 < 250)) (onM (ld w_240 b_6 (0 + 0 * 1)) fun x_242 =>
   Cl Try.prog hk 10 [x_242, (.int .i64 i_241), (.int .i64 i_241), .nilslice] w_240 fun r_243 w_244 =>
   ∃ x_245 : Int, ∃ x_246 : Int, r_243 = .tup [(.int .i64 x_245), (.int .i64 x_246)] ∧
   ∃ x_247 : AV, ∃ x_248 : Int, ldN 2 w_244 b_9 (0 + 0 * 2) = some (.agg [x_247, (.int .i64 x_248)]) ∧
   Cl Try.prog hk 23 [(.agg [x_247, (.int .i64 x_248)]), (.int .i64 i_241), (.int .i64 i_241), .nilslice] w_244 fun r_249 w_250 =>
   ∃ x_251 : AV, ∃ x_252 : Int, ∃ x_253 : Int, ∃ x_254 : Int, r_249 = .tup [(.agg [x_251, (.int .i64 x_252)]), (.int .i64 x_253), (.int .i64 x_254)] ∧
   gd (List.all [x_251, (.int .i64 x_252)] okCell) (
   onM (AW.putCells w_250 b_9 (0 + 0 * 2) [x_251, (.int .i64 x_252)]) fun w_255 =>
   R_238 [(.int .i64 (wi (i_241 + 1)))] w_255))
   (J_13 [] w_240))
   (J_13 [] w_240))))
def adv7 : Adv := (.sq .lf (.sq .lf (.sq .lf (.sj [] (.sq .lf (.bl (.lp [(7, .sc (.int .i64))] (.sq (.sq .lf (.cd .lf .lf)) (.sq (.bl (.sq .lf .lf)) .lf))))) (.sj [] (.sq .lf (.bl (.lp [(8, .sc (.int .i64))] (.sq (.sq .lf (.cd .lf .lf)) (.sq (.bl (.sq .lf (.sq .lf (.sq .lf (.sj [(11, .sc (.bool))] (.sq .lf (.bl (.sq .lf (.cd (.sq .lf (.sq .lf (.sq .lf (.sq .lf (.sj [(11, .sc (.bool))] .lf .lf))))) (.sq .lf (.cd (.sq .lf (.sq .lf (.sq .lf .lf))) (.sq .lf (.cd (.sq .lf (.sq .lf (.sq .lf .lf))) (.sq .lf (.cd (.sq .lf (.sq .lf (.sq .lf .lf))) (.sq .lf (.cd .lf .lf)))))))))))) (.sq .lf (.cd (.sq .lf .lf) .lf))))))) .lf))))) (.sq .lf .lf))))))
set_option maxRecDepth 100000 in
theorem eq7 (hk : Hook) (many_0 : Bool) (script_1 : AV) (w : AW) (K : AV → AW → Prop) : fnS Try.prog hk Try.f7 adv7 [(.bool many_0), script_1] w K = F7 hk many_0 script_1 w K := by kernel_rfl
theorem in7 {hk : Hook} {many_0 : Bool} {script_1 : AV} {w : AW} {K : AV → AW → Prop} (hn : hk 7 [(.bool many_0), script_1] w = none) (h : F7 hk many_0 script_1 w K) : Cl Try.prog hk 7 [(.bool many_0), script_1] w K :=
  fnS_ok Try.func7 hn (by rw [eq7]; exact h)

/-- conduit/net.New -/
def F9 (hk : Hook)  (w : AW) (K : AV → AW → Prop) : Prop :=
  newMap w fun m_0 w_1 =>
  new w_1 [(.map m_0), (.int .i64 0)] fun b_2 w_3 =>
  K (.ptr b_2 0) w_3
def adv9 : Adv := (.sq .lf (.sq .lf .lf))
set_option maxRecDepth 100000 in
theorem eq9 (hk : Hook)  (w : AW) (K : AV → AW → Prop) : fnS Try.prog hk Try.f9 adv9 [] w K = F9 hk  w K := by kernel_rfl
theorem in9 {hk : Hook} {w : AW} {K : AV → AW → Prop} (hn : hk 9 [] w = none) (h : F9 hk  w K) : Cl Try.prog hk 9 [] w K :=
  fnS_ok Try.func9 hn (by rw [eq9]; exact h)

/-- (*conduit/net.Net).Send -/
def F10 (hk : Hook) (n_0 : AV) (from_1 : Int) (to_2 : Int) (body_3 : AV) (w : AW) (K : AV → AW → Prop) : Prop :=
  Cl Try.prog hk 31 [n_0] w fun r_4 w_5 =>
  ∃ x_6 : Bool, r_4 = (.bool x_6) ∧
  ifT x_6 (K (.tup [(.int .i64 0), (.int .i64 1)]) w_5)
  (∃ x_7 : Int, lenS body_3 = some (.int .i64 x_7) ∧
   ifT (decide (65545 < x_7)) (K (.tup [(.int .i64 0), (.int .i64 3)]) w_5)
   (gd (okCell body_3) (
  Cl Try.prog hk 32 [n_0, (.agg [(.int .i64 0), (.int .i64 from_1), (.int .i64 to_2), body_3])] w_5 fun r_8 w_9 =>
  ∃ x_10 : Int, ∃ x_11 : Int, r_8 = .tup [(.int .i64 x_10), (.int .i64 x_11)] ∧
  K (.tup [(.int .i64 x_10), (.int .i64 x_11)]) w_9)))
def adv10 : Adv := (.sq .lf (.sq (.bl (.sq .lf (.cd (.sq .lf .lf) (.sq .lf (.cd (.sq .lf .lf) .lf))))) (.sq .lf .lf)))
set_option maxRecDepth 100000 in
theorem eq10 (hk : Hook) (n_0 : AV) (from_1 : Int) (to_2 : Int) (body_3 : AV) (w : AW) (K : AV → AW → Prop) : fnS Try.prog hk Try.f10 adv10 [n_0, (.int .i64 from_1), (.int .i64 to_2), body_3] w K = F10 hk n_0 from_1 to_2 body_3 w K := by kernel_rfl
theorem in10 {hk : Hook} {n_0 : AV} {from_1 : Int} {to_2 : Int} {body_3 : AV} {w : AW} {K : AV → AW → Prop} (hn : hk 10 [n_0, (.int .i64 from_1), (.int .i64 to_2), body_3] w = none) (h : F10 hk n_0 from_1 to_2 body_3 w K) : Cl Try.prog hk 10 [n_0, (.int .i64 from_1), (.int .i64 to_2), body_3] w K :=
  fnS_ok Try.func10 hn (by rw [eq10]; exact h)

/-- (*conduit/net.Net).Double -/
def F11 (hk : Hook) (n_0 : AV) (number_1 : Int) (w : AW) (K : AV → AW → Prop) : Prop :=
  Cl Try.prog hk 33 [n_0, (.int .i64 number_1)] w fun r_2 w_3 =>
  ∃ x_4 : Int, ∃ x_5 : Int, ∃ x_6 : Int, ∃ x_7 : AV, ∃ x_8 : Int, r_2 = .tup [(.agg [(.int .i64 x_4), (.int .i64 x_5), (.int .i64 x_6), x_7]), (.int .i64 x_8)] ∧
  new w_3 [(.int .i64 0), (.int .i64 0), (.int .i64 0), .nilslice] fun b_9 w_10 =>
  gd (List.all [(.int .i64 x_4), (.int .i64 x_5), (.int .i64 x_6), x_7] okCell) (
  onM (AW.putCells w_10 b_9 0 [(.int .i64 x_4), (.int .i64 x_5), (.int .i64 x_6), x_7]) fun w_11 =>
  ifT (!decide (x_8 = 0)) (K (.tup [(.int .i64 0), (.int .i64 x_8)]) w_11)
  (∃ x_12 : Int, ∃ x_13 : Int, ∃ x_14 : Int, ∃ x_15 : AV, ldN 4 w_11 b_9 0 = some (.agg [(.int .i64 x_12), (.int .i64 x_13), (.int .i64 x_14), x_15]) ∧
  Cl Try.prog hk 32 [n_0, (.agg [(.int .i64 x_12), (.int .i64 x_13), (.int .i64 x_14), x_15])] w_11 fun r_16 w_17 =>
  ∃ x_18 : Int, ∃ x_19 : Int, r_16 = .tup [(.int .i64 x_18), (.int .i64 x_19)] ∧
  K (.tup [(.int .i64 x_18), (.int .i64 x_19)]) w_17))
def adv11 : Adv := (.sq .lf (.sq .lf (.sq (.sq .lf (.cd (.sq .lf .lf) .lf)) (.sq .lf .lf))))
set_option maxRecDepth 100000 in
theorem eq11 (hk : Hook) (n_0 : AV) (number_1 : Int) (w : AW) (K : AV → AW → Prop) : fnS Try.prog hk Try.f11 adv11 [n_0, (.int .i64 number_1)] w K = F11 hk n_0 number_1 w K := by kernel_rfl
theorem in11 {hk : Hook} {n_0 : AV} {number_1 : Int} {w : AW} {K : AV → AW → Prop} (hn : hk 11 [n_0, (.int .i64 number_1)] w = none) (h : F11 hk n_0 number_1 w K) : Cl Try.prog hk 11 [n_0, (.int .i64 number_1)] w K :=
  fnS_ok Try.func11 hn (by rw [eq11]; exact h)

/-- (*conduit/net.Net).Drop -/
def F12 (hk : Hook) (n_0 : AV) (number_1 : Int) (w : AW) (K : AV → AW → Prop) : Prop :=
  Cl Try.prog hk 13 [n_0, (.int .i64 number_1)] w fun r_2 w_3 =>
  ∃ x_4 : Int, ∃ x_5 : Int, ∃ x_6 : Int, ∃ x_7 : AV, ∃ x_8 : Int, r_2 = .tup [(.agg [(.int .i64 x_4), (.int .i64 x_5), (.int .i64 x_6), x_7]), (.int .i64 x_8)] ∧
  new w_3 [(.int .i64 0), (.int .i64 0), (.int .i64 0), .nilslice] fun b_9 w_10 =>
  gd (List.all [(.int .i64 x_4), (.int .i64 x_5), (.int .i64 x_6), x_7] okCell) (
  onM (AW.putCells w_10 b_9 0 [(.int .i64 x_4), (.int .i64 x_5), (.int .i64 x_6), x_7]) fun w_11 =>
  K (.int .i64 x_8) w_11)
def adv12 : Adv := (.sq .lf (.sq .lf (.sq .lf .lf)))
set_option maxRecDepth 100000 in
theorem eq12 (hk : Hook) (n_0 : AV) (number_1 : Int) (w : AW) (K : AV → AW → Prop) : fnS Try.prog hk Try.f12 adv12 [n_0, (.int .i64 number_1)] w K = F12 hk n_0 number_1 w K := by kernel_rfl
theorem in12 {hk : Hook} {n_0 : AV} {number_1 : Int} {w : AW} {K : AV → AW → Prop} (hn : hk 12 [n_0, (.int .i64 number_1)] w = none) (h : F12 hk n_0 number_1 w K) : Cl Try.prog hk 12 [n_0, (.int .i64 number_1)] w K :=
  fnS_ok Try.func12 hn (by rw [eq12]; exact h)

/-- (*conduit/net.Net).Deliver -/
def F13 (hk : Hook) (n_0 : AV) (number_1 : Int) (w : AW) (K : AV → AW → Prop) : Prop :=
  new w [(.int .i64 0), (.int .i64 0), (.int .i64 0), .nilslice] fun b_2 w_3 =>
  Cl Try.prog hk 33 [n_0, (.int .i64 number_1)] w_3 fun r_4 w_5 =>
  ∃ x_6 : Int, ∃ x_7 : Int, ∃ x_8 : Int, ∃ x_9 : AV, ∃ x_10 : Int, r_4 = .tup [(.agg [(.int .i64 x_6), (.int .i64 x_7), (.int .i64 x_8), x_9]), (.int .i64 x_10)] ∧
  new w_5 [(.int .i64 0), (.int .i64 0), (.int .i64 0), .nilslice] fun b_11 w_12 =>
  gd (List.all [(.int .i64 x_6), (.int .i64 x_7), (.int .i64 x_8), x_9] okCell) (
  onM (AW.putCells w_12 b_11 0 [(.int .i64 x_6), (.int .i64 x_7), (.int .i64 x_8), x_9]) fun w_13 =>
  ifT (!decide (x_10 = 0)) (onM (AW.putCells w_13 b_2 0 [(.int .i64 0), (.int .i64 0), (.int .i64 0), .nilslice]) fun w_14 =>
   ∃ res_15 : Int, ∃ res_16 : Int, ∃ res_17 : Int, ∃ res_18 : AV, ldN 4 w_14 b_2 0 = some (.agg [(.int .i64 res_15), (.int .i64 res_16), (.int .i64 res_17), res_18]) ∧
  K (.tup [(.agg [(.int .i64 res_15), (.int .i64 res_16), (.int .i64 res_17), res_18]), (.int .i64 x_10)]) w_14)
  (onP n_0 fun b_19 o_20 =>
  onM (ld w_13 b_19 (o_20 + 0)) fun x_21 =>
  onE (kvDel w_13 x_21 (.int .i64 number_1)) fun r_22 w_23 =>
  onM (ld w_23 b_11 (0 + 3)) fun x_24 =>
  Cl Try.prog hk 34 [x_24] w_23 fun r_25 w_26 =>
  gd (okCell r_25) (
  onM (AW.putCells w_26 b_11 (0 + 3) [r_25]) fun w_27 =>
  ∃ x_28 : Int, ∃ x_29 : Int, ∃ x_30 : Int, ∃ x_31 : AV, ldN 4 w_27 b_11 0 = some (.agg [(.int .i64 x_28), (.int .i64 x_29), (.int .i64 x_30), x_31]) ∧
  gd (List.all [(.int .i64 x_28), (.int .i64 x_29), (.int .i64 x_30), x_31] okCell) (
  onM (AW.putCells w_27 b_2 0 [(.int .i64 x_28), (.int .i64 x_29), (.int .i64 x_30), x_31]) fun w_32 =>
  ∃ res_33 : Int, ∃ res_34 : Int, ∃ res_35 : Int, ∃ res_36 : AV, ldN 4 w_32 b_2 0 = some (.agg [(.int .i64 res_33), (.int .i64 res_34), (.int .i64 res_35), res_36]) ∧
  K (.tup [(.agg [(.int .i64 res_33), (.int .i64 res_34), (.int .i64 res_35), res_36]), (.int .i64 0)]) w_32))))
def adv13 : Adv := (.sq .lf (.sq .lf (.sq (.sq .lf (.cd (.sq .lf .lf) .lf)) (.sq .lf (.sq .lf (.sq .lf .lf))))))
set_option maxRecDepth 100000 in
theorem eq13 (hk : Hook) (n_0 : AV) (number_1 : Int) (w : AW) (K : AV → AW → Prop) : fnS Try.prog hk Try.f13 adv13 [n_0, (.int .i64 number_1)] w K = F13 hk n_0 number_1 w K := by kernel_rfl
theorem in13 {hk : Hook} {n_0 : AV} {number_1 : Int} {w : AW} {K : AV → AW → Prop} (hn : hk 13 [n_0, (.int .i64 number_1)] w = none) (h : F13 hk n_0 number_1 w K) : Cl Try.prog hk 13 [n_0, (.int .i64 number_1)] w K :=
  fnS_ok Try.func13 hn (by rw [eq13]; exact h)

/-- (*conduit/net.Net).List -/
def F14 (hk : Hook) (n_0 : AV) (w : AW) (K : AV → AW → Prop) : Prop :=
  Cl Try.prog hk 31 [n_0] w fun r_1 w_2 =>
  ∃ x_3 : Bool, r_1 = (.bool x_3) ∧
  ifT x_3 (K .nilslice w_2)
  (onP n_0 fun b_4 o_5 =>
  onM (ld w_2 b_4 (o_5 + 0)) fun x_6 =>
  Cl Try.prog hk 36 [x_6] w_2 fun r_7 w_8 =>
  Cl Try.prog hk 35 [r_7] w_8 fun r_9 w_10 =>
  ∃ x_11 : Int, lenS r_9 = some (.int .i64 x_11) ∧
  loopP [.nilslice, (.int .i64 0)] w_10 fun R_12 l_13 w_14 => ∃ out_15 : AV, ∃ x_16 : Int, l_13 = [out_15, (.int .i64 x_16)] ∧ ∀ _ : Nat → AV,
   ifT (decide (x_16 < x_11)) (atP (idxS 1 r_9 (.int .i64 x_16)) fun b_17 o_18 =>
   ∃ k_19 : Int, ld w_14 b_17 o_18 = some (.int .i64 k_19) ∧
   onP n_0 fun b_20 o_21 =>
   onM (ld w_14 b_20 (o_21 + 0)) fun x_22 =>
   ∃ x_23 : Int, ∃ x_24 : Int, ∃ x_25 : Int, ∃ x_26 : AV, lookS (.agg [(.int .i64 0), (.int .i64 0), (.int .i64 0), .nilslice]) false w_14 x_22 (.int .i64 k_19) = some (.agg [(.int .i64 x_23), (.int .i64 x_24), (.int .i64 x_25), x_26]) ∧
   new w_14 [(.int .i64 0), (.int .i64 0), (.int .i64 0), .nilslice] fun b_27 w_28 =>
   gd (List.all [(.int .i64 x_23), (.int .i64 x_24), (.int .i64 x_25), x_26] okCell) (
   onM (AW.putCells w_28 b_27 0 [(.int .i64 x_23), (.int .i64 x_24), (.int .i64 x_25), x_26]) fun w_29 =>
   onM (ld w_29 b_27 (0 + 3)) fun x_30 =>
   Cl Try.prog hk 34 [x_30] w_29 fun r_31 w_32 =>
   gd (okCell r_31) (
   onM (AW.putCells w_32 b_27 (0 + 3) [r_31]) fun w_33 =>
   ∃ x_34 : Int, ∃ x_35 : Int, ∃ x_36 : Int, ∃ x_37 : AV, ldN 4 w_33 b_27 0 = some (.agg [(.int .i64 x_34), (.int .i64 x_35), (.int .i64 x_36), x_37]) ∧
   gd (List.all [(.int .i64 x_34), (.int .i64 x_35), (.int .i64 x_36), x_37] okCell) (
   new w_33 [(.int .i64 x_34), (.int .i64 x_35), (.int .i64 x_36), x_37] fun b_38 w_39 =>
   onE (appS 4 48 w_39 out_15 (.slice b_38 0 1 1 none)) fun out_40 w_41 =>
   R_12 [out_40, (.int .i64 (wi (x_16 + 1)))] w_41))))
   (K out_15 w_14))
def adv14 : Adv := (.sq .lf (.sq (.sq .lf (.cd (.sq .lf .lf) .lf)) (.sq .lf (.sq (.sq .lf (.bl (.lp [(3, .sc (.opq)), (16, .sc (.int .i64))] (.sq .lf (.sq (.cd .lf .lf) (.sq (.bl (.sq .lf (.sq .lf (.sq .lf .lf)))) .lf)))))) (.sq .lf .lf)))))
set_option maxRecDepth 100000 in
theorem eq14 (hk : Hook) (n_0 : AV) (w : AW) (K : AV → AW → Prop) : fnS Try.prog hk Try.f14 adv14 [n_0] w K = F14 hk n_0 w K := by kernel_rfl
theorem in14 {hk : Hook} {n_0 : AV} {w : AW} {K : AV → AW → Prop} (hn : hk 14 [n_0] w = none) (h : F14 hk n_0 w K) : Cl Try.prog hk 14 [n_0] w K :=
  fnS_ok Try.func14 hn (by rw [eq14]; exact h)

/-- conduit/conduitlaw12.NetSent$1 -/
def F16 (hk : Hook) (p_0 : Int) (p_1 : Int) (p_2 : Int) (p_3 : AV) (e_4 : Int) (cap_5 : AV) (cap_6 : AV) (w : AW) (K : AV → AW → Prop) : Prop :=
  gd (List.all [(.int .i64 p_0), (.int .i64 p_1), (.int .i64 p_2), p_3] okCell) (
  new w [(.int .i64 p_0), (.int .i64 p_1), (.int .i64 p_2), p_3] fun b_7 w_8 =>
  ifT (!decide (e_4 = 0)) (K (.bool false) w_8)
  (onM (ld w_8 b_7 (0 + 3)) fun x_9 =>
  ∃ x_10 : Int, lenS x_9 = some (.int .i64 x_10) ∧
  ifT (decide (x_10 < 2)) (K (.bool false) w_8)
  (onM (ld w_8 b_7 (0 + 3)) fun x_11 =>
  atP (idxS 1 x_11 (.int .i64 0)) fun b_12 o_13 =>
  ∃ x_14 : Int, ld w_8 b_12 o_13 = some (.int .u8 x_14) ∧
  onM (ld w_8 b_7 (0 + 3)) fun x_15 =>
  atP (idxS 1 x_15 (.int .i64 1)) fun b_16 o_17 =>
  ∃ x_18 : Int, ld w_8 b_16 o_17 = some (.int .u8 x_18) ∧
  be (bOr .i64 (shlI .i64 (wi x_14) 8) (wi x_18)) fun x_19 =>
  onP cap_5 fun b_20 o_21 =>
  ∃ x_22 : Int, ld w_8 b_20 o_21 = some (.int .i64 x_22) ∧
  ifT (decide (x_19 < x_22)) (∃ x_23 : Int, ld w_8 b_7 (0 + 1) = some (.int .i64 x_23) ∧
  ifT (decide (x_23 = x_19)) (∃ x_24 : Int, ld w_8 b_7 (0 + 2) = some (.int .i64 x_24) ∧
  ifT (decide (x_24 = (wi (x_19 + 1)))) (onM (ld w_8 b_7 (0 + 3)) fun x_25 =>
  Cl Try.prog hk 18 [(.int .i64 x_19)] w_8 fun r_26 w_27 =>
  ld w_27 b_7 (0 + 3) = some x_25 ∧
  Cl Try.prog hk 17 [x_25, r_26] w_27 fun r_28 w_29 =>
  ∃ x_30 : Bool, r_28 = (.bool x_30) ∧
  ifT x_30 (onP cap_6 fun b_31 o_32 =>
  onM (ld w_29 b_31 o_32) fun x_33 =>
  ∃ x_34 : Int, ld w_29 b_7 (0 + 0) = some (.int .i64 x_34) ∧
  atP (idxS 1 x_33 (.int .i64 x_34)) fun b_35 o_36 =>
  ∃ x_37 : Int, ld w_29 b_35 o_36 = some (.int .i64 x_37) ∧
  K (.bool (decide (x_37 = (wi (x_19 + 1))))) w_29)
  (K (.bool false) w_29))
  (K (.bool false) w_8))
  (K (.bool false) w_8))
  (K (.bool false) w_8))))
def adv16 : Adv := (.sq .lf (.sq (.sq .lf (.cd (.sq .lf .lf) .lf)) (.sq .lf (.sq .lf .lf))))
set_option maxRecDepth 100000 in
theorem eq16 (hk : Hook) (p_0 : Int) (p_1 : Int) (p_2 : Int) (p_3 : AV) (e_4 : Int) (cap_5 : AV) (cap_6 : AV) (w : AW) (K : AV → AW → Prop) : fnS Try.prog hk Try.f16 adv16 [(.agg [(.int .i64 p_0), (.int .i64 p_1), (.int .i64 p_2), p_3]), (.int .i64 e_4), cap_5, cap_6] w K = F16 hk p_0 p_1 p_2 p_3 e_4 cap_5 cap_6 w K := by kernel_rfl
theorem in16 {hk : Hook} {p_0 : Int} {p_1 : Int} {p_2 : Int} {p_3 : AV} {e_4 : Int} {cap_5 : AV} {cap_6 : AV} {w : AW} {K : AV → AW → Prop} (hn : hk 16 [(.agg [(.int .i64 p_0), (.int .i64 p_1), (.int .i64 p_2), p_3]), (.int .i64 e_4), cap_5, cap_6] w = none) (h : F16 hk p_0 p_1 p_2 p_3 e_4 cap_5 cap_6 w K) : Cl Try.prog hk 16 [(.agg [(.int .i64 p_0), (.int .i64 p_1), (.int .i64 p_2), p_3]), (.int .i64 e_4), cap_5, cap_6] w K :=
  fnS_ok Try.func16 hn (by rw [eq16]; exact h)

/-- conduit/conduitlow.SameBytes -/
def F17 (hk : Hook) (a_0 : AV) (b_1 : AV) (w : AW) (K : AV → AW → Prop) : Prop :=
  ∃ x_2 : List UInt8, b2s w a_0 = some (.str x_2) ∧
  ∃ x_3 : List UInt8, b2s w b_1 = some (.str x_3) ∧
  K (.bool (x_2 == x_3)) w
def adv17 : Adv := (.sq .lf (.sq .lf .lf))
set_option maxRecDepth 100000 in
theorem eq17 (hk : Hook) (a_0 : AV) (b_1 : AV) (w : AW) (K : AV → AW → Prop) : fnS Try.prog hk Try.f17 adv17 [a_0, b_1] w K = F17 hk a_0 b_1 w K := by kernel_rfl
theorem in17 {hk : Hook} {a_0 : AV} {b_1 : AV} {w : AW} {K : AV → AW → Prop} (hn : hk 17 [a_0, b_1] w = none) (h : F17 hk a_0 b_1 w K) : Cl Try.prog hk 17 [a_0, b_1] w K :=
  fnS_ok Try.func17 hn (by rw [eq17]; exact h)

/-- conduit/conduitlaw12.body -/
def F18 (hk : Hook) (i_0 : Int) (w : AW) (K : AV → AW → Prop) : Prop :=
  be (IntKind.wrap .u8 (shrI .i64 i_0 8)) fun x_1 =>
  new w [(.int .u8 x_1), (.int .u8 (IntKind.wrap .u8 i_0))] fun b_2 w_3 =>
  Cl Try.prog hk 37 [(.int .i64 i_0), (.int .i64 (Int.tmod i_0 20))] w_3 fun r_4 w_5 =>
  onE (appS 1 1 w_5 (.slice b_2 0 2 2 none) r_4) fun x_6 w_7 =>
  K x_6 w_7
def adv18 : Adv := (.sq .lf (.sq .lf .lf))
set_option maxRecDepth 100000 in
theorem eq18 (hk : Hook) (i_0 : Int) (w : AW) (K : AV → AW → Prop) : fnS Try.prog hk Try.f18 adv18 [(.int .i64 i_0)] w K = F18 hk i_0 w K := by kernel_rfl
theorem in18 {hk : Hook} {i_0 : Int} {w : AW} {K : AV → AW → Prop} (hn : hk 18 [(.int .i64 i_0)] w = none) (h : F18 hk i_0 w K) : Cl Try.prog hk 18 [(.int .i64 i_0)] w K :=
  fnS_ok Try.func18 hn (by rw [eq18]; exact h)

/-- conduit/conduitlow.Pick -/
def F19 (hk : Hook) (x_0 : Int) (n_1 : Int) (w : AW) (K : AV → AW → Prop) : Prop :=
  ifT (decide (n_1 ≤ 0)) (K (.int .i64 0) w)
  (∃ x_2 : Int, arith .rem .i64 x_0 n_1 = some (.int .i64 x_2) ∧
  ifT (decide (x_2 < 0)) (K (.int .i64 (wi (x_2 + n_1))) w)
  (K (.int .i64 x_2) w))
def adv19 : Adv := (.sq .lf (.sq (.sq .lf (.cd (.sq .lf .lf) .lf)) (.sq .lf (.sq (.sq .lf (.cd .lf .lf)) (.sq .lf .lf)))))
set_option maxRecDepth 100000 in
theorem eq19 (hk : Hook) (x_0 : Int) (n_1 : Int) (w : AW) (K : AV → AW → Prop) : fnS Try.prog hk Try.f19 adv19 [(.int .i64 x_0), (.int .i64 n_1)] w K = F19 hk x_0 n_1 w K := by kernel_rfl
theorem in19 {hk : Hook} {x_0 : Int} {n_1 : Int} {w : AW} {K : AV → AW → Prop} (hn : hk 19 [(.int .i64 x_0), (.int .i64 n_1)] w = none) (h : F19 hk x_0 n_1 w K) : Cl Try.prog hk 19 [(.int .i64 x_0), (.int .i64 n_1)] w K :=
  fnS_ok Try.func19 hn (by rw [eq19]; exact h)

/-- conduit/conduitlow.CopyInts -/
def F20 (hk : Hook) (l_0 : AV) (w : AW) (K : AV → AW → Prop) : Prop :=
  onE (appS 1 8 w .nilslice l_0) fun x_1 w_2 =>
  K x_1 w_2
def adv20 : Adv := (.sq .lf (.sq .lf (.sq .lf .lf)))
set_option maxRecDepth 100000 in
theorem eq20 (hk : Hook) (l_0 : AV) (w : AW) (K : AV → AW → Prop) : fnS Try.prog hk Try.f20 adv20 [l_0] w K = F20 hk l_0 w K := by kernel_rfl
theorem in20 {hk : Hook} {l_0 : AV} {w : AW} {K : AV → AW → Prop} (hn : hk 20 [l_0] w = none) (h : F20 hk l_0 w K) : Cl Try.prog hk 20 [l_0] w K :=
  fnS_ok Try.func20 hn (by rw [eq20]; exact h)

/-- conduit/conduitlow.CopyBytes -/
def F21 (hk : Hook) (l_0 : AV) (w : AW) (K : AV → AW → Prop) : Prop :=
  onE (appS 1 1 w .nilslice l_0) fun x_1 w_2 =>
  K x_1 w_2
def adv21 : Adv := (.sq .lf (.sq .lf (.sq .lf .lf)))
set_option maxRecDepth 100000 in
theorem eq21 (hk : Hook) (l_0 : AV) (w : AW) (K : AV → AW → Prop) : fnS Try.prog hk Try.f21 adv21 [l_0] w K = F21 hk l_0 w K := by kernel_rfl
theorem in21 {hk : Hook} {l_0 : AV} {w : AW} {K : AV → AW → Prop} (hn : hk 21 [l_0] w = none) (h : F21 hk l_0 w K) : Cl Try.prog hk 21 [l_0] w K :=
  fnS_ok Try.func21 hn (by rw [eq21]; exact h)

/-- conduit/conduitlow.ApartBytes -/
def F22 (hk : Hook) (ls_0 : AV) (w : AW) (K : AV → AW → Prop) : Prop :=
  ∃ x_1 : Int, lenS ls_0 = some (.int .i64 x_1) ∧
  onM (asN (.int .i64 x_1)) fun n_2 =>
  onM (asN (.int .i64 x_1)) fun n_3 =>
  gd (Nat.ble n_2 n_3 && Nat.ble (n_3 * 24) (2 ^ 47) && Nat.blt n_3 (2 ^ 63) && true) (new w (repl n_3 [.nilslice]) fun b_4 w_5 =>
  loopP [(.int .i64 0)] w_5 fun R_6 l_7 w_8 => ∃ k_9 : Int, l_7 = [(.int .i64 k_9)] ∧ ∀ _ : Nat → AV,
   ∃ x_10 : Int, lenS ls_0 = some (.int .i64 x_10) ∧
   ifT (decide (k_9 < x_10)) (loopP [(.int .i64 0)] w_8 fun R_11 l_12 w_13 => ∃ i_14 : Int, l_12 = [(.int .i64 i_14)] ∧ ∀ _ : Nat → AV,
    atP (idxS 1 ls_0 (.int .i64 k_9)) fun b_15 o_16 =>
    onM (ld w_13 b_15 o_16) fun x_17 =>
    ∃ x_18 : Int, lenS x_17 = some (.int .i64 x_18) ∧
    ifT (decide (i_14 < x_18)) (atP (idxS 1 ls_0 (.int .i64 k_9)) fun b_19 o_20 =>
    onM (ld w_13 b_19 o_20) fun x_21 =>
    Cl Try.prog hk 38 [(.int .i64 k_9), (.int .i64 i_14)] w_13 fun r_22 w_23 =>
    ∃ x_24 : Int, r_22 = (.int .u8 x_24) ∧
    ld w_23 b_19 o_20 = some x_21 ∧
    atP (idxS 1 x_21 (.int .i64 i_14)) fun b_25 o_26 =>
    onM (AW.putCells w_23 b_25 o_26 [(.int .u8 x_24)]) fun w_27 =>
    R_11 [(.int .i64 (wi (i_14 + 1)))] w_27)
    (R_6 [(.int .i64 (wi (k_9 + 1)))] w_13))
   (loopP [(.int .i64 0)] w_8 fun R_28 l_29 w_30 => ∃ k_31 : Int, l_29 = [(.int .i64 k_31)] ∧ ∀ _ : Nat → AV,
   ∃ x_32 : Int, lenS ls_0 = some (.int .i64 x_32) ∧
   ifT (decide (k_31 < x_32)) (atP (idxS 1 ls_0 (.int .i64 k_31)) fun b_33 o_34 =>
   onM (ld w_30 b_33 o_34) fun g_35 =>
   loopP [g_35, (.int .i64 0)] w_30 fun R_36 l_37 w_38 => ∃ g_39 : AV, ∃ j_40 : Int, l_37 = [g_39, (.int .i64 j_40)] ∧ ∀ _ : Nat → AV,
    ifT (decide (j_40 < 40)) (atP (idxS 1 ls_0 (.int .i64 k_31)) fun b_41 o_42 =>
    onM (ld w_38 b_41 o_42) fun x_43 =>
    ∃ x_44 : Int, lenS x_43 = some (.int .i64 x_44) ∧
    Cl Try.prog hk 38 [(.int .i64 k_31), (.int .i64 (wi (x_44 + j_40)))] w_38 fun r_45 w_46 =>
    ∃ x_47 : Int, r_45 = (.int .u8 x_47) ∧
    new w_46 [(.int .u8 x_47)] fun b_48 w_49 =>
    onE (appS 1 1 w_49 g_39 (.slice b_48 0 1 1 none)) fun g_50 w_51 =>
    R_36 [g_50, (.int .i64 (wi (j_40 + 1)))] w_51)
    (atP (idxS 1 (.slice b_4 0 n_2 n_3 none) (.int .i64 k_31)) fun b_52 o_53 =>
   gd (okCell g_39) (
   onM (AW.putCells w_38 b_52 o_53 [g_39]) fun w_54 =>
   R_28 [(.int .i64 (wi (k_31 + 1)))] w_54)))
   (loopP [(.int .i64 0)] w_30 fun R_55 l_56 w_57 => ∃ k_58 : Int, l_56 = [(.int .i64 k_58)] ∧ ∀ _ : Nat → AV,
   ∃ x_59 : Int, lenS ls_0 = some (.int .i64 x_59) ∧
   ifT (decide (k_58 < x_59)) (loopP [(.int .i64 0)] w_57 fun R_60 l_61 w_62 => ∃ i_63 : Int, l_61 = [(.int .i64 i_63)] ∧ ∀ _ : Nat → AV,
    atP (idxS 1 (.slice b_4 0 n_2 n_3 none) (.int .i64 k_58)) fun b_64 o_65 =>
    onM (ld w_62 b_64 o_65) fun x_66 =>
    ∃ x_67 : Int, lenS x_66 = some (.int .i64 x_67) ∧
    ifT (decide (i_63 < x_67)) (atP (idxS 1 (.slice b_4 0 n_2 n_3 none) (.int .i64 k_58)) fun b_68 o_69 =>
    onM (ld w_62 b_68 o_69) fun x_70 =>
    atP (idxS 1 x_70 (.int .i64 i_63)) fun b_71 o_72 =>
    ∃ x_73 : Int, ld w_62 b_71 o_72 = some (.int .u8 x_73) ∧
    Cl Try.prog hk 38 [(.int .i64 k_58), (.int .i64 i_63)] w_62 fun r_74 w_75 =>
    ∃ x_76 : Int, r_74 = (.int .u8 x_76) ∧
    ld w_75 b_71 o_72 = some (.int .u8 x_73) ∧
    ld w_75 b_68 o_69 = some x_70 ∧
    ifT (!decide (x_73 = x_76)) (K (.bool false) w_75)
    (atP (idxS 1 ls_0 (.int .i64 k_58)) fun b_77 o_78 =>
    onM (ld w_75 b_77 o_78) fun x_79 =>
    ∃ x_80 : Int, lenS x_79 = some (.int .i64 x_80) ∧
    ifT (decide (i_63 < x_80)) (atP (idxS 1 ls_0 (.int .i64 k_58)) fun b_81 o_82 =>
    onM (ld w_75 b_81 o_82) fun x_83 =>
    atP (idxS 1 x_83 (.int .i64 i_63)) fun b_84 o_85 =>
    ∃ x_86 : Int, ld w_75 b_84 o_85 = some (.int .u8 x_86) ∧
    Cl Try.prog hk 38 [(.int .i64 k_58), (.int .i64 i_63)] w_75 fun r_87 w_88 =>
    ∃ x_89 : Int, r_87 = (.int .u8 x_89) ∧
    ld w_88 b_84 o_85 = some (.int .u8 x_86) ∧
    ld w_88 b_81 o_82 = some x_83 ∧
    ifT (!decide (x_86 = x_89)) (K (.bool false) w_88)
    (R_60 [(.int .i64 (wi (i_63 + 1)))] w_88))
    (R_60 [(.int .i64 (wi (i_63 + 1)))] w_75)))
    (R_55 [(.int .i64 (wi (k_58 + 1)))] w_62))
   (K (.bool true) w_57))))
def adv22 : Adv := (.sq .lf (.sq .lf (.sq (.sq .lf (.bl (.lp [(4, .sc (.int .i64))] (.sq (.sq .lf (.cd .lf .lf)) (.sq (.bl (.sq .lf (.bl (.lp [(5, .sc (.int .i64))] (.sq (.sq .lf (.cd .lf .lf)) (.sq (.bl .lf) .lf)))))) .lf))))) (.sq (.sq .lf (.bl (.lp [(6, .sc (.int .i64))] (.sq (.sq .lf (.cd .lf .lf)) (.sq (.bl (.sq .lf (.sq (.sq .lf (.bl (.lp [(7, .sc (.opq)), (8, .sc (.int .i64))] (.sq (.sq .lf (.cd .lf .lf)) (.sq (.bl .lf) .lf))))) .lf))) .lf))))) (.sq (.sq .lf (.bl (.lp [(9, .sc (.int .i64))] (.sq (.sq .lf (.cd .lf .lf)) (.sq (.bl (.sq .lf (.bl (.lp [(10, .sc (.int .i64))] (.sq (.sq .lf (.cd .lf .lf)) (.sq (.bl (.sq .lf (.cd (.sq .lf .lf) .lf))) .lf)))))) .lf))))) (.sq .lf .lf))))))
set_option maxRecDepth 100000 in
theorem eq22 (hk : Hook) (ls_0 : AV) (w : AW) (K : AV → AW → Prop) : fnS Try.prog hk Try.f22 adv22 [ls_0] w K = F22 hk ls_0 w K := by kernel_rfl
theorem in22 {hk : Hook} {ls_0 : AV} {w : AW} {K : AV → AW → Prop} (hn : hk 22 [ls_0] w = none) (h : F22 hk ls_0 w K) : Cl Try.prog hk 22 [ls_0] w K :=
  fnS_ok Try.func22 hn (by rw [eq22]; exact h)

/-- (conduit/conduitref12.Net).Send -/
def F23 (hk : Hook) (n_0 : AV) (n_1 : Int) (from_2 : Int) (to_3 : Int) (body_4 : AV) (w : AW) (K : AV → AW → Prop) : Prop :=
  gd (List.all [n_0, (.int .i64 n_1)] okCell) (
  new w [n_0, (.int .i64 n_1)] fun b_5 w_6 =>
  new w_6 [.nilslice, (.int .i64 0)] fun b_7 w_8 =>
  ∃ x_9 : Int, lenS body_4 = some (.int .i64 x_9) ∧
  ifT (decide (65545 < x_9)) (∃ x_10 : AV, ∃ x_11 : Int, ldN 2 w_8 b_5 0 = some (.agg [x_10, (.int .i64 x_11)]) ∧
   gd (List.all [x_10, (.int .i64 x_11)] okCell) (
   onM (AW.putCells w_8 b_7 0 [x_10, (.int .i64 x_11)]) fun w_12 =>
   ∃ res_13 : AV, ∃ res_14 : Int, ldN 2 w_12 b_7 0 = some (.agg [res_13, (.int .i64 res_14)]) ∧
  K (.tup [(.agg [res_13, (.int .i64 res_14)]), (.int .i64 0), (.int .i64 3)]) w_12))
  (∃ x_15 : AV, ∃ x_16 : Int, ldN 2 w_8 b_5 0 = some (.agg [x_15, (.int .i64 x_16)]) ∧
  gd (okCell body_4) (
  Cl Try.prog hk 39 [(.agg [x_15, (.int .i64 x_16)]), (.agg [(.int .i64 0), (.int .i64 from_2), (.int .i64 to_3), body_4])] w_8 fun r_17 w_18 =>
  ∃ x_19 : AV, ∃ x_20 : Int, ∃ x_21 : Int, ∃ x_22 : Int, r_17 = .tup [(.agg [x_19, (.int .i64 x_20)]), (.int .i64 x_21), (.int .i64 x_22)] ∧
  gd (List.all [x_19, (.int .i64 x_20)] okCell) (
  onM (AW.putCells w_18 b_7 0 [x_19, (.int .i64 x_20)]) fun w_23 =>
  ∃ res_24 : AV, ∃ res_25 : Int, ldN 2 w_23 b_7 0 = some (.agg [res_24, (.int .i64 res_25)]) ∧
  K (.tup [(.agg [res_24, (.int .i64 res_25)]), (.int .i64 x_21), (.int .i64 x_22)]) w_23))))
def adv23 : Adv := (.sq .lf (.sq (.sq .lf (.cd (.sq .lf .lf) .lf)) (.sq .lf .lf)))
set_option maxRecDepth 100000 in
theorem eq23 (hk : Hook) (n_0 : AV) (n_1 : Int) (from_2 : Int) (to_3 : Int) (body_4 : AV) (w : AW) (K : AV → AW → Prop) : fnS Try.prog hk Try.f23 adv23 [(.agg [n_0, (.int .i64 n_1)]), (.int .i64 from_2), (.int .i64 to_3), body_4] w K = F23 hk n_0 n_1 from_2 to_3 body_4 w K := by kernel_rfl
theorem in23 {hk : Hook} {n_0 : AV} {n_1 : Int} {from_2 : Int} {to_3 : Int} {body_4 : AV} {w : AW} {K : AV → AW → Prop} (hn : hk 23 [(.agg [n_0, (.int .i64 n_1)]), (.int .i64 from_2), (.int .i64 to_3), body_4] w = none) (h : F23 hk n_0 n_1 from_2 to_3 body_4 w K) : Cl Try.prog hk 23 [(.agg [n_0, (.int .i64 n_1)]), (.int .i64 from_2), (.int .i64 to_3), body_4] w K :=
  fnS_ok Try.func23 hn (by rw [eq23]; exact h)

/-- conduit/conduitlow.LentBytes -/
def F24 (hk : Hook) (l_0 : AV) (w : AW) (K : AV → AW → Prop) : Prop :=
  Cl Try.prog hk 21 [l_0] w fun r_1 w_2 =>
  new w_2 [(.int .u8 77), (.int .u8 78), (.int .u8 79)] fun b_3 w_4 =>
  onE (appS 1 1 w_4 r_1 (.slice b_3 0 3 3 none)) fun out_5 w_6 =>
  ∃ x_7 : Int, lenS l_0 = some (.int .i64 x_7) ∧
  onM (slS 1 out_5 none (some (.int .i64 x_7)) none) fun x_8 =>
  K x_8 w_6
def adv24 : Adv := (.sq .lf (.sq .lf (.sq .lf .lf)))
set_option maxRecDepth 100000 in
theorem eq24 (hk : Hook) (l_0 : AV) (w : AW) (K : AV → AW → Prop) : fnS Try.prog hk Try.f24 adv24 [l_0] w K = F24 hk l_0 w K := by kernel_rfl
theorem in24 {hk : Hook} {l_0 : AV} {w : AW} {K : AV → AW → Prop} (hn : hk 24 [l_0] w = none) (h : F24 hk l_0 w K) : Cl Try.prog hk 24 [l_0] w K :=
  fnS_ok Try.func24 hn (by rw [eq24]; exact h)

/-- conduit/conduitlow.KeptBytes -/
def F25 (hk : Hook) (out_0 : AV) (l_1 : AV) (w : AW) (K : AV → AW → Prop) : Prop :=
  ∃ x_2 : Int, lenS out_0 = some (.int .i64 x_2) ∧
  onM (slS 1 out_0 none (some (.int .i64 (wi (x_2 + 3)))) none) fun all_3 =>
  Cl Try.prog hk 17 [out_0, l_1] w fun r_4 w_5 =>
  ∃ x_6 : Bool, r_4 = (.bool x_6) ∧
  ifT x_6 (∃ x_7 : Int, lenS l_1 = some (.int .i64 x_7) ∧
  atP (idxS 1 all_3 (.int .i64 x_7)) fun b_8 o_9 =>
  ∃ x_10 : Int, ld w_5 b_8 o_9 = some (.int .u8 x_10) ∧
  ifT (decide (x_10 = 77)) (∃ x_11 : Int, lenS l_1 = some (.int .i64 x_11) ∧
  atP (idxS 1 all_3 (.int .i64 (wi (x_11 + 1)))) fun b_12 o_13 =>
  ∃ x_14 : Int, ld w_5 b_12 o_13 = some (.int .u8 x_14) ∧
  ifT (decide (x_14 = 78)) (∃ x_15 : Int, lenS l_1 = some (.int .i64 x_15) ∧
  atP (idxS 1 all_3 (.int .i64 (wi (x_15 + 2)))) fun b_16 o_17 =>
  ∃ x_18 : Int, ld w_5 b_16 o_17 = some (.int .u8 x_18) ∧
  K (.bool (decide (x_18 = 79))) w_5)
  (K (.bool false) w_5))
  (K (.bool false) w_5))
  (K (.bool false) w_5)
def adv25 : Adv := (.sq .lf (.sq .lf (.sq .lf .lf)))
set_option maxRecDepth 100000 in
theorem eq25 (hk : Hook) (out_0 : AV) (l_1 : AV) (w : AW) (K : AV → AW → Prop) : fnS Try.prog hk Try.f25 adv25 [out_0, l_1] w K = F25 hk out_0 l_1 w K := by kernel_rfl
theorem in25 {hk : Hook} {out_0 : AV} {l_1 : AV} {w : AW} {K : AV → AW → Prop} (hn : hk 25 [out_0, l_1] w = none) (h : F25 hk out_0 l_1 w K) : Cl Try.prog hk 25 [out_0, l_1] w K :=
  fnS_ok Try.func25 hn (by rw [eq25]; exact h)

/-- conduit/conduitlow.OverBytes -/
def F26 (hk : Hook) (out_0 : AV) (w : AW) (K : AV → AW → Prop) : Prop :=
  ∃ x_1 : Int, lenS out_0 = some (.int .i64 x_1) ∧
  onM (slS 1 out_0 none (some (.int .i64 (wi (x_1 + 3)))) none) fun all_2 =>
  loopP [(.int .i64 0)] w fun R_3 l_4 w_5 => ∃ i_6 : Int, l_4 = [(.int .i64 i_6)] ∧ ∀ _ : Nat → AV,
   ∃ x_7 : Int, lenS all_2 = some (.int .i64 x_7) ∧
   ifT (decide (i_6 < x_7)) (Cl Try.prog hk 38 [(.int .i64 9), (.int .i64 i_6)] w_5 fun r_8 w_9 =>
   ∃ x_10 : Int, r_8 = (.int .u8 x_10) ∧
   atP (idxS 1 all_2 (.int .i64 i_6)) fun b_11 o_12 =>
   onM (AW.putCells w_9 b_11 o_12 [(.int .u8 x_10)]) fun w_13 =>
   R_3 [(.int .i64 (wi (i_6 + 1)))] w_13)
   (K (.tup []) w_5)
def adv26 : Adv := (.sq .lf (.sq .lf (.bl (.lp [(3, .sc (.int .i64))] (.sq (.sq .lf (.cd .lf .lf)) (.sq (.bl .lf) .lf))))))
set_option maxRecDepth 100000 in
theorem eq26 (hk : Hook) (out_0 : AV) (w : AW) (K : AV → AW → Prop) : fnS Try.prog hk Try.f26 adv26 [out_0] w K = F26 hk out_0 w K := by kernel_rfl
theorem in26 {hk : Hook} {out_0 : AV} {w : AW} {K : AV → AW → Prop} (hn : hk 26 [out_0] w = none) (h : F26 hk out_0 w K) : Cl Try.prog hk 26 [out_0] w K :=
  fnS_ok Try.func26 hn (by rw [eq26]; exact h)

/-- (conduit/conduitref12.Net).Deliver -/
def F27 (hk : Hook) (n_0 : AV) (n_1 : Int) (number_2 : Int) (w : AW) (K : AV → AW → Prop) : Prop :=
  gd (List.all [n_0, (.int .i64 n_1)] okCell) (
  new w [n_0, (.int .i64 n_1)] fun b_3 w_4 =>
  new w_4 [.nilslice, (.int .i64 0)] fun b_5 w_6 =>
  new w_6 [(.int .i64 0), (.int .i64 0), (.int .i64 0), .nilslice] fun b_7 w_8 =>
  ∃ x_9 : AV, ∃ x_10 : Int, ldN 2 w_8 b_3 0 = some (.agg [x_9, (.int .i64 x_10)]) ∧
  Cl Try.prog hk 40 [(.agg [x_9, (.int .i64 x_10)]), (.int .i64 number_2)] w_8 fun r_11 w_12 =>
  ∃ i_13 : Int, r_11 = (.int .i64 i_13) ∧
  ifT (decide (i_13 < 0)) (∃ x_14 : AV, ∃ x_15 : Int, ldN 2 w_12 b_3 0 = some (.agg [x_14, (.int .i64 x_15)]) ∧
   gd (List.all [x_14, (.int .i64 x_15)] okCell) (
   onM (AW.putCells w_12 b_5 0 [x_14, (.int .i64 x_15)]) fun w_16 =>
   onM (AW.putCells w_16 b_7 0 [(.int .i64 0), (.int .i64 0), (.int .i64 0), .nilslice]) fun w_17 =>
   ∃ res_18 : AV, ∃ res_19 : Int, ldN 2 w_17 b_5 0 = some (.agg [res_18, (.int .i64 res_19)]) ∧
  ∃ res_20 : Int, ∃ res_21 : Int, ∃ res_22 : Int, ∃ res_23 : AV, ldN 4 w_17 b_7 0 = some (.agg [(.int .i64 res_20), (.int .i64 res_21), (.int .i64 res_22), res_23]) ∧
  K (.tup [(.agg [res_18, (.int .i64 res_19)]), (.agg [(.int .i64 res_20), (.int .i64 res_21), (.int .i64 res_22), res_23]), (.int .i64 100)]) w_17))
  (onM (ld w_12 b_3 (0 + 0)) fun x_24 =>
  atP (idxS 4 x_24 (.int .i64 i_13)) fun b_25 o_26 =>
  ∃ x_27 : Int, ∃ x_28 : Int, ∃ x_29 : Int, ∃ x_30 : AV, ldN 4 w_12 b_25 o_26 = some (.agg [(.int .i64 x_27), (.int .i64 x_28), (.int .i64 x_29), x_30]) ∧
  new w_12 [(.int .i64 0), (.int .i64 0), (.int .i64 0), .nilslice] fun b_31 w_32 =>
  gd (List.all [(.int .i64 x_27), (.int .i64 x_28), (.int .i64 x_29), x_30] okCell) (
  onM (AW.putCells w_32 b_31 0 [(.int .i64 x_27), (.int .i64 x_28), (.int .i64 x_29), x_30]) fun w_33 =>
  onM (ld w_33 b_3 (0 + 0)) fun x_34 =>
  onM (slS 4 x_34 none (some (.int .i64 i_13)) none) fun x_35 =>
  onE (appS 4 48 w_33 .nilslice x_35) fun l_36 w_37 =>
  onM (ld w_37 b_3 (0 + 0)) fun x_38 =>
  onM (slS 4 x_38 (some (.int .i64 (wi (i_13 + 1)))) none none) fun x_39 =>
  onE (appS 4 48 w_37 l_36 x_39) fun x_40 w_41 =>
  gd (okCell x_40) (
  onM (AW.putCells w_41 b_3 (0 + 0) [x_40]) fun w_42 =>
  ∃ x_43 : AV, ∃ x_44 : Int, ldN 2 w_42 b_3 0 = some (.agg [x_43, (.int .i64 x_44)]) ∧
  ∃ x_45 : Int, ∃ x_46 : Int, ∃ x_47 : Int, ∃ x_48 : AV, ldN 4 w_42 b_31 0 = some (.agg [(.int .i64 x_45), (.int .i64 x_46), (.int .i64 x_47), x_48]) ∧
  gd (List.all [x_43, (.int .i64 x_44)] okCell) (
  onM (AW.putCells w_42 b_5 0 [x_43, (.int .i64 x_44)]) fun w_49 =>
  ldN 4 w_49 b_31 0 = some (.agg [(.int .i64 x_45), (.int .i64 x_46), (.int .i64 x_47), x_48]) ∧
  gd (List.all [(.int .i64 x_45), (.int .i64 x_46), (.int .i64 x_47), x_48] okCell) (
  onM (AW.putCells w_49 b_7 0 [(.int .i64 x_45), (.int .i64 x_46), (.int .i64 x_47), x_48]) fun w_50 =>
  ∃ res_51 : AV, ∃ res_52 : Int, ldN 2 w_50 b_5 0 = some (.agg [res_51, (.int .i64 res_52)]) ∧
  ∃ res_53 : Int, ∃ res_54 : Int, ∃ res_55 : Int, ∃ res_56 : AV, ldN 4 w_50 b_7 0 = some (.agg [(.int .i64 res_53), (.int .i64 res_54), (.int .i64 res_55), res_56]) ∧
  K (.tup [(.agg [res_51, (.int .i64 res_52)]), (.agg [(.int .i64 res_53), (.int .i64 res_54), (.int .i64 res_55), res_56]), (.int .i64 0)]) w_50))))))
def adv27 : Adv := (.sq .lf (.sq .lf (.sq (.sq .lf (.cd (.sq .lf .lf) .lf)) (.sq .lf (.sq .lf (.sq .lf (.sq .lf (.sq .lf .lf))))))))
set_option maxRecDepth 100000 in
theorem eq27 (hk : Hook) (n_0 : AV) (n_1 : Int) (number_2 : Int) (w : AW) (K : AV → AW → Prop) : fnS Try.prog hk Try.f27 adv27 [(.agg [n_0, (.int .i64 n_1)]), (.int .i64 number_2)] w K = F27 hk n_0 n_1 number_2 w K := by kernel_rfl
theorem in27 {hk : Hook} {n_0 : AV} {n_1 : Int} {number_2 : Int} {w : AW} {K : AV → AW → Prop} (hn : hk 27 [(.agg [n_0, (.int .i64 n_1)]), (.int .i64 number_2)] w = none) (h : F27 hk n_0 n_1 number_2 w K) : Cl Try.prog hk 27 [(.agg [n_0, (.int .i64 n_1)]), (.int .i64 number_2)] w K :=
  fnS_ok Try.func27 hn (by rw [eq27]; exact h)

/-- conduit/conduitlow.SamePackets -/
def F28 (hk : Hook) (a_0 : AV) (b_1 : AV) (w : AW) (K : AV → AW → Prop) : Prop :=
  ∃ x_2 : Int, lenS a_0 = some (.int .i64 x_2) ∧
  ∃ x_3 : Int, lenS b_1 = some (.int .i64 x_3) ∧
  ifT (!decide (x_2 = x_3)) (K (.bool false) w)
  (loopP [(.int .i64 0)] w fun R_4 l_5 w_6 => ∃ i_7 : Int, l_5 = [(.int .i64 i_7)] ∧ ∀ _ : Nat → AV,
   ∃ x_8 : Int, lenS a_0 = some (.int .i64 x_8) ∧
   ifT (decide (i_7 < x_8)) (atP (idxS 4 a_0 (.int .i64 i_7)) fun b_9 o_10 =>
   ∃ x_11 : Int, ld w_6 b_9 (o_10 + 0) = some (.int .i64 x_11) ∧
   atP (idxS 4 b_1 (.int .i64 i_7)) fun b_12 o_13 =>
   ∃ x_14 : Int, ld w_6 b_12 (o_13 + 0) = some (.int .i64 x_14) ∧
   ifT (!decide (x_11 = x_14)) (K (.bool false) w_6)
   (atP (idxS 4 a_0 (.int .i64 i_7)) fun b_15 o_16 =>
   ∃ x_17 : Int, ld w_6 b_15 (o_16 + 1) = some (.int .i64 x_17) ∧
   atP (idxS 4 b_1 (.int .i64 i_7)) fun b_18 o_19 =>
   ∃ x_20 : Int, ld w_6 b_18 (o_19 + 1) = some (.int .i64 x_20) ∧
   ifT (!decide (x_17 = x_20)) (K (.bool false) w_6)
   (atP (idxS 4 a_0 (.int .i64 i_7)) fun b_21 o_22 =>
   ∃ x_23 : Int, ld w_6 b_21 (o_22 + 2) = some (.int .i64 x_23) ∧
   atP (idxS 4 b_1 (.int .i64 i_7)) fun b_24 o_25 =>
   ∃ x_26 : Int, ld w_6 b_24 (o_25 + 2) = some (.int .i64 x_26) ∧
   ifT (!decide (x_23 = x_26)) (K (.bool false) w_6)
   (atP (idxS 4 a_0 (.int .i64 i_7)) fun b_27 o_28 =>
   onM (ld w_6 b_27 (o_28 + 3)) fun x_29 =>
   atP (idxS 4 b_1 (.int .i64 i_7)) fun b_30 o_31 =>
   onM (ld w_6 b_30 (o_31 + 3)) fun x_32 =>
   Cl Try.prog hk 17 [x_29, x_32] w_6 fun r_33 w_34 =>
   ∃ x_35 : Bool, r_33 = (.bool x_35) ∧
   ifT (!x_35) (K (.bool false) w_34)
   (R_4 [(.int .i64 (wi (i_7 + 1)))] w_34)))))
   (K (.bool true) w_6))
def adv28 : Adv := (.sq .lf (.sq (.sq .lf (.cd (.sq .lf .lf) .lf)) (.sq (.sq .lf (.bl (.lp [(5, .sc (.int .i64))] (.sq (.sq .lf (.cd .lf .lf)) (.sq (.bl (.sq .lf (.cd (.sq .lf .lf) .lf))) .lf))))) (.sq .lf .lf))))
set_option maxRecDepth 100000 in
theorem eq28 (hk : Hook) (a_0 : AV) (b_1 : AV) (w : AW) (K : AV → AW → Prop) : fnS Try.prog hk Try.f28 adv28 [a_0, b_1] w K = F28 hk a_0 b_1 w K := by kernel_rfl
theorem in28 {hk : Hook} {a_0 : AV} {b_1 : AV} {w : AW} {K : AV → AW → Prop} (hn : hk 28 [a_0, b_1] w = none) (h : F28 hk a_0 b_1 w K) : Cl Try.prog hk 28 [a_0, b_1] w K :=
  fnS_ok Try.func28 hn (by rw [eq28]; exact h)

/-- (conduit/conduitref12.Net).Double -/
def F29 (hk : Hook) (n_0 : AV) (n_1 : Int) (number_2 : Int) (w : AW) (K : AV → AW → Prop) : Prop :=
  gd (List.all [n_0, (.int .i64 n_1)] okCell) (
  new w [n_0, (.int .i64 n_1)] fun b_3 w_4 =>
  new w_4 [.nilslice, (.int .i64 0)] fun b_5 w_6 =>
  ∃ x_7 : AV, ∃ x_8 : Int, ldN 2 w_6 b_3 0 = some (.agg [x_7, (.int .i64 x_8)]) ∧
  Cl Try.prog hk 40 [(.agg [x_7, (.int .i64 x_8)]), (.int .i64 number_2)] w_6 fun r_9 w_10 =>
  ∃ i_11 : Int, r_9 = (.int .i64 i_11) ∧
  ifT (decide (i_11 < 0)) (∃ x_12 : AV, ∃ x_13 : Int, ldN 2 w_10 b_3 0 = some (.agg [x_12, (.int .i64 x_13)]) ∧
   gd (List.all [x_12, (.int .i64 x_13)] okCell) (
   onM (AW.putCells w_10 b_5 0 [x_12, (.int .i64 x_13)]) fun w_14 =>
   ∃ res_15 : AV, ∃ res_16 : Int, ldN 2 w_14 b_5 0 = some (.agg [res_15, (.int .i64 res_16)]) ∧
  K (.tup [(.agg [res_15, (.int .i64 res_16)]), (.int .i64 0), (.int .i64 100)]) w_14))
  (∃ x_17 : AV, ∃ x_18 : Int, ldN 2 w_10 b_3 0 = some (.agg [x_17, (.int .i64 x_18)]) ∧
  onM (ld w_10 b_3 (0 + 0)) fun x_19 =>
  atP (idxS 4 x_19 (.int .i64 i_11)) fun b_20 o_21 =>
  ∃ x_22 : Int, ∃ x_23 : Int, ∃ x_24 : Int, ∃ x_25 : AV, ldN 4 w_10 b_20 o_21 = some (.agg [(.int .i64 x_22), (.int .i64 x_23), (.int .i64 x_24), x_25]) ∧
  Cl Try.prog hk 39 [(.agg [x_17, (.int .i64 x_18)]), (.agg [(.int .i64 x_22), (.int .i64 x_23), (.int .i64 x_24), x_25])] w_10 fun r_26 w_27 =>
  ∃ x_28 : AV, ∃ x_29 : Int, ∃ x_30 : Int, ∃ x_31 : Int, r_26 = .tup [(.agg [x_28, (.int .i64 x_29)]), (.int .i64 x_30), (.int .i64 x_31)] ∧
  gd (List.all [x_28, (.int .i64 x_29)] okCell) (
  onM (AW.putCells w_27 b_5 0 [x_28, (.int .i64 x_29)]) fun w_32 =>
  ∃ res_33 : AV, ∃ res_34 : Int, ldN 2 w_32 b_5 0 = some (.agg [res_33, (.int .i64 res_34)]) ∧
  K (.tup [(.agg [res_33, (.int .i64 res_34)]), (.int .i64 x_30), (.int .i64 x_31)]) w_32)))
def adv29 : Adv := (.sq .lf (.sq .lf (.sq (.sq .lf (.cd (.sq .lf .lf) .lf)) (.sq .lf .lf))))
set_option maxRecDepth 100000 in
theorem eq29 (hk : Hook) (n_0 : AV) (n_1 : Int) (number_2 : Int) (w : AW) (K : AV → AW → Prop) : fnS Try.prog hk Try.f29 adv29 [(.agg [n_0, (.int .i64 n_1)]), (.int .i64 number_2)] w K = F29 hk n_0 n_1 number_2 w K := by kernel_rfl
theorem in29 {hk : Hook} {n_0 : AV} {n_1 : Int} {number_2 : Int} {w : AW} {K : AV → AW → Prop} (hn : hk 29 [(.agg [n_0, (.int .i64 n_1)]), (.int .i64 number_2)] w = none) (h : F29 hk n_0 n_1 number_2 w K) : Cl Try.prog hk 29 [(.agg [n_0, (.int .i64 n_1)]), (.int .i64 number_2)] w K :=
  fnS_ok Try.func29 hn (by rw [eq29]; exact h)

/-- (*conduit/net.Net).Copy -/
def F30 (hk : Hook) (n_0 : AV) (w : AW) (K : AV → AW → Prop) : Prop :=
  Cl Try.prog hk 31 [n_0] w fun r_1 w_2 =>
  ∃ x_3 : Bool, r_1 = (.bool x_3) ∧
  ifT x_3 (K .nilptr w_2)
  (onP n_0 fun b_4 o_5 =>
  onM (ld w_2 b_4 (o_5 + 0)) fun x_6 =>
  onP n_0 fun b_7 o_8 =>
  ∃ x_9 : Int, ld w_2 b_7 (o_8 + 1) = some (.int .i64 x_9) ∧
  Cl Try.prog hk 41 [x_6] w_2 fun r_10 w_11 =>
  gd (okCell r_10) (
  gd (List.all [r_10, (.int .i64 x_9)] okCell) (
  new w_11 [r_10, (.int .i64 x_9)] fun b_12 w_13 =>
  ld w_13 b_7 (o_8 + 1) = some (.int .i64 x_9) ∧
  K (.ptr b_12 0) w_13)))
def adv30 : Adv := (.sq .lf (.sq (.sq .lf (.cd (.sq .lf .lf) .lf)) (.sq .lf .lf)))
set_option maxRecDepth 100000 in
theorem eq30 (hk : Hook) (n_0 : AV) (w : AW) (K : AV → AW → Prop) : fnS Try.prog hk Try.f30 adv30 [n_0] w K = F30 hk n_0 w K := by kernel_rfl
theorem in30 {hk : Hook} {n_0 : AV} {w : AW} {K : AV → AW → Prop} (hn : hk 30 [n_0] w = none) (h : F30 hk n_0 w K) : Cl Try.prog hk 30 [n_0] w K :=
  fnS_ok Try.func30 hn (by rw [eq30]; exact h)

/-- (*conduit/net.Net).none -/
def F31 (hk : Hook) (n_0 : AV) (w : AW) (K : AV → AW → Prop) : Prop :=
  ∃ x_1 : Bool, binOpA Try.prog .eql 22 true n_0 .nilptr = some (.bool x_1) ∧
  ifT x_1 (K (.bool true) w)
  (onP n_0 fun b_2 o_3 =>
  onM (ld w b_2 (o_3 + 0)) fun x_4 =>
  ∃ x_5 : Bool, binOpA Try.prog .eql 65 true x_4 .nilmap = some (.bool x_5) ∧
  K (.bool x_5) w)
def adv31 : Adv := (.sq .lf (.sq .lf .lf))
set_option maxRecDepth 100000 in
theorem eq31 (hk : Hook) (n_0 : AV) (w : AW) (K : AV → AW → Prop) : fnS Try.prog hk Try.f31 adv31 [n_0] w K = F31 hk n_0 w K := by kernel_rfl
theorem in31 {hk : Hook} {n_0 : AV} {w : AW} {K : AV → AW → Prop} (hn : hk 31 [n_0] w = none) (h : F31 hk n_0 w K) : Cl Try.prog hk 31 [n_0] w K :=
  fnS_ok Try.func31 hn (by rw [eq31]; exact h)

/-- (*conduit/net.Net).put -/
def F32 (hk : Hook) (n_0 : AV) (p_1 : Int) (p_2 : Int) (p_3 : Int) (p_4 : AV) (w : AW) (K : AV → AW → Prop) : Prop :=
  gd (List.all [(.int .i64 p_1), (.int .i64 p_2), (.int .i64 p_3), p_4] okCell) (
  new w [(.int .i64 p_1), (.int .i64 p_2), (.int .i64 p_3), p_4] fun b_5 w_6 =>
  onP n_0 fun b_7 o_8 =>
  onM (ld w_6 b_7 (o_8 + 0)) fun x_9 =>
  ∃ x_10 : Int, lenM w_6 x_9 = some (.int .i64 x_10) ∧
  ifT (decide (256 ≤ x_10)) (K (.tup [(.int .i64 0), (.int .i64 5)]) w_6)
  (onP n_0 fun b_11 o_12 =>
  ∃ x_13 : Int, ld w_6 b_11 (o_12 + 1) = some (.int .i64 x_13) ∧
  onP n_0 fun b_14 o_15 =>
  onM (AW.putCells w_6 b_14 (o_15 + 1) [(.int .i64 (wi (x_13 + 1)))]) fun w_16 =>
  onP n_0 fun b_17 o_18 =>
  ∃ x_19 : Int, ld w_16 b_17 (o_18 + 1) = some (.int .i64 x_19) ∧
  onM (ld w_16 b_5 (0 + 3)) fun x_20 =>
  Cl Try.prog hk 34 [x_20] w_16 fun r_21 w_22 =>
  ld w_22 b_17 (o_18 + 1) = some (.int .i64 x_19) ∧
  onM (AW.putCells w_22 b_5 (0 + 0) [(.int .i64 x_19)]) fun w_23 =>
  gd (okCell r_21) (
  onM (AW.putCells w_23 b_5 (0 + 3) [r_21]) fun w_24 =>
  onP n_0 fun b_25 o_26 =>
  onM (ld w_24 b_25 (o_26 + 0)) fun x_27 =>
  onP n_0 fun b_28 o_29 =>
  ∃ x_30 : Int, ld w_24 b_28 (o_29 + 1) = some (.int .i64 x_30) ∧
  ∃ x_31 : Int, ∃ x_32 : Int, ∃ x_33 : Int, ∃ x_34 : AV, ldN 4 w_24 b_5 0 = some (.agg [(.int .i64 x_31), (.int .i64 x_32), (.int .i64 x_33), x_34]) ∧
  onE (kvSet w_24 x_27 (.int .i64 x_30) (.agg [(.int .i64 x_31), (.int .i64 x_32), (.int .i64 x_33), x_34])) fun r_35 w_36 =>
  onP n_0 fun b_37 o_38 =>
  ∃ x_39 : Int, ld w_36 b_37 (o_38 + 1) = some (.int .i64 x_39) ∧
  K (.tup [(.int .i64 x_39), (.int .i64 0)]) w_36)))
def adv32 : Adv := (.sq .lf (.sq (.sq .lf (.cd (.sq .lf .lf) .lf)) (.sq .lf (.sq .lf (.sq .lf (.sq .lf .lf))))))
set_option maxRecDepth 100000 in
theorem eq32 (hk : Hook) (n_0 : AV) (p_1 : Int) (p_2 : Int) (p_3 : Int) (p_4 : AV) (w : AW) (K : AV → AW → Prop) : fnS Try.prog hk Try.f32 adv32 [n_0, (.agg [(.int .i64 p_1), (.int .i64 p_2), (.int .i64 p_3), p_4])] w K = F32 hk n_0 p_1 p_2 p_3 p_4 w K := by kernel_rfl
theorem in32 {hk : Hook} {n_0 : AV} {p_1 : Int} {p_2 : Int} {p_3 : Int} {p_4 : AV} {w : AW} {K : AV → AW → Prop} (hn : hk 32 [n_0, (.agg [(.int .i64 p_1), (.int .i64 p_2), (.int .i64 p_3), p_4])] w = none) (h : F32 hk n_0 p_1 p_2 p_3 p_4 w K) : Cl Try.prog hk 32 [n_0, (.agg [(.int .i64 p_1), (.int .i64 p_2), (.int .i64 p_3), p_4])] w K :=
  fnS_ok Try.func32 hn (by rw [eq32]; exact h)

/-- (*conduit/net.Net).find -/
def F33 (hk : Hook) (n_0 : AV) (number_1 : Int) (w : AW) (K : AV → AW → Prop) : Prop :=
  new w [(.int .i64 0), (.int .i64 0), (.int .i64 0), .nilslice] fun b_2 w_3 =>
  Cl Try.prog hk 31 [n_0] w_3 fun r_4 w_5 =>
  ∃ x_6 : Bool, r_4 = (.bool x_6) ∧
  ifT x_6 (onM (AW.putCells w_5 b_2 0 [(.int .i64 0), (.int .i64 0), (.int .i64 0), .nilslice]) fun w_7 =>
   ∃ res_8 : Int, ∃ res_9 : Int, ∃ res_10 : Int, ∃ res_11 : AV, ldN 4 w_7 b_2 0 = some (.agg [(.int .i64 res_8), (.int .i64 res_9), (.int .i64 res_10), res_11]) ∧
  K (.tup [(.agg [(.int .i64 res_8), (.int .i64 res_9), (.int .i64 res_10), res_11]), (.int .i64 1)]) w_7)
  (onP n_0 fun b_12 o_13 =>
  onM (ld w_5 b_12 (o_13 + 0)) fun x_14 =>
  ∃ x_15 : Int, ∃ x_16 : Int, ∃ x_17 : Int, ∃ x_18 : AV, ∃ x_19 : Bool, lookS (.agg [(.int .i64 0), (.int .i64 0), (.int .i64 0), .nilslice]) true w_5 x_14 (.int .i64 number_1) = some (.tup [(.agg [(.int .i64 x_15), (.int .i64 x_16), (.int .i64 x_17), x_18]), (.bool x_19)]) ∧
  new w_5 [(.int .i64 0), (.int .i64 0), (.int .i64 0), .nilslice] fun b_20 w_21 =>
  gd (List.all [(.int .i64 x_15), (.int .i64 x_16), (.int .i64 x_17), x_18] okCell) (
  onM (AW.putCells w_21 b_20 0 [(.int .i64 x_15), (.int .i64 x_16), (.int .i64 x_17), x_18]) fun w_22 =>
  ifT (!x_19) (onM (AW.putCells w_22 b_2 0 [(.int .i64 0), (.int .i64 0), (.int .i64 0), .nilslice]) fun w_23 =>
   ∃ res_24 : Int, ∃ res_25 : Int, ∃ res_26 : Int, ∃ res_27 : AV, ldN 4 w_23 b_2 0 = some (.agg [(.int .i64 res_24), (.int .i64 res_25), (.int .i64 res_26), res_27]) ∧
  K (.tup [(.agg [(.int .i64 res_24), (.int .i64 res_25), (.int .i64 res_26), res_27]), (.int .i64 100)]) w_23)
  (∃ x_28 : Int, ∃ x_29 : Int, ∃ x_30 : Int, ∃ x_31 : AV, ldN 4 w_22 b_20 0 = some (.agg [(.int .i64 x_28), (.int .i64 x_29), (.int .i64 x_30), x_31]) ∧
  gd (List.all [(.int .i64 x_28), (.int .i64 x_29), (.int .i64 x_30), x_31] okCell) (
  onM (AW.putCells w_22 b_2 0 [(.int .i64 x_28), (.int .i64 x_29), (.int .i64 x_30), x_31]) fun w_32 =>
  ∃ res_33 : Int, ∃ res_34 : Int, ∃ res_35 : Int, ∃ res_36 : AV, ldN 4 w_32 b_2 0 = some (.agg [(.int .i64 res_33), (.int .i64 res_34), (.int .i64 res_35), res_36]) ∧
  K (.tup [(.agg [(.int .i64 res_33), (.int .i64 res_34), (.int .i64 res_35), res_36]), (.int .i64 0)]) w_32))))
def adv33 : Adv := (.sq .lf (.sq (.sq .lf (.cd (.sq .lf .lf) .lf)) (.sq .lf (.sq (.sq .lf (.cd (.sq .lf .lf) .lf)) (.sq .lf .lf)))))
set_option maxRecDepth 100000 in
theorem eq33 (hk : Hook) (n_0 : AV) (number_1 : Int) (w : AW) (K : AV → AW → Prop) : fnS Try.prog hk Try.f33 adv33 [n_0, (.int .i64 number_1)] w K = F33 hk n_0 number_1 w K := by kernel_rfl
theorem in33 {hk : Hook} {n_0 : AV} {number_1 : Int} {w : AW} {K : AV → AW → Prop} (hn : hk 33 [n_0, (.int .i64 number_1)] w = none) (h : F33 hk n_0 number_1 w K) : Cl Try.prog hk 33 [n_0, (.int .i64 number_1)] w K :=
  fnS_ok Try.func33 hn (by rw [eq33]; exact h)

/-- slices.Clone[[]byte,byte] -/
def F34 (hk : Hook) (s_0 : AV) (w : AW) (K : AV → AW → Prop) : Prop :=
  ∃ x_1 : Bool, binOpA Try.prog .eql 27 true s_0 .nilslice = some (.bool x_1) ∧
  ifT x_1 (K .nilslice w)
  (new w [] fun b_2 w_3 =>
  onE (appS 1 1 w_3 (.slice b_2 0 0 0 none) s_0) fun x_4 w_5 =>
  K x_4 w_5)
def adv34 : Adv := (.sq .lf (.sq (.sq .lf (.cd (.sq .lf .lf) .lf)) (.sq .lf .lf)))
set_option maxRecDepth 100000 in
theorem eq34 (hk : Hook) (s_0 : AV) (w : AW) (K : AV → AW → Prop) : fnS Try.prog hk Try.f34 adv34 [s_0] w K = F34 hk s_0 w K := by kernel_rfl
theorem in34 {hk : Hook} {s_0 : AV} {w : AW} {K : AV → AW → Prop} (hn : hk 34 [s_0] w = none) (h : F34 hk s_0 w K) : Cl Try.prog hk 34 [s_0] w K :=
  fnS_ok Try.func34 hn (by rw [eq34]; exact h)

/-- conduit/conduitlow.Made -/
def F37 (hk : Hook) (seed_0 : Int) (n_1 : Int) (w : AW) (K : AV → AW → Prop) : Prop :=
  onM (asN (.int .i64 n_1)) fun n_2 =>
  onM (asN (.int .i64 n_1)) fun n_3 =>
  gd (Nat.ble n_2 n_3 && Nat.ble (n_3 * 1) (2 ^ 47) && Nat.blt n_3 (2 ^ 63) && true) (new w (repl n_3 [(.int .u8 0)]) fun b_4 w_5 =>
  be (IntKind.wrap .u64 ((IntKind.wrap .u64 seed_0) * 2862933555777941757)) fun x_6 =>
  be (IntKind.wrap .u64 (x_6 + 3037000493)) fun x_7 =>
  loopP [(.int .u64 x_7), (.int .i64 0)] w_5 fun R_8 l_9 w_10 => ∃ x_11 : Int, ∃ i_12 : Int, l_9 = [(.int .u64 x_11), (.int .i64 i_12)] ∧ ∀ _ : Nat → AV,
   ifT (decide (i_12 < n_1)) (join (fun l_13 w_14 => ∃ x_16 : Int, l_13 = [(.int .u64 x_16)] ∧ ∀ _ : Nat → AV,
    be (IntKind.wrap .u8 (shrI .u64 x_16 40)) fun x_17 =>
    atP (idxS 1 (.slice b_4 0 n_2 n_3 none) (.int .i64 i_12)) fun b_18 o_19 =>
    onM (AW.putCells w_14 b_18 o_19 [(.int .u8 x_17)]) fun w_20 =>
    R_8 [(.int .u64 x_16), (.int .i64 (wi (i_12 + 1)))] w_20) fun J_15 =>
   ifT (decide ((Int.tmod i_12 8) = 0)) (be (IntKind.wrap .u64 (x_11 * 2862933555777941757)) fun x_21 =>
    be (IntKind.wrap .u64 (x_21 + 3037000493)) fun x_22 =>
    J_15 [(.int .u64 x_22)] w_10)
   (J_15 [(.int .u64 x_11)] w_10))
   (K (.slice b_4 0 n_2 n_3 none) w_10))
def adv37 : Adv := (.sq .lf (.sq .lf (.sq .lf (.sq (.sq .lf (.bl (.lp [(6, .sc (.int .u64)), (7, .sc (.int .i64))] (.sq (.sq .lf (.cd .lf .lf)) (.sq (.bl (.sj [(6, .sc (.int .u64))] (.sq .lf (.cd .lf .lf)) .lf)) .lf))))) (.sq .lf .lf)))))
set_option maxRecDepth 100000 in
theorem eq37 (hk : Hook) (seed_0 : Int) (n_1 : Int) (w : AW) (K : AV → AW → Prop) : fnS Try.prog hk Try.f37 adv37 [(.int .i64 seed_0), (.int .i64 n_1)] w K = F37 hk seed_0 n_1 w K := by kernel_rfl
theorem in37 {hk : Hook} {seed_0 : Int} {n_1 : Int} {w : AW} {K : AV → AW → Prop} (hn : hk 37 [(.int .i64 seed_0), (.int .i64 n_1)] w = none) (h : F37 hk seed_0 n_1 w K) : Cl Try.prog hk 37 [(.int .i64 seed_0), (.int .i64 n_1)] w K :=
  fnS_ok Try.func37 hn (by rw [eq37]; exact h)

/-- conduit/conduitlow.markByte -/
def F38 (hk : Hook) (k_0 : Int) (i_1 : Int) (w : AW) (K : AV → AW → Prop) : Prop :=
  be (wi (1000003 * (wi (k_0 + 7)))) fun x_2 =>
  be (IntKind.wrap .u64 (wi (x_2 + i_1))) fun x_3 =>
  be (IntKind.wrap .u64 (x_3 * 11400714819323198485)) fun x_4 =>
  be (IntKind.wrap .u8 (shrI .u64 x_4 56)) fun x_5 =>
  K (.int .u8 x_5) w
def adv38 : Adv := (.sq .lf (.sq .lf .lf))
set_option maxRecDepth 100000 in
theorem eq38 (hk : Hook) (k_0 : Int) (i_1 : Int) (w : AW) (K : AV → AW → Prop) : fnS Try.prog hk Try.f38 adv38 [(.int .i64 k_0), (.int .i64 i_1)] w K = F38 hk k_0 i_1 w K := by kernel_rfl
theorem in38 {hk : Hook} {k_0 : Int} {i_1 : Int} {w : AW} {K : AV → AW → Prop} (hn : hk 38 [(.int .i64 k_0), (.int .i64 i_1)] w = none) (h : F38 hk k_0 i_1 w K) : Cl Try.prog hk 38 [(.int .i64 k_0), (.int .i64 i_1)] w K :=
  fnS_ok Try.func38 hn (by rw [eq38]; exact h)

/-- (conduit/conduitref12.Net).put -/
def F39 (hk : Hook) (n_0 : AV) (n_1 : Int) (p_2 : Int) (p_3 : Int) (p_4 : Int) (p_5 : AV) (w : AW) (K : AV → AW → Prop) : Prop :=
  gd (List.all [n_0, (.int .i64 n_1)] okCell) (
  new w [n_0, (.int .i64 n_1)] fun b_6 w_7 =>
  gd (List.all [(.int .i64 p_2), (.int .i64 p_3), (.int .i64 p_4), p_5] okCell) (
  new w_7 [(.int .i64 p_2), (.int .i64 p_3), (.int .i64 p_4), p_5] fun b_8 w_9 =>
  new w_9 [.nilslice, (.int .i64 0)] fun b_10 w_11 =>
  onM (ld w_11 b_6 (0 + 0)) fun x_12 =>
  ∃ x_13 : Int, lenS x_12 = some (.int .i64 x_13) ∧
  ifT (decide (256 ≤ x_13)) (∃ x_14 : AV, ∃ x_15 : Int, ldN 2 w_11 b_6 0 = some (.agg [x_14, (.int .i64 x_15)]) ∧
   gd (List.all [x_14, (.int .i64 x_15)] okCell) (
   onM (AW.putCells w_11 b_10 0 [x_14, (.int .i64 x_15)]) fun w_16 =>
   ∃ res_17 : AV, ∃ res_18 : Int, ldN 2 w_16 b_10 0 = some (.agg [res_17, (.int .i64 res_18)]) ∧
  K (.tup [(.agg [res_17, (.int .i64 res_18)]), (.int .i64 0), (.int .i64 5)]) w_16))
  (∃ x_19 : Int, ld w_11 b_6 (0 + 1) = some (.int .i64 x_19) ∧
  onM (AW.putCells w_11 b_6 (0 + 1) [(.int .i64 (wi (x_19 + 1)))]) fun w_20 =>
  ∃ x_21 : Int, ld w_20 b_6 (0 + 1) = some (.int .i64 x_21) ∧
  onM (AW.putCells w_20 b_8 (0 + 0) [(.int .i64 x_21)]) fun w_22 =>
  onM (ld w_22 b_8 (0 + 3)) fun x_23 =>
  Cl Try.prog hk 21 [x_23] w_22 fun r_24 w_25 =>
  gd (okCell r_24) (
  onM (AW.putCells w_25 b_8 (0 + 3) [r_24]) fun w_26 =>
  onM (ld w_26 b_6 (0 + 0)) fun x_27 =>
  onE (appS 4 48 w_26 .nilslice x_27) fun l_28 w_29 =>
  ∃ x_30 : Int, ∃ x_31 : Int, ∃ x_32 : Int, ∃ x_33 : AV, ldN 4 w_29 b_8 0 = some (.agg [(.int .i64 x_30), (.int .i64 x_31), (.int .i64 x_32), x_33]) ∧
  gd (List.all [(.int .i64 x_30), (.int .i64 x_31), (.int .i64 x_32), x_33] okCell) (
  new w_29 [(.int .i64 x_30), (.int .i64 x_31), (.int .i64 x_32), x_33] fun b_34 w_35 =>
  onE (appS 4 48 w_35 l_28 (.slice b_34 0 1 1 none)) fun x_36 w_37 =>
  gd (okCell x_36) (
  onM (AW.putCells w_37 b_6 (0 + 0) [x_36]) fun w_38 =>
  ∃ x_39 : AV, ∃ x_40 : Int, ldN 2 w_38 b_6 0 = some (.agg [x_39, (.int .i64 x_40)]) ∧
  ∃ x_41 : Int, ld w_38 b_6 (0 + 1) = some (.int .i64 x_41) ∧
  gd (List.all [x_39, (.int .i64 x_40)] okCell) (
  onM (AW.putCells w_38 b_10 0 [x_39, (.int .i64 x_40)]) fun w_42 =>
  ld w_42 b_6 (0 + 1) = some (.int .i64 x_41) ∧
  ∃ res_43 : AV, ∃ res_44 : Int, ldN 2 w_42 b_10 0 = some (.agg [res_43, (.int .i64 res_44)]) ∧
  K (.tup [(.agg [res_43, (.int .i64 res_44)]), (.int .i64 x_41), (.int .i64 0)]) w_42)))))))
def adv39 : Adv := (.sq .lf (.sq (.sq .lf (.cd (.sq .lf .lf) .lf)) (.sq .lf (.sq .lf (.sq .lf (.sq .lf (.sq .lf (.sq .lf (.sq .lf .lf)))))))))
set_option maxRecDepth 100000 in
theorem eq39 (hk : Hook) (n_0 : AV) (n_1 : Int) (p_2 : Int) (p_3 : Int) (p_4 : Int) (p_5 : AV) (w : AW) (K : AV → AW → Prop) : fnS Try.prog hk Try.f39 adv39 [(.agg [n_0, (.int .i64 n_1)]), (.agg [(.int .i64 p_2), (.int .i64 p_3), (.int .i64 p_4), p_5])] w K = F39 hk n_0 n_1 p_2 p_3 p_4 p_5 w K := by kernel_rfl
theorem in39 {hk : Hook} {n_0 : AV} {n_1 : Int} {p_2 : Int} {p_3 : Int} {p_4 : Int} {p_5 : AV} {w : AW} {K : AV → AW → Prop} (hn : hk 39 [(.agg [n_0, (.int .i64 n_1)]), (.agg [(.int .i64 p_2), (.int .i64 p_3), (.int .i64 p_4), p_5])] w = none) (h : F39 hk n_0 n_1 p_2 p_3 p_4 p_5 w K) : Cl Try.prog hk 39 [(.agg [n_0, (.int .i64 n_1)]), (.agg [(.int .i64 p_2), (.int .i64 p_3), (.int .i64 p_4), p_5])] w K :=
  fnS_ok Try.func39 hn (by rw [eq39]; exact h)

/-- (conduit/conduitref12.Net).find -/
def F40 (hk : Hook) (n_0 : AV) (n_1 : Int) (number_2 : Int) (w : AW) (K : AV → AW → Prop) : Prop :=
  gd (List.all [n_0, (.int .i64 n_1)] okCell) (
  new w [n_0, (.int .i64 n_1)] fun b_3 w_4 =>
  loopP [(.int .i64 0)] w_4 fun R_5 l_6 w_7 => ∃ i_8 : Int, l_6 = [(.int .i64 i_8)] ∧ ∀ _ : Nat → AV,
   onM (ld w_7 b_3 (0 + 0)) fun x_9 =>
   ∃ x_10 : Int, lenS x_9 = some (.int .i64 x_10) ∧
   ifT (decide (i_8 < x_10)) (onM (ld w_7 b_3 (0 + 0)) fun x_11 =>
   atP (idxS 4 x_11 (.int .i64 i_8)) fun b_12 o_13 =>
   ∃ x_14 : Int, ld w_7 b_12 (o_13 + 0) = some (.int .i64 x_14) ∧
   ifT (decide (x_14 = number_2)) (K (.int .i64 i_8) w_7)
   (R_5 [(.int .i64 (wi (i_8 + 1)))] w_7))
   (K (.int .i64 (-1)) w_7))
def adv40 : Adv := (.sq .lf (.sq (.sq .lf (.bl (.lp [(5, .sc (.int .i64))] (.sq (.sq .lf (.cd .lf .lf)) (.sq (.bl (.sq .lf (.cd (.sq .lf .lf) .lf))) .lf))))) (.sq .lf .lf)))
set_option maxRecDepth 100000 in
theorem eq40 (hk : Hook) (n_0 : AV) (n_1 : Int) (number_2 : Int) (w : AW) (K : AV → AW → Prop) : fnS Try.prog hk Try.f40 adv40 [(.agg [n_0, (.int .i64 n_1)]), (.int .i64 number_2)] w K = F40 hk n_0 n_1 number_2 w K := by kernel_rfl
theorem in40 {hk : Hook} {n_0 : AV} {n_1 : Int} {number_2 : Int} {w : AW} {K : AV → AW → Prop} (hn : hk 40 [(.agg [n_0, (.int .i64 n_1)]), (.int .i64 number_2)] w = none) (h : F40 hk n_0 n_1 number_2 w K) : Cl Try.prog hk 40 [(.agg [n_0, (.int .i64 n_1)]), (.int .i64 number_2)] w K :=
  fnS_ok Try.func40 hn (by rw [eq40]; exact h)

/-- maps.Keys[map[int]conduit/api.Packet,int,conduit/api.Packet] -/
def F36 (hk : Hook) (m_0 : AV) (w : AW) (K : AV → AW → Prop) : Prop :=
  gd (okCell m_0) (
  new w [m_0] fun b_1 w_2 =>
  K (.func 44 [] [(.ptr b_1 0)]) w_2)
def adv36 : Adv := (.sq .lf (.sq .lf .lf))
set_option maxRecDepth 100000 in
theorem eq36 (hk : Hook) (m_0 : AV) (w : AW) (K : AV → AW → Prop) : fnS Try.prog hk Try.f36 adv36 [m_0] w K = F36 hk m_0 w K := by kernel_rfl
theorem in36 {hk : Hook} {m_0 : AV} {w : AW} {K : AV → AW → Prop} (hn : hk 36 [m_0] w = none) (h : F36 hk m_0 w K) : Cl Try.prog hk 36 [m_0] w K :=
  fnS_ok Try.func36 hn (by rw [eq36]; exact h)

/-- maps.Clone[map[int]conduit/api.Packet,int,conduit/api.Packet] -/
def F41 (hk : Hook) (m_0 : AV) (w : AW) (K : AV → AW → Prop) : Prop :=
  ∃ x_1 : Bool, binOpA Try.prog .eql 65 true m_0 .nilmap = some (.bool x_1) ∧
  ifT x_1 (K .nilmap w)
  (Cl Try.prog hk 45 [(.iface 65 m_0)] w fun r_2 w_3 =>
  onM (assertA Try.prog 65 false r_2) fun x_4 =>
  K x_4 w_3)
def adv41 : Adv := (.sq .lf (.sq (.sq .lf (.cd (.sq .lf .lf) .lf)) (.sq .lf .lf)))
set_option maxRecDepth 100000 in
theorem eq41 (hk : Hook) (m_0 : AV) (w : AW) (K : AV → AW → Prop) : fnS Try.prog hk Try.f41 adv41 [m_0] w K = F41 hk m_0 w K := by kernel_rfl
theorem in41 {hk : Hook} {m_0 : AV} {w : AW} {K : AV → AW → Prop} (hn : hk 41 [m_0] w = none) (h : F41 hk m_0 w K) : Cl Try.prog hk 41 [m_0] w K :=
  fnS_ok Try.func41 hn (by rw [eq41]; exact h)

/-- conduit/conduitlaw12.NetNumbers -/
def F3 (hk : Hook)  (w : AW) (K : AV → AW → Prop) : Prop :=
  Cl Try.prog hk 9 [] w fun r_0 w_1 =>
  gd (Nat.ble 65546 65546 && Nat.ble (65546 * 1) (2 ^ 47) && Nat.blt 65546 (2 ^ 63) && true) (new w_1 (repl 65546 [(.int .u8 0)]) fun b_2 w_3 =>
  Cl Try.prog hk 10 [r_0, (.int .i64 0), (.int .i64 0), (.slice b_2 0 65546 65546 none)] w_3 fun r_4 w_5 =>
  ∃ x_6 : Int, ∃ x_7 : Int, r_4 = .tup [(.int .i64 x_6), (.int .i64 x_7)] ∧
  gd (Nat.ble 65545 65545 && Nat.ble (65545 * 1) (2 ^ 47) && Nat.blt 65545 (2 ^ 63) && true) (new w_5 (repl 65545 [(.int .u8 0)]) fun b_8 w_9 =>
  Cl Try.prog hk 10 [r_0, (.int .i64 (-1)), (.int .i64 4611686018427387904), (.slice b_8 0 65545 65545 none)] w_9 fun r_10 w_11 =>
  ∃ x_12 : Int, ∃ x_13 : Int, r_10 = .tup [(.int .i64 x_12), (.int .i64 x_13)] ∧
  loopP [(.int .i64 2)] w_11 fun R_14 l_15 w_16 => ∃ i_17 : Int, l_15 = [(.int .i64 i_17)] ∧ ∀ _ : Nat → AV,
   ifT (decide (i_17 ≤ 256)) (Cl Try.prog hk 10 [r_0, (.int .i64 0), (.int .i64 0), .nilslice] w_16 fun r_18 w_19 =>
   ∃ x_20 : Int, ∃ x_21 : Int, r_18 = .tup [(.int .i64 x_20), (.int .i64 x_21)] ∧
   ifT (!decide (x_20 = i_17)) (K (.bool false) w_19)
   (ifT (!decide (x_21 = 0)) (K (.bool false) w_19)
   (R_14 [(.int .i64 (wi (i_17 + 1)))] w_19)))
   (Cl Try.prog hk 10 [r_0, (.int .i64 0), (.int .i64 0), .nilslice] w_16 fun r_22 w_23 =>
  ∃ x_24 : Int, ∃ x_25 : Int, r_22 = .tup [(.int .i64 x_24), (.int .i64 x_25)] ∧
  gd (Nat.ble 65546 65546 && Nat.ble (65546 * 1) (2 ^ 47) && Nat.blt 65546 (2 ^ 63) && true) (new w_23 (repl 65546 [(.int .u8 0)]) fun b_26 w_27 =>
  Cl Try.prog hk 10 [r_0, (.int .i64 0), (.int .i64 0), (.slice b_26 0 65546 65546 none)] w_27 fun r_28 w_29 =>
  ∃ x_30 : Int, ∃ x_31 : Int, r_28 = .tup [(.int .i64 x_30), (.int .i64 x_31)] ∧
  Cl Try.prog hk 11 [r_0, (.int .i64 1)] w_29 fun r_32 w_33 =>
  ∃ x_34 : Int, ∃ x_35 : Int, r_32 = .tup [(.int .i64 x_34), (.int .i64 x_35)] ∧
  Cl Try.prog hk 11 [r_0, (.int .i64 257)] w_33 fun r_36 w_37 =>
  ∃ x_38 : Int, ∃ x_39 : Int, r_36 = .tup [(.int .i64 x_38), (.int .i64 x_39)] ∧
  Cl Try.prog hk 12 [r_0, (.int .i64 9)] w_37 fun r_40 w_41 =>
  ∃ l_42 : Int, r_40 = (.int .i64 l_42) ∧
  Cl Try.prog hk 11 [r_0, (.int .i64 1)] w_41 fun r_43 w_44 =>
  ∃ x_45 : Int, ∃ x_46 : Int, r_43 = .tup [(.int .i64 x_45), (.int .i64 x_46)] ∧
  Cl Try.prog hk 13 [r_0, (.int .i64 0)] w_44 fun r_47 w_48 =>
  ∃ x_49 : Int, ∃ x_50 : Int, ∃ x_51 : Int, ∃ x_52 : AV, ∃ x_53 : Int, r_47 = .tup [(.agg [(.int .i64 x_49), (.int .i64 x_50), (.int .i64 x_51), x_52]), (.int .i64 x_53)] ∧
  new w_48 [(.int .i64 0), (.int .i64 0), (.int .i64 0), .nilslice] fun b_54 w_55 =>
  gd (List.all [(.int .i64 x_49), (.int .i64 x_50), (.int .i64 x_51), x_52] okCell) (
  onM (AW.putCells w_55 b_54 0 [(.int .i64 x_49), (.int .i64 x_50), (.int .i64 x_51), x_52]) fun w_56 =>
  ifT (decide (x_7 = 3)) (ifT (decide (x_12 = 1)) (ifT (decide (x_13 = 0)) (ifT (decide (x_25 = 5)) (ifT (decide (x_31 = 3)) (ifT (decide (x_35 = 5)) (ifT (decide (x_39 = 100)) (ifT (decide (l_42 = 0)) (ifT (decide (x_45 = 257)) (ifT (decide (x_46 = 0)) (ifT (decide (x_53 = 100)) (Cl Try.prog hk 12 [r_0, (.int .i64 9)] w_56 fun r_57 w_58 =>
  ∃ x_59 : Int, r_57 = (.int .i64 x_59) ∧
  ifT (decide (x_59 = 100)) (Cl Try.prog hk 14 [r_0] w_58 fun r_60 w_61 =>
  ∃ x_62 : Int, lenS r_60 = some (.int .i64 x_62) ∧
  ifT (decide (x_62 = 256)) (Cl Try.prog hk 15 [] w_61 fun r_63 w_64 =>
  ∃ x_65 : Bool, r_63 = (.bool x_65) ∧
  K (.bool x_65) w_64)
  (K (.bool false) w_61))
  (K (.bool false) w_58))
  (K (.bool false) w_56))
  (K (.bool false) w_56))
  (K (.bool false) w_56))
  (K (.bool false) w_56))
  (K (.bool false) w_56))
  (K (.bool false) w_56))
  (K (.bool false) w_56))
  (K (.bool false) w_56))
  (K (.bool false) w_56))
  (K (.bool false) w_56))
  (K (.bool false) w_56))))))
def adv3 : Adv := (.sq .lf (.sq .lf (.sq .lf (.sq .lf (.sq (.sq .lf (.bl (.lp [(6, .sc (.int .i64))] (.sq (.sq .lf (.cd .lf .lf)) (.sq (.bl (.sq .lf (.sq .lf (.cd (.sq .lf .lf) .lf)))) .lf))))) (.sq .lf (.sq .lf (.sq .lf (.sq .lf (.sq .lf (.sq .lf (.sq .lf (.sq .lf .lf)))))))))))))
set_option maxRecDepth 100000 in
theorem eq3 (hk : Hook)  (w : AW) (K : AV → AW → Prop) : fnS Try.prog hk Try.f3 adv3 [] w K = F3 hk  w K := by kernel_rfl
theorem in3 {hk : Hook} {w : AW} {K : AV → AW → Prop} (hn : hk 3 [] w = none) (h : F3 hk  w K) : Cl Try.prog hk 3 [] w K :=
  fnS_ok Try.func3 hn (by rw [eq3]; exact h)

/-- conduit/conduitlaw12.awake -/
def F15 (hk : Hook)  (w : AW) (K : AV → AW → Prop) : Prop :=
  Cl Try.prog hk 9 [] w fun r_0 w_1 =>
  new w_1 [(.int .u8 97)] fun b_2 w_3 =>
  onM (convA Try.prog w_3 27 27 (.slice b_2 0 1 1 none)) fun x_4 =>
  Cl Try.prog hk 10 [r_0, (.int .i64 1), (.int .i64 2), x_4] w_3 fun r_5 w_6 =>
  ∃ x_7 : Int, ∃ x_8 : Int, r_5 = .tup [(.int .i64 x_7), (.int .i64 x_8)] ∧
  new w_6 [(.int .u8 98)] fun b_9 w_10 =>
  onM (convA Try.prog w_10 27 27 (.slice b_9 0 1 1 none)) fun x_11 =>
  Cl Try.prog hk 10 [r_0, (.int .i64 2), (.int .i64 1), x_11] w_10 fun r_12 w_13 =>
  ∃ x_14 : Int, ∃ x_15 : Int, r_12 = .tup [(.int .i64 x_14), (.int .i64 x_15)] ∧
  Cl Try.prog hk 11 [r_0, (.int .i64 1)] w_13 fun r_16 w_17 =>
  ∃ x_18 : Int, ∃ x_19 : Int, r_16 = .tup [(.int .i64 x_18), (.int .i64 x_19)] ∧
  Cl Try.prog hk 13 [r_0, (.int .i64 3)] w_17 fun r_20 w_21 =>
  ∃ x_22 : Int, ∃ x_23 : Int, ∃ x_24 : Int, ∃ x_25 : AV, ∃ x_26 : Int, r_20 = .tup [(.agg [(.int .i64 x_22), (.int .i64 x_23), (.int .i64 x_24), x_25]), (.int .i64 x_26)] ∧
  new w_21 [(.int .i64 0), (.int .i64 0), (.int .i64 0), .nilslice] fun b_27 w_28 =>
  gd (List.all [(.int .i64 x_22), (.int .i64 x_23), (.int .i64 x_24), x_25] okCell) (
  onM (AW.putCells w_28 b_27 0 [(.int .i64 x_22), (.int .i64 x_23), (.int .i64 x_24), x_25]) fun w_29 =>
  Cl Try.prog hk 13 [r_0, (.int .i64 3)] w_29 fun r_30 w_31 =>
  ∃ x_32 : Int, ∃ x_33 : Int, ∃ x_34 : Int, ∃ x_35 : AV, ∃ x_36 : Int, r_30 = .tup [(.agg [(.int .i64 x_32), (.int .i64 x_33), (.int .i64 x_34), x_35]), (.int .i64 x_36)] ∧
  new w_31 [(.int .i64 0), (.int .i64 0), (.int .i64 0), .nilslice] fun b_37 w_38 =>
  gd (List.all [(.int .i64 x_32), (.int .i64 x_33), (.int .i64 x_34), x_35] okCell) (
  onM (AW.putCells w_38 b_37 0 [(.int .i64 x_32), (.int .i64 x_33), (.int .i64 x_34), x_35]) fun w_39 =>
  Cl Try.prog hk 12 [r_0, (.int .i64 1)] w_39 fun r_40 w_41 =>
  ∃ i_42 : Int, r_40 = (.int .i64 i_42) ∧
  Cl Try.prog hk 14 [r_0] w_41 fun r_43 w_44 =>
  be (wi ((wi (x_8 + x_15)) + x_19)) fun x_45 =>
  be (wi ((wi (x_45 + x_26)) + i_42)) fun x_46 =>
  ifT (decide (x_46 = 0)) (ifT (decide (x_7 = 1)) (ifT (decide (x_14 = 2)) (ifT (decide (x_18 = 3)) (∃ x_47 : Int, ld w_44 b_27 (0 + 0) = some (.int .i64 x_47) ∧
  ifT (decide (x_47 = 3)) (∃ x_48 : Int, ld w_44 b_27 (0 + 1) = some (.int .i64 x_48) ∧
  ifT (decide (x_48 = 1)) (∃ x_49 : Int, ld w_44 b_27 (0 + 2) = some (.int .i64 x_49) ∧
  ifT (decide (x_49 = 2)) (onM (ld w_44 b_27 (0 + 3)) fun x_50 =>
  ∃ x_51 : List UInt8, b2s w_44 x_50 = some (.str x_51) ∧
  ifT (x_51 == [97]) (ifT (decide (x_36 = 100)) (∃ x_52 : Int, lenS r_43 = some (.int .i64 x_52) ∧
  ifT (decide (x_52 = 1)) (atP (idxS 4 r_43 (.int .i64 0)) fun b_53 o_54 =>
  ∃ x_55 : Int, ld w_44 b_53 (o_54 + 0) = some (.int .i64 x_55) ∧
  K (.bool (decide (x_55 = 2))) w_44)
  (K (.bool false) w_44))
  (K (.bool false) w_44))
  (K (.bool false) w_44))
  (K (.bool false) w_44))
  (K (.bool false) w_44))
  (K (.bool false) w_44))
  (K (.bool false) w_44))
  (K (.bool false) w_44))
  (K (.bool false) w_44))
  (K (.bool false) w_44)))
def adv15 : Adv := (.sq .lf (.sq .lf (.sq .lf (.sq .lf (.sq .lf (.sq .lf (.sq .lf (.sq .lf (.sq .lf (.sq .lf .lf))))))))))
set_option maxRecDepth 100000 in
theorem eq15 (hk : Hook)  (w : AW) (K : AV → AW → Prop) : fnS Try.prog hk Try.f15 adv15 [] w K = F15 hk  w K := by kernel_rfl
theorem in15 {hk : Hook} {w : AW} {K : AV → AW → Prop} (hn : hk 15 [] w = none) (h : F15 hk  w K) : Cl Try.prog hk 15 [] w K :=
  fnS_ok Try.func15 hn (by rw [eq15]; exact h)

