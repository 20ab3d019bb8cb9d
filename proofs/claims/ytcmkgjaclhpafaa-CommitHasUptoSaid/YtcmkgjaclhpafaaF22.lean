/-
  What the functions of this chapter do.
  No condition beyond those that each theorem names.
-/
import Derived.Test.YtcmkgjaclhpafaaSxn
import Derived.Test.YtcmkgjaclhpafaaProg
import Derived.KernelRfl
open Go.Sx
set_option linter.unusedVariables false
namespace Go.Proofs.Ytcmkgjaclhpafaa
/-- conduit/conduitlaw22.CommitTells -/
def F4 (hk : Hook) (now_0 : Int) (term_1 : Int) (base_2 : Int) (baseTerm_3 : Int) (l_4 : AV) (match_5 : AV) (w : AW) (K : AV → AW → Prop) : Prop :=
  ∃ x_6 : Int, lenS l_4 = some (.int .i64 x_6) ∧
  ifT (decide (200 < x_6)) (Cl Try.prog hk 10 [] w fun r_7 w_8 =>
  ∃ x_9 : Bool, r_7 = (.bool x_9) ∧
  K (.bool x_9) w_8)
  (∃ x_10 : Int, lenS match_5 = some (.int .i64 x_10) ∧
  ifT (decide (50 < x_10)) (Cl Try.prog hk 10 [] w fun r_11 w_12 =>
   ∃ x_13 : Bool, r_11 = (.bool x_13) ∧
   K (.bool x_13) w_12)
  (Cl Try.prog hk 11 [(.int .i64 base_2), (.int .i64 1099511627776)] w fun r_14 w_15 =>
  ∃ base_16 : Int, r_14 = (.int .i64 base_16) ∧
  Cl Try.prog hk 12 [match_5] w_15 fun r_17 w_18 =>
  Cl Try.prog hk 7 [r_17] w_18 fun r_19 w_20 =>
  ∃ x_21 : Int, r_19 = (.int .i64 x_21) ∧
  Cl Try.prog hk 13 [match_5] w_20 fun r_22 w_23 =>
  ∃ x_24 : Int, r_22 = (.int .i64 x_24) ∧
  ifT (decide (x_21 = x_24)) (Cl Try.prog hk 8 [(.int .i64 now_0), (.int .i64 term_1), (.int .i64 base_16), (.int .i64 baseTerm_3), l_4, r_17] w_23 fun r_25 w_26 =>
  ∃ x_27 : Int, r_25 = (.int .i64 x_27) ∧
  Cl Try.prog hk 14 [(.int .i64 now_0), (.int .i64 term_1), (.int .i64 base_16), (.int .i64 baseTerm_3), l_4, match_5] w_26 fun r_28 w_29 =>
  ∃ x_30 : Int, r_28 = (.int .i64 x_30) ∧
  ifT (decide (x_27 = x_30)) (Cl Try.prog hk 15 [r_17, match_5] w_29 fun r_31 w_32 =>
  ∃ x_33 : Bool, r_31 = (.bool x_33) ∧
  ifT x_33 (Cl Try.prog hk 10 [] w_32 fun r_34 w_35 =>
  ∃ x_36 : Bool, r_34 = (.bool x_36) ∧
  K (.bool x_36) w_35)
  (K (.bool false) w_32))
  (K (.bool false) w_29))
  (K (.bool false) w_23)))
def adv4 : Adv := (.sq .lf (.sq (.sq .lf (.cd (.sq .lf .lf) .lf)) (.sq .lf (.sq .lf (.sq .lf .lf)))))
set_option maxRecDepth 100000 in
theorem eq4 (hk : Hook) (now_0 : Int) (term_1 : Int) (base_2 : Int) (baseTerm_3 : Int) (l_4 : AV) (match_5 : AV) (w : AW) (K : AV → AW → Prop) : fnS Try.prog hk Try.f4 adv4 [(.int .i64 now_0), (.int .i64 term_1), (.int .i64 base_2), (.int .i64 baseTerm_3), l_4, match_5] w K = F4 hk now_0 term_1 base_2 baseTerm_3 l_4 match_5 w K := by kernel_rfl
theorem in4 {hk : Hook} {now_0 : Int} {term_1 : Int} {base_2 : Int} {baseTerm_3 : Int} {l_4 : AV} {match_5 : AV} {w : AW} {K : AV → AW → Prop} (hn : hk 4 [(.int .i64 now_0), (.int .i64 term_1), (.int .i64 base_2), (.int .i64 baseTerm_3), l_4, match_5] w = none) (h : F4 hk now_0 term_1 base_2 baseTerm_3 l_4 match_5 w K) : Cl Try.prog hk 4 [(.int .i64 now_0), (.int .i64 term_1), (.int .i64 base_2), (.int .i64 baseTerm_3), l_4, match_5] w K :=
  fnS_ok Try.func4 hn (by rw [eq4]; exact h)

/-- conduit/conduitlaw22.CommitHas -/
def F5 (hk : Hook) (now_0 : Int) (steps_1 : AV) (term_2 : Int) (match_3 : AV) (turn_4 : Int) (w : AW) (K : AV → AW → Prop) : Prop :=
  ∃ x_5 : Int, lenS match_3 = some (.int .i64 x_5) ∧
  ifT (decide (x_5 = 0)) (Cl Try.prog hk 10 [] w fun r_6 w_7 =>
  ∃ x_8 : Bool, r_6 = (.bool x_8) ∧
  K (.bool x_8) w_7)
  (∃ x_9 : Int, lenS match_3 = some (.int .i64 x_9) ∧
  ifT (decide (9 < x_9)) (Cl Try.prog hk 10 [] w fun r_10 w_11 =>
   ∃ x_12 : Bool, r_10 = (.bool x_12) ∧
   K (.bool x_12) w_11)
  (join (fun l_13 w_14 => ∃ l_16 : AV, ∃ t_17 : Int, l_13 = [l_16, (.int .i64 t_17)] ∧ ∀ _ : Nat → AV,
   ∃ x_18 : Int, lenS l_16 = some (.int .i64 x_18) ∧
   Cl Try.prog hk 11 [(.int .i64 now_0), (.int .i64 (wi (x_18 + 1)))] w_14 fun r_19 w_20 =>
   ∃ now_21 : Int, r_19 = (.int .i64 now_21) ∧
   Cl Try.prog hk 11 [(.int .i64 term_2), (.int .i64 (wi (t_17 + 2)))] w_20 fun r_22 w_23 =>
   ∃ term_24 : Int, r_22 = (.int .i64 term_24) ∧
   loopP [.nilslice, (.int .i64 0)] w_23 fun R_25 l_26 w_27 => ∃ m_28 : AV, ∃ i_29 : Int, l_26 = [m_28, (.int .i64 i_29)] ∧ ∀ _ : Nat → AV,
    ∃ x_30 : Int, lenS match_3 = some (.int .i64 x_30) ∧
    ifT (decide (i_29 < x_30)) (atP (idxS 1 match_3 (.int .i64 i_29)) fun b_31 o_32 =>
    ∃ x_33 : Int, ld w_27 b_31 o_32 = some (.int .i64 x_33) ∧
    ∃ x_34 : Int, lenS l_16 = some (.int .i64 x_34) ∧
    Cl Try.prog hk 11 [(.int .i64 x_33), (.int .i64 (wi (x_34 + 1)))] w_27 fun r_35 w_36 =>
    ∃ x_37 : Int, r_35 = (.int .i64 x_37) ∧
    new w_36 [(.int .i64 x_37)] fun b_38 w_39 =>
    onE (appS 1 8 w_39 m_28 (.slice b_38 0 1 1 none)) fun m_40 w_41 =>
    R_25 [m_40, (.int .i64 (wi (i_29 + 1)))] w_41)
    (∃ x_42 : Int, lenS m_28 = some (.int .i64 x_42) ∧
   Cl Try.prog hk 11 [(.int .i64 turn_4), (.int .i64 x_42)] w_27 fun r_43 w_44 =>
   ∃ k_45 : Int, r_43 = (.int .i64 k_45) ∧
   onM (slS 1 m_28 (some (.int .i64 k_45)) none none) fun x_46 =>
   onE (appS 1 8 w_44 .nilslice x_46) fun turned_47 w_48 =>
   onM (slS 1 m_28 none (some (.int .i64 k_45)) none) fun x_49 =>
   onE (appS 1 8 w_48 turned_47 x_49) fun turned_50 w_51 =>
   Cl Try.prog hk 8 [(.int .i64 now_21), (.int .i64 term_24), (.int .i64 0), (.int .i64 0), l_16, m_28] w_51 fun r_52 w_53 =>
   ∃ n_54 : Int, r_52 = (.int .i64 n_54) ∧
   ifT (decide (n_54 < now_21)) (K (.bool false) w_53)
   (Cl Try.prog hk 8 [(.int .i64 now_21), (.int .i64 term_24), (.int .i64 0), (.int .i64 0), l_16, turned_50] w_53 fun r_55 w_56 =>
   ∃ x_57 : Int, r_55 = (.int .i64 x_57) ∧
   ifT (!decide (n_54 = x_57)) (K (.bool false) w_56)
   (Cl Try.prog hk 7 [m_28] w_56 fun r_58 w_59 =>
   ∃ x_60 : Int, r_58 = (.int .i64 x_60) ∧
   Cl Try.prog hk 7 [turned_50] w_59 fun r_61 w_62 =>
   ∃ x_63 : Int, r_61 = (.int .i64 x_63) ∧
   ifT (!decide (x_60 = x_63)) (K (.bool false) w_62)
   (loopP [(.int .i64 (wi (now_21 + 1)))] w_62 fun R_64 l_65 w_66 => ∃ i_67 : Int, l_65 = [(.int .i64 i_67)] ∧ ∀ _ : Nat → AV,
    ∃ x_68 : Int, lenS l_16 = some (.int .i64 x_68) ∧
    ifT (decide (i_67 ≤ x_68)) (loopP [(.int .i64 0), (.int .i64 0)] w_66 fun R_69 l_70 w_71 => ∃ have_72 : Int, ∃ j_73 : Int, l_70 = [(.int .i64 have_72), (.int .i64 j_73)] ∧ ∀ _ : Nat → AV,
     ∃ x_74 : Int, lenS m_28 = some (.int .i64 x_74) ∧
     ifT (decide (j_73 < x_74)) (atP (idxS 1 m_28 (.int .i64 j_73)) fun b_75 o_76 =>
     ∃ x_77 : Int, ld w_71 b_75 o_76 = some (.int .i64 x_77) ∧
     ifT (decide (i_67 ≤ x_77)) (R_69 [(.int .i64 (wi (have_72 + 1))), (.int .i64 (wi (j_73 + 1)))] w_71)
     (R_69 [(.int .i64 have_72), (.int .i64 (wi (j_73 + 1)))] w_71))
     (join (fun l_78 w_79 => ∃ may_81 : Bool, l_78 = [(.bool may_81)] ∧ ∀ _ : Nat → AV,
     ifT may_81 (ifT (decide (n_54 < i_67)) (K (.bool false) w_79)
     (ifT (decide (i_67 = n_54)) (ifT (!may_81) (K (.bool false) w_79)
     (R_64 [(.int .i64 (wi (i_67 + 1)))] w_79))
     (R_64 [(.int .i64 (wi (i_67 + 1)))] w_79)))
     (ifT (decide (i_67 = n_54)) (ifT (!may_81) (K (.bool false) w_79)
     (R_64 [(.int .i64 (wi (i_67 + 1)))] w_79))
     (R_64 [(.int .i64 (wi (i_67 + 1)))] w_79))) fun J_80 =>
    ∃ x_82 : Int, lenS m_28 = some (.int .i64 x_82) ∧
    ifT (decide (x_82 < (wi (2 * have_72)))) (atP (idxS 2 l_16 (.int .i64 (wi (i_67 - 1)))) fun b_83 o_84 =>
    ∃ x_85 : Int, ld w_71 b_83 (o_84 + 0) = some (.int .i64 x_85) ∧
    J_80 [(.bool (decide (x_85 = term_24)))] w_71)
    (J_80 [(.bool false)] w_71)))
    (Cl Try.prog hk 10 [] w_66 fun r_86 w_87 =>
   ∃ x_88 : Bool, r_86 = (.bool x_88) ∧
   K (.bool x_88) w_87)))))) fun J_15 =>
  loopP [.nilslice, (.int .i64 0), (.int .i64 0)] w fun R_89 l_90 w_91 => ∃ l_92 : AV, ∃ t_93 : Int, ∃ i_94 : Int, l_90 = [l_92, (.int .i64 t_93), (.int .i64 i_94)] ∧ ∀ _ : Nat → AV,
   ∃ x_95 : Int, lenS steps_1 = some (.int .i64 x_95) ∧
   ifT (decide (i_94 < x_95)) (ifT (decide (i_94 < 40)) (atP (idxS 1 steps_1 (.int .i64 i_94)) fun b_96 o_97 =>
   ∃ x_98 : Int, ld w_91 b_96 o_97 = some (.int .i64 x_98) ∧
   Cl Try.prog hk 11 [(.int .i64 x_98), (.int .i64 5)] w_91 fun r_99 w_100 =>
   ∃ x_101 : Int, r_99 = (.int .i64 x_101) ∧
   be (wi (t_93 + (wi (Int.tdiv x_101 3)))) fun t_102 =>
   new w_100 [(.int .i64 t_102), .nilslice] fun b_103 w_104 =>
   onE (appS 2 32 w_104 l_92 (.slice b_103 0 1 1 none)) fun l_105 w_106 =>
   R_89 [l_105, (.int .i64 t_102), (.int .i64 (wi (i_94 + 1)))] w_106)
   (J_15 [l_92, (.int .i64 t_93)] w_91))
   (J_15 [l_92, (.int .i64 t_93)] w_91)))
def adv5 : Adv := (.sq .lf (.sq (.sq .lf (.cd (.sq .lf .lf) .lf)) (.sq .lf (.sq .lf (.sj [(11, .sc (.opq)), (12, .sc (.int .i64))] (.sq .lf (.bl (.lp [(11, .sc (.opq)), (12, .sc (.int .i64)), (13, .sc (.int .i64))] (.sq (.sq .lf (.cd .lf .lf)) (.sq (.bl (.sq .lf .lf)) .lf))))) (.sq .lf (.sq .lf (.sq .lf (.sq (.sq .lf (.bl (.lp [(14, .sc (.opq)), (16, .sc (.int .i64))] (.sq (.sq .lf (.cd .lf .lf)) (.sq (.bl .lf) .lf))))) (.sq .lf (.sq .lf (.sq .lf (.sq .lf (.sq (.sq .lf (.cd (.sq .lf .lf) .lf)) (.sq (.sq .lf (.bl (.lp [(19, .sc (.int .i64))] (.sq (.sq .lf (.cd .lf .lf)) (.sq (.bl (.sq .lf (.sq (.sq .lf (.bl (.lp [(20, .sc (.int .i64)), (21, .sc (.int .i64))] (.sq (.sq .lf (.cd .lf .lf)) (.sq (.bl (.sq .lf (.cd .lf .lf))) .lf))))) (.sj [(22, .sc (.bool))] .lf (.sq .lf (.cd (.sq .lf .lf) .lf)))))) .lf))))) (.sq .lf .lf))))))))))))))))
set_option maxRecDepth 100000 in
theorem eq5 (hk : Hook) (now_0 : Int) (steps_1 : AV) (term_2 : Int) (match_3 : AV) (turn_4 : Int) (w : AW) (K : AV → AW → Prop) : fnS Try.prog hk Try.f5 adv5 [(.int .i64 now_0), steps_1, (.int .i64 term_2), match_3, (.int .i64 turn_4)] w K = F5 hk now_0 steps_1 term_2 match_3 turn_4 w K := by kernel_rfl
theorem in5 {hk : Hook} {now_0 : Int} {steps_1 : AV} {term_2 : Int} {match_3 : AV} {turn_4 : Int} {w : AW} {K : AV → AW → Prop} (hn : hk 5 [(.int .i64 now_0), steps_1, (.int .i64 term_2), match_3, (.int .i64 turn_4)] w = none) (h : F5 hk now_0 steps_1 term_2 match_3 turn_4 w K) : Cl Try.prog hk 5 [(.int .i64 now_0), steps_1, (.int .i64 term_2), match_3, (.int .i64 turn_4)] w K :=
  fnS_ok Try.func5 hn (by rw [eq5]; exact h)

/-- conduit/conduitlaw22.CommitRises -/
def F6 (hk : Hook) (match_0 : AV) (i_1 : Int) (more_2 : Int) (w : AW) (K : AV → AW → Prop) : Prop :=
  ∃ x_3 : Int, lenS match_0 = some (.int .i64 x_3) ∧
  ifT (decide (x_3 = 0)) (Cl Try.prog hk 10 [] w fun r_4 w_5 =>
  ∃ x_6 : Bool, r_4 = (.bool x_6) ∧
  K (.bool x_6) w_5)
  (∃ x_7 : Int, lenS match_0 = some (.int .i64 x_7) ∧
  ifT (decide (50 < x_7)) (Cl Try.prog hk 10 [] w fun r_8 w_9 =>
   ∃ x_10 : Bool, r_8 = (.bool x_10) ∧
   K (.bool x_10) w_9)
  (loopP [.nilslice, (.int .i64 0)] w fun R_11 l_12 w_13 => ∃ m_14 : AV, ∃ k_15 : Int, l_12 = [m_14, (.int .i64 k_15)] ∧ ∀ _ : Nat → AV,
   ∃ x_16 : Int, lenS match_0 = some (.int .i64 x_16) ∧
   ifT (decide (k_15 < x_16)) (atP (idxS 1 match_0 (.int .i64 k_15)) fun b_17 o_18 =>
   ∃ x_19 : Int, ld w_13 b_17 o_18 = some (.int .i64 x_19) ∧
   Cl Try.prog hk 11 [(.int .i64 x_19), (.int .i64 1000)] w_13 fun r_20 w_21 =>
   ∃ x_22 : Int, r_20 = (.int .i64 x_22) ∧
   new w_21 [(.int .i64 x_22)] fun b_23 w_24 =>
   onE (appS 1 8 w_24 m_14 (.slice b_23 0 1 1 none)) fun m_25 w_26 =>
   R_11 [m_25, (.int .i64 (wi (k_15 + 1)))] w_26)
   (Cl Try.prog hk 7 [m_14] w_13 fun r_27 w_28 =>
  ∃ was_29 : Int, r_27 = (.int .i64 was_29) ∧
  ∃ x_30 : Int, lenS m_14 = some (.int .i64 x_30) ∧
  Cl Try.prog hk 11 [(.int .i64 i_1), (.int .i64 x_30)] w_28 fun r_31 w_32 =>
  ∃ x_33 : Int, r_31 = (.int .i64 x_33) ∧
  atP (idxS 1 m_14 (.int .i64 x_33)) fun b_34 o_35 =>
  ∃ x_36 : Int, ld w_32 b_34 o_35 = some (.int .i64 x_36) ∧
  Cl Try.prog hk 11 [(.int .i64 more_2), (.int .i64 1000)] w_32 fun r_37 w_38 =>
  ∃ x_39 : Int, r_37 = (.int .i64 x_39) ∧
  ld w_38 b_34 o_35 = some (.int .i64 x_36) ∧
  atP (idxS 1 m_14 (.int .i64 x_33)) fun b_40 o_41 =>
  onM (AW.putCells w_38 b_40 o_41 [(.int .i64 (wi (x_36 + x_39)))]) fun w_42 =>
  Cl Try.prog hk 7 [m_14] w_42 fun r_43 w_44 =>
  ∃ now_45 : Int, r_43 = (.int .i64 now_45) ∧
  ifT (decide (was_29 ≤ now_45)) (Cl Try.prog hk 10 [] w_44 fun r_46 w_47 =>
  ∃ x_48 : Bool, r_46 = (.bool x_48) ∧
  K (.bool x_48) w_47)
  (K (.bool false) w_44))))
def adv6 : Adv := (.sq .lf (.sq (.sq .lf (.cd (.sq .lf .lf) .lf)) (.sq .lf (.sq (.sq .lf (.bl (.lp [(7, .sc (.opq)), (8, .sc (.int .i64))] (.sq (.sq .lf (.cd .lf .lf)) (.sq (.bl .lf) .lf))))) (.sq .lf (.sq .lf (.sq .lf (.sq .lf .lf))))))))
set_option maxRecDepth 100000 in
theorem eq6 (hk : Hook) (match_0 : AV) (i_1 : Int) (more_2 : Int) (w : AW) (K : AV → AW → Prop) : fnS Try.prog hk Try.f6 adv6 [match_0, (.int .i64 i_1), (.int .i64 more_2)] w K = F6 hk match_0 i_1 more_2 w K := by kernel_rfl
theorem in6 {hk : Hook} {match_0 : AV} {i_1 : Int} {more_2 : Int} {w : AW} {K : AV → AW → Prop} (hn : hk 6 [match_0, (.int .i64 i_1), (.int .i64 more_2)] w = none) (h : F6 hk match_0 i_1 more_2 w K) : Cl Try.prog hk 6 [match_0, (.int .i64 i_1), (.int .i64 more_2)] w K :=
  fnS_ok Try.func6 hn (by rw [eq6]; exact h)

/-- conduit/commit.Rule -/
def F7 (hk : Hook) (match_0 : AV) (w : AW) (K : AV → AW → Prop) : Prop :=
  gd (okCell match_0) (
  new w [match_0] fun b_1 w_2 =>
  onM (ld w_2 b_1 0) fun x_3 =>
  Cl Try.prog hk 18 [x_3] w_2 fun r_4 w_5 =>
  Cl Try.prog hk 17 [r_4] w_5 fun r_6 w_7 =>
  Cl Try.prog hk 19 [r_6] w_7 fun r_8 w_9 =>
  r_8 = .tup [] ∧
  ∃ x_10 : Int, lenS r_6 = some (.int .i64 x_10) ∧
  loopP [(.int .i64 0)] w_9 fun R_11 l_12 w_13 => ∃ x_14 : Int, l_12 = [(.int .i64 x_14)] ∧ ∀ _ : Nat → AV,
   ifT (decide (x_14 < x_10)) (atP (idxS 1 r_6 (.int .i64 x_14)) fun b_15 o_16 =>
   ∃ n_17 : Int, ld w_13 b_15 o_16 = some (.int .i64 n_17) ∧
   onM (ld w_13 b_1 0) fun x_18 =>
   ∃ x_19 : Int, lenS x_18 = some (.int .i64 x_19) ∧
   Cl Try.prog hk 16 [(.int .i64 n_17), (.ptr b_1 0)] w_13 fun r_20 w_21 =>
   ∃ x_22 : Int, r_20 = (.int .i64 x_22) ∧
   ld w_21 b_1 0 = some x_18 ∧
   Cl Try.prog hk 20 [(.int .i64 x_22), (.int .i64 x_19)] w_21 fun r_23 w_24 =>
   ∃ x_25 : Bool, r_23 = (.bool x_25) ∧
   ifT x_25 (K (.int .i64 n_17) w_24)
   (R_11 [(.int .i64 (wi (x_14 + 1)))] w_24))
   (K (.int .i64 0) w_13))
def adv7 : Adv := (.sq .lf (.sq .lf (.sq .lf (.sq .lf (.sq (.sq .lf (.bl (.lp [(15, .sc (.int .i64))] (.sq .lf (.sq (.cd .lf .lf) (.sq (.bl (.sq .lf (.sq .lf (.cd (.sq .lf .lf) .lf)))) .lf)))))) (.sq .lf .lf))))))
set_option maxRecDepth 100000 in
theorem eq7 (hk : Hook) (match_0 : AV) (w : AW) (K : AV → AW → Prop) : fnS Try.prog hk Try.f7 adv7 [match_0] w K = F7 hk match_0 w K := by kernel_rfl
theorem in7 {hk : Hook} {match_0 : AV} {w : AW} {K : AV → AW → Prop} (hn : hk 7 [match_0] w = none) (h : F7 hk match_0 w K) : Cl Try.prog hk 7 [match_0] w K :=
  fnS_ok Try.func7 hn (by rw [eq7]; exact h)

/-- conduit/commit.Advance -/
def F8 (hk : Hook) (commit_0 : Int) (term_1 : Int) (base_2 : Int) (baseTerm_3 : Int) (l_4 : AV) (match_5 : AV) (w : AW) (K : AV → AW → Prop) : Prop :=
  Cl Try.prog hk 7 [match_5] w fun r_6 w_7 =>
  ∃ x_8 : Int, r_6 = (.int .i64 x_8) ∧
  Cl Try.prog hk 21 [(.int .i64 base_2), l_4] w_7 fun r_9 w_10 =>
  ∃ x_11 : Int, r_9 = (.int .i64 x_11) ∧
  loopP [(.int .i64 (imin x_8 x_11))] w_10 fun R_12 l_13 w_14 => ∃ n_15 : Int, l_13 = [(.int .i64 n_15)] ∧ ∀ _ : Nat → AV,
   ifT (decide (commit_0 < n_15)) (ifT (decide (base_2 ≤ n_15)) (Cl Try.prog hk 22 [(.int .i64 base_2), (.int .i64 baseTerm_3), l_4, (.int .i64 n_15)] w_14 fun r_16 w_17 =>
   ∃ x_18 : Int, ∃ x_19 : Bool, r_16 = .tup [(.int .i64 x_18), (.bool x_19)] ∧
   ifT x_19 (ifT (decide (x_18 = term_1)) (K (.int .i64 n_15) w_17)
   (R_12 [(.int .i64 (wi (n_15 - 1)))] w_17))
   (R_12 [(.int .i64 (wi (n_15 - 1)))] w_17))
   (K (.int .i64 commit_0) w_14))
   (K (.int .i64 commit_0) w_14)
def adv8 : Adv := (.sq .lf (.sq (.sq .lf (.bl (.lp [(13, .sc (.int .i64))] (.sq (.sq .lf (.cd .lf .lf)) (.sq (.bl (.sq .lf (.sq .lf (.cd (.sq .lf .lf) .lf)))) .lf))))) (.sq .lf .lf)))
set_option maxRecDepth 100000 in
theorem eq8 (hk : Hook) (commit_0 : Int) (term_1 : Int) (base_2 : Int) (baseTerm_3 : Int) (l_4 : AV) (match_5 : AV) (w : AW) (K : AV → AW → Prop) : fnS Try.prog hk Try.f8 adv8 [(.int .i64 commit_0), (.int .i64 term_1), (.int .i64 base_2), (.int .i64 baseTerm_3), l_4, match_5] w K = F8 hk commit_0 term_1 base_2 baseTerm_3 l_4 match_5 w K := by kernel_rfl
theorem in8 {hk : Hook} {commit_0 : Int} {term_1 : Int} {base_2 : Int} {baseTerm_3 : Int} {l_4 : AV} {match_5 : AV} {w : AW} {K : AV → AW → Prop} (hn : hk 8 [(.int .i64 commit_0), (.int .i64 term_1), (.int .i64 base_2), (.int .i64 baseTerm_3), l_4, match_5] w = none) (h : F8 hk commit_0 term_1 base_2 baseTerm_3 l_4 match_5 w K) : Cl Try.prog hk 8 [(.int .i64 commit_0), (.int .i64 term_1), (.int .i64 base_2), (.int .i64 baseTerm_3), l_4, match_5] w K :=
  fnS_ok Try.func8 hn (by rw [eq8]; exact h)

/-- conduit/conduitlow.Pick -/
def F11 (hk : Hook) (x_0 : Int) (n_1 : Int) (w : AW) (K : AV → AW → Prop) : Prop :=
  ifT (decide (n_1 ≤ 0)) (K (.int .i64 0) w)
  (∃ x_2 : Int, arith .rem .i64 x_0 n_1 = some (.int .i64 x_2) ∧
  ifT (decide (x_2 < 0)) (K (.int .i64 (wi (x_2 + n_1))) w)
  (K (.int .i64 x_2) w))
def adv11 : Adv := (.sq .lf (.sq (.sq .lf (.cd (.sq .lf .lf) .lf)) (.sq .lf (.sq (.sq .lf (.cd .lf .lf)) (.sq .lf .lf)))))
set_option maxRecDepth 100000 in
theorem eq11 (hk : Hook) (x_0 : Int) (n_1 : Int) (w : AW) (K : AV → AW → Prop) : fnS Try.prog hk Try.f11 adv11 [(.int .i64 x_0), (.int .i64 n_1)] w K = F11 hk x_0 n_1 w K := by kernel_rfl
theorem in11 {hk : Hook} {x_0 : Int} {n_1 : Int} {w : AW} {K : AV → AW → Prop} (hn : hk 11 [(.int .i64 x_0), (.int .i64 n_1)] w = none) (h : F11 hk x_0 n_1 w K) : Cl Try.prog hk 11 [(.int .i64 x_0), (.int .i64 n_1)] w K :=
  fnS_ok Try.func11 hn (by rw [eq11]; exact h)

/-- conduit/conduitlow.CopyInts -/
def F12 (hk : Hook) (l_0 : AV) (w : AW) (K : AV → AW → Prop) : Prop :=
  onE (appS 1 8 w .nilslice l_0) fun x_1 w_2 =>
  K x_1 w_2
def adv12 : Adv := (.sq .lf (.sq .lf (.sq .lf .lf)))
set_option maxRecDepth 100000 in
theorem eq12 (hk : Hook) (l_0 : AV) (w : AW) (K : AV → AW → Prop) : fnS Try.prog hk Try.f12 adv12 [l_0] w K = F12 hk l_0 w K := by kernel_rfl
theorem in12 {hk : Hook} {l_0 : AV} {w : AW} {K : AV → AW → Prop} (hn : hk 12 [l_0] w = none) (h : F12 hk l_0 w K) : Cl Try.prog hk 12 [l_0] w K :=
  fnS_ok Try.func12 hn (by rw [eq12]; exact h)

/-- conduit/conduitref22.Rule -/
def F13 (hk : Hook) (match_0 : AV) (w : AW) (K : AV → AW → Prop) : Prop :=
  loopP [(.int .i64 0), (.bool false), (.int .i64 0)] w fun R_1 l_2 w_3 => ∃ out_4 : Int, ∃ any_5 : Bool, ∃ i_6 : Int, l_2 = [(.int .i64 out_4), (.bool any_5), (.int .i64 i_6)] ∧ ∀ _ : Nat → AV,
   ∃ x_7 : Int, lenS match_0 = some (.int .i64 x_7) ∧
   ifT (decide (i_6 < x_7)) (loopP [(.int .i64 0), (.int .i64 0)] w_3 fun R_8 l_9 w_10 => ∃ k_11 : Int, ∃ j_12 : Int, l_9 = [(.int .i64 k_11), (.int .i64 j_12)] ∧ ∀ _ : Nat → AV,
    ∃ x_13 : Int, lenS match_0 = some (.int .i64 x_13) ∧
    ifT (decide (j_12 < x_13)) (atP (idxS 1 match_0 (.int .i64 j_12)) fun b_14 o_15 =>
    ∃ x_16 : Int, ld w_10 b_14 o_15 = some (.int .i64 x_16) ∧
    atP (idxS 1 match_0 (.int .i64 i_6)) fun b_17 o_18 =>
    ∃ x_19 : Int, ld w_10 b_17 o_18 = some (.int .i64 x_19) ∧
    ifT (decide (x_19 ≤ x_16)) (R_8 [(.int .i64 (wi (k_11 + 1))), (.int .i64 (wi (j_12 + 1)))] w_10)
    (R_8 [(.int .i64 k_11), (.int .i64 (wi (j_12 + 1)))] w_10))
    (∃ x_20 : Int, lenS match_0 = some (.int .i64 x_20) ∧
   Cl Try.prog hk 23 [(.int .i64 k_11), (.int .i64 x_20)] w_10 fun r_21 w_22 =>
   ∃ x_23 : Bool, r_21 = (.bool x_23) ∧
   ifT x_23 (ifT (!any_5) (atP (idxS 1 match_0 (.int .i64 i_6)) fun b_24 o_25 =>
   ∃ out_26 : Int, ld w_22 b_24 o_25 = some (.int .i64 out_26) ∧
   R_1 [(.int .i64 out_26), (.bool true), (.int .i64 (wi (i_6 + 1)))] w_22)
   (atP (idxS 1 match_0 (.int .i64 i_6)) fun b_27 o_28 =>
   ∃ x_29 : Int, ld w_22 b_27 o_28 = some (.int .i64 x_29) ∧
   ifT (decide (out_4 < x_29)) (atP (idxS 1 match_0 (.int .i64 i_6)) fun b_30 o_31 =>
    ∃ out_32 : Int, ld w_22 b_30 o_31 = some (.int .i64 out_32) ∧
    R_1 [(.int .i64 out_32), (.bool true), (.int .i64 (wi (i_6 + 1)))] w_22)
   (R_1 [(.int .i64 out_4), (.bool any_5), (.int .i64 (wi (i_6 + 1)))] w_22)))
   (R_1 [(.int .i64 out_4), (.bool any_5), (.int .i64 (wi (i_6 + 1)))] w_22)))
   (K (.int .i64 out_4) w_3)
def adv13 : Adv := (.sq .lf (.sq .lf (.sq .lf (.sq (.sq .lf (.bl (.lp [(3, .sc (.int .i64)), (4, .sc (.bool)), (5, .sc (.int .i64))] (.sq (.sq .lf (.cd .lf .lf)) (.sq (.bl (.sq .lf (.sq (.sq .lf (.bl (.lp [(6, .sc (.int .i64)), (7, .sc (.int .i64))] (.sq (.sq .lf (.cd .lf .lf)) (.sq (.bl (.sq .lf (.cd .lf .lf))) .lf))))) (.sq .lf (.cd (.sq .lf .lf) .lf))))) .lf))))) (.sq .lf .lf)))))
set_option maxRecDepth 100000 in
theorem eq13 (hk : Hook) (match_0 : AV) (w : AW) (K : AV → AW → Prop) : fnS Try.prog hk Try.f13 adv13 [match_0] w K = F13 hk match_0 w K := by kernel_rfl
theorem in13 {hk : Hook} {match_0 : AV} {w : AW} {K : AV → AW → Prop} (hn : hk 13 [match_0] w = none) (h : F13 hk match_0 w K) : Cl Try.prog hk 13 [match_0] w K :=
  fnS_ok Try.func13 hn (by rw [eq13]; exact h)

/-- conduit/conduitref22.Advance -/
def F14 (hk : Hook) (commit_0 : Int) (term_1 : Int) (base_2 : Int) (baseTerm_3 : Int) (l_4 : AV) (match_5 : AV) (w : AW) (K : AV → AW → Prop) : Prop :=
  loopP [(.int .i64 commit_0), (.int .i64 base_2)] w fun R_6 l_7 w_8 => ∃ out_9 : Int, ∃ n_10 : Int, l_7 = [(.int .i64 out_9), (.int .i64 n_10)] ∧ ∀ _ : Nat → AV,
   ∃ x_11 : Int, lenS l_4 = some (.int .i64 x_11) ∧
   ifT (decide (n_10 ≤ (wi (base_2 + x_11)))) (Cl Try.prog hk 24 [(.int .i64 base_2), (.int .i64 baseTerm_3), l_4, (.int .i64 n_10)] w_8 fun r_12 w_13 =>
   ∃ x_14 : Int, ∃ x_15 : Bool, r_12 = .tup [(.int .i64 x_14), (.bool x_15)] ∧
   ifT x_15 (ifT (decide (commit_0 < n_10)) (Cl Try.prog hk 13 [match_5] w_13 fun r_16 w_17 =>
   ∃ x_18 : Int, r_16 = (.int .i64 x_18) ∧
   ifT (decide (n_10 ≤ x_18)) (ifT (decide (x_14 = term_1)) (R_6 [(.int .i64 n_10), (.int .i64 (wi (n_10 + 1)))] w_17)
   (R_6 [(.int .i64 out_9), (.int .i64 (wi (n_10 + 1)))] w_17))
   (R_6 [(.int .i64 out_9), (.int .i64 (wi (n_10 + 1)))] w_17))
   (R_6 [(.int .i64 out_9), (.int .i64 (wi (n_10 + 1)))] w_13))
   (R_6 [(.int .i64 out_9), (.int .i64 (wi (n_10 + 1)))] w_13))
   (K (.int .i64 out_9) w_8)
def adv14 : Adv := (.sq .lf (.sq .lf (.sq (.sq .lf (.bl (.lp [(13, .sc (.int .i64)), (14, .sc (.int .i64))] (.sq (.sq .lf (.cd .lf .lf)) (.sq (.bl (.sq .lf (.sq .lf (.cd .lf .lf)))) .lf))))) (.sq .lf .lf))))
set_option maxRecDepth 100000 in
theorem eq14 (hk : Hook) (commit_0 : Int) (term_1 : Int) (base_2 : Int) (baseTerm_3 : Int) (l_4 : AV) (match_5 : AV) (w : AW) (K : AV → AW → Prop) : fnS Try.prog hk Try.f14 adv14 [(.int .i64 commit_0), (.int .i64 term_1), (.int .i64 base_2), (.int .i64 baseTerm_3), l_4, match_5] w K = F14 hk commit_0 term_1 base_2 baseTerm_3 l_4 match_5 w K := by kernel_rfl
theorem in14 {hk : Hook} {commit_0 : Int} {term_1 : Int} {base_2 : Int} {baseTerm_3 : Int} {l_4 : AV} {match_5 : AV} {w : AW} {K : AV → AW → Prop} (hn : hk 14 [(.int .i64 commit_0), (.int .i64 term_1), (.int .i64 base_2), (.int .i64 baseTerm_3), l_4, match_5] w = none) (h : F14 hk commit_0 term_1 base_2 baseTerm_3 l_4 match_5 w K) : Cl Try.prog hk 14 [(.int .i64 commit_0), (.int .i64 term_1), (.int .i64 base_2), (.int .i64 baseTerm_3), l_4, match_5] w K :=
  fnS_ok Try.func14 hn (by rw [eq14]; exact h)

/-- conduit/conduitlow.SameInts -/
def F15 (hk : Hook) (a_0 : AV) (b_1 : AV) (w : AW) (K : AV → AW → Prop) : Prop :=
  ∃ x_2 : Int, lenS a_0 = some (.int .i64 x_2) ∧
  ∃ x_3 : Int, lenS b_1 = some (.int .i64 x_3) ∧
  ifT (!decide (x_2 = x_3)) (K (.bool false) w)
  (loopP [(.int .i64 0)] w fun R_4 l_5 w_6 => ∃ i_7 : Int, l_5 = [(.int .i64 i_7)] ∧ ∀ _ : Nat → AV,
   ∃ x_8 : Int, lenS a_0 = some (.int .i64 x_8) ∧
   ifT (decide (i_7 < x_8)) (atP (idxS 1 a_0 (.int .i64 i_7)) fun b_9 o_10 =>
   ∃ x_11 : Int, ld w_6 b_9 o_10 = some (.int .i64 x_11) ∧
   atP (idxS 1 b_1 (.int .i64 i_7)) fun b_12 o_13 =>
   ∃ x_14 : Int, ld w_6 b_12 o_13 = some (.int .i64 x_14) ∧
   ifT (!decide (x_11 = x_14)) (K (.bool false) w_6)
   (R_4 [(.int .i64 (wi (i_7 + 1)))] w_6))
   (K (.bool true) w_6))
def adv15 : Adv := (.sq .lf (.sq (.sq .lf (.cd (.sq .lf .lf) .lf)) (.sq (.sq .lf (.bl (.lp [(5, .sc (.int .i64))] (.sq (.sq .lf (.cd .lf .lf)) (.sq (.bl (.sq .lf (.cd (.sq .lf .lf) .lf))) .lf))))) (.sq .lf .lf))))
set_option maxRecDepth 100000 in
theorem eq15 (hk : Hook) (a_0 : AV) (b_1 : AV) (w : AW) (K : AV → AW → Prop) : fnS Try.prog hk Try.f15 adv15 [a_0, b_1] w K = F15 hk a_0 b_1 w K := by kernel_rfl
theorem in15 {hk : Hook} {a_0 : AV} {b_1 : AV} {w : AW} {K : AV → AW → Prop} (hn : hk 15 [a_0, b_1] w = none) (h : F15 hk a_0 b_1 w K) : Cl Try.prog hk 15 [a_0, b_1] w K :=
  fnS_ok Try.func15 hn (by rw [eq15]; exact h)

/-- conduit/commit.Rule$1 -/
def F16 (hk : Hook) (n_0 : Int) (cap_1 : AV) (w : AW) (K : AV → AW → Prop) : Prop :=
  onP cap_1 fun b_2 o_3 =>
  onM (ld w b_2 o_3) fun x_4 =>
  ∃ x_5 : Int, lenS x_4 = some (.int .i64 x_5) ∧
  loopP [(.int .i64 0), (.int .i64 0)] w fun R_6 l_7 w_8 => ∃ k_9 : Int, ∃ x_10 : Int, l_7 = [(.int .i64 k_9), (.int .i64 x_10)] ∧ ∀ _ : Nat → AV,
   ifT (decide (x_10 < x_5)) (atP (idxS 1 x_4 (.int .i64 x_10)) fun b_11 o_12 =>
   ∃ m_13 : Int, ld w_8 b_11 o_12 = some (.int .i64 m_13) ∧
   ifT (decide (n_0 ≤ m_13)) (R_6 [(.int .i64 (wi (k_9 + 1))), (.int .i64 (wi (x_10 + 1)))] w_8)
   (R_6 [(.int .i64 k_9), (.int .i64 (wi (x_10 + 1)))] w_8))
   (K (.int .i64 k_9) w_8)
def adv16 : Adv := (.sq .lf (.sq .lf (.sq (.sq .lf (.bl (.lp [(4, .sc (.int .i64)), (9, .sc (.int .i64))] (.sq .lf (.sq (.cd .lf .lf) (.sq (.bl (.sq .lf (.sq .lf (.cd .lf .lf)))) .lf)))))) (.sq .lf .lf))))
set_option maxRecDepth 100000 in
theorem eq16 (hk : Hook) (n_0 : Int) (cap_1 : AV) (w : AW) (K : AV → AW → Prop) : fnS Try.prog hk Try.f16 adv16 [(.int .i64 n_0), cap_1] w K = F16 hk n_0 cap_1 w K := by kernel_rfl
theorem in16 {hk : Hook} {n_0 : Int} {cap_1 : AV} {w : AW} {K : AV → AW → Prop} (hn : hk 16 [(.int .i64 n_0), cap_1] w = none) (h : F16 hk n_0 cap_1 w K) : Cl Try.prog hk 16 [(.int .i64 n_0), cap_1] w K :=
  fnS_ok Try.func16 hn (by rw [eq16]; exact h)

/-- conduit/ballot.Majority -/
def F20 (hk : Hook) (n_0 : Int) (size_1 : Int) (w : AW) (K : AV → AW → Prop) : Prop :=
  K (.bool (decide ((wi (size_1 - n_0)) < n_0))) w
def adv20 : Adv := (.sq .lf (.sq .lf .lf))
set_option maxRecDepth 100000 in
theorem eq20 (hk : Hook) (n_0 : Int) (size_1 : Int) (w : AW) (K : AV → AW → Prop) : fnS Try.prog hk Try.f20 adv20 [(.int .i64 n_0), (.int .i64 size_1)] w K = F20 hk n_0 size_1 w K := by kernel_rfl
theorem in20 {hk : Hook} {n_0 : Int} {size_1 : Int} {w : AW} {K : AV → AW → Prop} (hn : hk 20 [(.int .i64 n_0), (.int .i64 size_1)] w = none) (h : F20 hk n_0 size_1 w K) : Cl Try.prog hk 20 [(.int .i64 n_0), (.int .i64 size_1)] w K :=
  fnS_ok Try.func20 hn (by rw [eq20]; exact h)

/-- conduit/append.Last -/
def F21 (hk : Hook) (base_0 : Int) (l_1 : AV) (w : AW) (K : AV → AW → Prop) : Prop :=
  ∃ x_2 : Int, lenS l_1 = some (.int .i64 x_2) ∧
  K (.int .i64 (wi (base_0 + x_2))) w
def adv21 : Adv := (.sq .lf (.sq .lf .lf))
set_option maxRecDepth 100000 in
theorem eq21 (hk : Hook) (base_0 : Int) (l_1 : AV) (w : AW) (K : AV → AW → Prop) : fnS Try.prog hk Try.f21 adv21 [(.int .i64 base_0), l_1] w K = F21 hk base_0 l_1 w K := by kernel_rfl
theorem in21 {hk : Hook} {base_0 : Int} {l_1 : AV} {w : AW} {K : AV → AW → Prop} (hn : hk 21 [(.int .i64 base_0), l_1] w = none) (h : F21 hk base_0 l_1 w K) : Cl Try.prog hk 21 [(.int .i64 base_0), l_1] w K :=
  fnS_ok Try.func21 hn (by rw [eq21]; exact h)

/-- conduit/append.TermAt -/
def F22 (hk : Hook) (base_0 : Int) (baseTerm_1 : Int) (l_2 : AV) (index_3 : Int) (w : AW) (K : AV → AW → Prop) : Prop :=
  ifT (decide (index_3 = base_0)) (K (.tup [(.int .i64 baseTerm_1), (.bool true)]) w)
  (ifT (decide (index_3 < base_0)) (K (.tup [(.int .i64 0), (.bool false)]) w)
   (Cl Try.prog hk 21 [(.int .i64 base_0), l_2] w fun r_4 w_5 =>
   ∃ x_6 : Int, r_4 = (.int .i64 x_6) ∧
   ifT (decide (x_6 < index_3)) (K (.tup [(.int .i64 0), (.bool false)]) w_5)
   (be (wi ((wi (index_3 - base_0)) - 1)) fun x_7 =>
  atP (idxS 2 l_2 (.int .i64 x_7)) fun b_8 o_9 =>
  ∃ x_10 : Int, ld w_5 b_8 (o_9 + 0) = some (.int .i64 x_10) ∧
  K (.tup [(.int .i64 x_10), (.bool true)]) w_5)))
def adv22 : Adv := (.sq .lf (.sq (.bl (.sq .lf (.cd (.sq .lf .lf) (.sq .lf (.cd (.sq .lf .lf) .lf))))) (.sq .lf .lf)))
set_option maxRecDepth 100000 in
theorem eq22 (hk : Hook) (base_0 : Int) (baseTerm_1 : Int) (l_2 : AV) (index_3 : Int) (w : AW) (K : AV → AW → Prop) : fnS Try.prog hk Try.f22 adv22 [(.int .i64 base_0), (.int .i64 baseTerm_1), l_2, (.int .i64 index_3)] w K = F22 hk base_0 baseTerm_1 l_2 index_3 w K := by kernel_rfl
theorem in22 {hk : Hook} {base_0 : Int} {baseTerm_1 : Int} {l_2 : AV} {index_3 : Int} {w : AW} {K : AV → AW → Prop} (hn : hk 22 [(.int .i64 base_0), (.int .i64 baseTerm_1), l_2, (.int .i64 index_3)] w = none) (h : F22 hk base_0 baseTerm_1 l_2 index_3 w K) : Cl Try.prog hk 22 [(.int .i64 base_0), (.int .i64 baseTerm_1), l_2, (.int .i64 index_3)] w K :=
  fnS_ok Try.func22 hn (by rw [eq22]; exact h)

/-- conduit/conduitref20.Majority -/
def F23 (hk : Hook) (n_0 : Int) (size_1 : Int) (w : AW) (K : AV → AW → Prop) : Prop :=
  K (.bool (decide ((wi (Int.tdiv size_1 2)) < n_0))) w
def adv23 : Adv := (.sq .lf (.sq .lf .lf))
set_option maxRecDepth 100000 in
theorem eq23 (hk : Hook) (n_0 : Int) (size_1 : Int) (w : AW) (K : AV → AW → Prop) : fnS Try.prog hk Try.f23 adv23 [(.int .i64 n_0), (.int .i64 size_1)] w K = F23 hk n_0 size_1 w K := by kernel_rfl
theorem in23 {hk : Hook} {n_0 : Int} {size_1 : Int} {w : AW} {K : AV → AW → Prop} (hn : hk 23 [(.int .i64 n_0), (.int .i64 size_1)] w = none) (h : F23 hk n_0 size_1 w K) : Cl Try.prog hk 23 [(.int .i64 n_0), (.int .i64 size_1)] w K :=
  fnS_ok Try.func23 hn (by rw [eq23]; exact h)

/-- conduit/conduitref21.TermAt -/
def F24 (hk : Hook) (base_0 : Int) (baseTerm_1 : Int) (l_2 : AV) (index_3 : Int) (w : AW) (K : AV → AW → Prop) : Prop :=
  ifT (decide (index_3 = base_0)) (K (.tup [(.int .i64 baseTerm_1), (.bool true)]) w)
  (loopP [(.int .i64 0)] w fun R_4 l_5 w_6 => ∃ i_7 : Int, l_5 = [(.int .i64 i_7)] ∧ ∀ _ : Nat → AV,
   ∃ x_8 : Int, lenS l_2 = some (.int .i64 x_8) ∧
   ifT (decide (i_7 < x_8)) (ifT (decide ((wi ((wi (base_0 + 1)) + i_7)) = index_3)) (atP (idxS 2 l_2 (.int .i64 i_7)) fun b_9 o_10 =>
    ∃ x_11 : Int, ld w_6 b_9 (o_10 + 0) = some (.int .i64 x_11) ∧
    K (.tup [(.int .i64 x_11), (.bool true)]) w_6)
   (R_4 [(.int .i64 (wi (i_7 + 1)))] w_6))
   (K (.tup [(.int .i64 0), (.bool false)]) w_6))
def adv24 : Adv := (.sq .lf (.sq (.sq .lf (.cd (.sq .lf .lf) .lf)) (.sq (.sq .lf (.bl (.lp [(10, .sc (.int .i64))] (.sq (.sq .lf (.cd .lf .lf)) (.sq (.bl (.sq .lf (.cd (.sq .lf .lf) .lf))) .lf))))) (.sq .lf .lf))))
set_option maxRecDepth 100000 in
theorem eq24 (hk : Hook) (base_0 : Int) (baseTerm_1 : Int) (l_2 : AV) (index_3 : Int) (w : AW) (K : AV → AW → Prop) : fnS Try.prog hk Try.f24 adv24 [(.int .i64 base_0), (.int .i64 baseTerm_1), l_2, (.int .i64 index_3)] w K = F24 hk base_0 baseTerm_1 l_2 index_3 w K := by kernel_rfl
theorem in24 {hk : Hook} {base_0 : Int} {baseTerm_1 : Int} {l_2 : AV} {index_3 : Int} {w : AW} {K : AV → AW → Prop} (hn : hk 24 [(.int .i64 base_0), (.int .i64 baseTerm_1), l_2, (.int .i64 index_3)] w = none) (h : F24 hk base_0 baseTerm_1 l_2 index_3 w K) : Cl Try.prog hk 24 [(.int .i64 base_0), (.int .i64 baseTerm_1), l_2, (.int .i64 index_3)] w K :=
  fnS_ok Try.func24 hn (by rw [eq24]; exact h)

/-- slices.Sorted[int] -/
def F17 (hk : Hook) (seq_0 : AV) (w : AW) (K : AV → AW → Prop) : Prop :=
  Cl Try.prog hk 25 [seq_0] w fun r_1 w_2 =>
  Cl Try.prog hk 26 [r_1] w_2 fun r_3 w_4 =>
  r_3 = .tup [] ∧
  K r_1 w_4
def adv17 : Adv := (.sq .lf (.sq .lf (.sq .lf (.sq .lf .lf))))
set_option maxRecDepth 100000 in
theorem eq17 (hk : Hook) (seq_0 : AV) (w : AW) (K : AV → AW → Prop) : fnS Try.prog hk Try.f17 adv17 [seq_0] w K = F17 hk seq_0 w K := by kernel_rfl
theorem in17 {hk : Hook} {seq_0 : AV} {w : AW} {K : AV → AW → Prop} (hn : hk 17 [seq_0] w = none) (h : F17 hk seq_0 w K) : Cl Try.prog hk 17 [seq_0] w K :=
  fnS_ok Try.func17 hn (by rw [eq17]; exact h)

/-- slices.Values[[]int,int] -/
def F18 (hk : Hook) (s_0 : AV) (w : AW) (K : AV → AW → Prop) : Prop :=
  gd (okCell s_0) (
  new w [s_0] fun b_1 w_2 =>
  K (.func 27 [] [(.ptr b_1 0)]) w_2)
def adv18 : Adv := (.sq .lf (.sq .lf .lf))
set_option maxRecDepth 100000 in
theorem eq18 (hk : Hook) (s_0 : AV) (w : AW) (K : AV → AW → Prop) : fnS Try.prog hk Try.f18 adv18 [s_0] w K = F18 hk s_0 w K := by kernel_rfl
theorem in18 {hk : Hook} {s_0 : AV} {w : AW} {K : AV → AW → Prop} (hn : hk 18 [s_0] w = none) (h : F18 hk s_0 w K) : Cl Try.prog hk 18 [s_0] w K :=
  fnS_ok Try.func18 hn (by rw [eq18]; exact h)

/-- slices.Reverse[[]int,int] -/
def F19 (hk : Hook) (s_0 : AV) (w : AW) (K : AV → AW → Prop) : Prop :=
  ∃ x_1 : Int, lenS s_0 = some (.int .i64 x_1) ∧
  loopP [(.int .i64 0), (.int .i64 (wi (x_1 - 1)))] w fun R_2 l_3 w_4 => ∃ i_5 : Int, ∃ j_6 : Int, l_3 = [(.int .i64 i_5), (.int .i64 j_6)] ∧ ∀ _ : Nat → AV,
   ifT (decide (i_5 < j_6)) (atP (idxS 1 s_0 (.int .i64 j_6)) fun b_7 o_8 =>
   ∃ x_9 : Int, ld w_4 b_7 o_8 = some (.int .i64 x_9) ∧
   atP (idxS 1 s_0 (.int .i64 i_5)) fun b_10 o_11 =>
   ∃ x_12 : Int, ld w_4 b_10 o_11 = some (.int .i64 x_12) ∧
   atP (idxS 1 s_0 (.int .i64 i_5)) fun b_13 o_14 =>
   onM (AW.putCells w_4 b_13 o_14 [(.int .i64 x_9)]) fun w_15 =>
   atP (idxS 1 s_0 (.int .i64 j_6)) fun b_16 o_17 =>
   onM (AW.putCells w_15 b_16 o_17 [(.int .i64 x_12)]) fun w_18 =>
   R_2 [(.int .i64 (wi (i_5 + 1))), (.int .i64 (wi (j_6 - 1)))] w_18)
   (K (.tup []) w_4)
def adv19 : Adv := (.sq .lf (.bl (.lp [(2, .sc (.int .i64)), (3, .sc (.int .i64))] (.sq (.sq .lf (.cd .lf .lf)) (.sq (.bl .lf) .lf)))))
set_option maxRecDepth 100000 in
theorem eq19 (hk : Hook) (s_0 : AV) (w : AW) (K : AV → AW → Prop) : fnS Try.prog hk Try.f19 adv19 [s_0] w K = F19 hk s_0 w K := by kernel_rfl
theorem in19 {hk : Hook} {s_0 : AV} {w : AW} {K : AV → AW → Prop} (hn : hk 19 [s_0] w = none) (h : F19 hk s_0 w K) : Cl Try.prog hk 19 [s_0] w K :=
  fnS_ok Try.func19 hn (by rw [eq19]; exact h)

/-- slices.Collect[int] -/
def F25 (hk : Hook) (seq_0 : AV) (w : AW) (K : AV → AW → Prop) : Prop :=
  Cl Try.prog hk 28 [.nilslice, seq_0] w fun r_1 w_2 =>
  K r_1 w_2
def adv25 : Adv := (.sq .lf (.sq .lf .lf))
set_option maxRecDepth 100000 in
theorem eq25 (hk : Hook) (seq_0 : AV) (w : AW) (K : AV → AW → Prop) : fnS Try.prog hk Try.f25 adv25 [seq_0] w K = F25 hk seq_0 w K := by kernel_rfl
theorem in25 {hk : Hook} {seq_0 : AV} {w : AW} {K : AV → AW → Prop} (hn : hk 25 [seq_0] w = none) (h : F25 hk seq_0 w K) : Cl Try.prog hk 25 [seq_0] w K :=
  fnS_ok Try.func25 hn (by rw [eq25]; exact h)

/-- slices.Values[[]int,int]$1 -/
def F27 (hk : Hook) (yield_0 : AV) (cap_1 : AV) (w : AW) (K : AV → AW → Prop) : Prop :=
  onP cap_1 fun b_2 o_3 =>
  onM (ld w b_2 o_3) fun x_4 =>
  ∃ x_5 : Int, lenS x_4 = some (.int .i64 x_5) ∧
  loopP [(.int .i64 0)] w fun R_6 l_7 w_8 => ∃ x_9 : Int, l_7 = [(.int .i64 x_9)] ∧ ∀ _ : Nat → AV,
   ifT (decide (x_9 < x_5)) (atP (idxS 1 x_4 (.int .i64 x_9)) fun b_10 o_11 =>
   ∃ v_12 : Int, ld w_8 b_10 o_11 = some (.int .i64 v_12) ∧
   Cv Try.prog hk yield_0 [(.int .i64 v_12)] w_8 fun r_13 w_14 =>
   ∃ x_15 : Bool, r_13 = (.bool x_15) ∧
   ifT (!x_15) (K (.tup []) w_14)
   (R_6 [(.int .i64 (wi (x_9 + 1)))] w_14))
   (K (.tup []) w_8)
def adv27 : Adv := (.sq .lf (.bl (.lp [(7, .sc (.int .i64))] (.sq .lf (.sq (.cd .lf .lf) (.sq (.bl (.sq .lf (.sq .lf (.cd .lf .lf)))) .lf))))))
set_option maxRecDepth 100000 in
theorem eq27 (hk : Hook) (yield_0 : AV) (cap_1 : AV) (w : AW) (K : AV → AW → Prop) : fnS Try.prog hk Try.f27 adv27 [yield_0, cap_1] w K = F27 hk yield_0 cap_1 w K := by kernel_rfl
theorem in27 {hk : Hook} {yield_0 : AV} {cap_1 : AV} {w : AW} {K : AV → AW → Prop} (hn : hk 27 [yield_0, cap_1] w = none) (h : F27 hk yield_0 cap_1 w K) : Cl Try.prog hk 27 [yield_0, cap_1] w K :=
  fnS_ok Try.func27 hn (by rw [eq27]; exact h)

