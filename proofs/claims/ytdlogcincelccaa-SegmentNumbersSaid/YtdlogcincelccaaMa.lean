/-
 What the functions of this chapter do.
 No condition beyond those that each theorem names.
-/
import Derived.Test.YtdlogcincelccaaSxu
import Derived.Test.YtdlogcincelccaaProg
import Derived.KernelRfl
import Derived.Test.YtdlogcincelccaaSxw
set_option linter.unusedSimpArgs false
open Go.Sx
set_option linter.unusedVariables false
namespace Go.Proofs.Ytdlogcincelccaa
def z64 : List AV := List.replicate 64 (.int .u8 0)
def stepC (what file n : AV) (data : List AV) (name to : AV) : List AV := what :: file :: n :: (data ++ [name, to])
def F8 (hk : Hook)  (w : AW) (K : AV → AW → Prop) : Prop :=
 Cl Try.prog hk 31 [] w fun r_0 w_1 =>
 ∃ x_2 : AV, ∃ x_3 : AV, r_0 = (.agg [x_2, x_3]) ∧
 Cl Try.prog hk 31 [] w_1 fun r_4 w_5 =>
 ∃ x_6 : AV, ∃ x_7 : AV, r_4 = (.agg [x_6, x_7]) ∧
 gd (List.all [(.bool true), x_2, x_3, x_6, x_7, .nilslice, (.int .i64 0), (.bool false), (.int .i64 0), (.int .i64 0), (.int .i64 0)] okCell) (
 new w_5 [(.bool true), x_2, x_3, x_6, x_7, .nilslice, (.int .i64 0), (.bool false), (.int .i64 0), (.int .i64 0), (.int .i64 0)] fun b_8 w_9 =>
 K (.ptr b_8 0) w_9)
def adv8 : Adv := (.sq .lf (.sq .lf .lf))
set_option maxRecDepth 100000 in
theorem eq8 (hk : Hook)  (w : AW) (K : AV → AW → Prop) : fnS Try.prog hk Try.f8 adv8 [] w K = F8 hk  w K := by kernel_rfl
theorem in8 {hk : Hook} {w : AW} {K : AV → AW → Prop} (hn : hk 8 [] w = none) (h : F8 hk  w K) : Cl Try.prog hk 8 [] w K :=
 fnS_ok Try.func8 hn (by rw [eq8]; exact h)
def F9 (hk : Hook) (d_0 : AV) (name_1 : List UInt8) (at_2 : Int) (data_3 : AV) (w : AW) (K : AV → AW → Prop) : Prop :=
 Cl Try.prog hk 32 [d_0, (.str name_1)] w fun r_4 w_5 =>
 ∃ x_6 : Int, ∃ x_7 : Int, r_4 = .tup [(.int .i64 x_6), (.int .i64 x_7)] ∧
 join (fun l_8 w_9 => l_8 = [] ∧ ∀ _ : Nat → AV,
  atP (s2p 64 data_3) fun b_11 o_12 =>
  onM (ldN 64 w_9 b_11 o_12) fun x_13 =>
  onA x_13 fun cs_14 =>
  gd (Nat.beq cs_14.length 64 && Nat.ble 67 69) (
  new w_9 (stepC (.int .i64 0) (.int .i64 0) (.int .i64 0) z64 (.str []) (.str [])) fun b_15 w_16 =>
  gd (List.all (listPut (stepC (.int .i64 1) (.int .i64 x_6) (.int .i64 at_2) z64 (.str []) (.str [])) 3 cs_14) okCell) (
  gd (Nat.beq (listPut (stepC (.int .i64 1) (.int .i64 x_6) (.int .i64 at_2) z64 (.str []) (.str [])) 3 cs_14).length 69) (onM (AW.putCells w_16 b_15 0 (listPut (stepC (.int .i64 1) (.int .i64 x_6) (.int .i64 at_2) z64 (.str []) (.str [])) 3 cs_14)) fun w_17 =>
  ifT (decide (x_7 = 0)) (onM (ldN 69 w_17 b_15 0) fun x_18 =>
  onA x_18 fun cs_19 => gd (List.all cs_19 okCell) (
  gd (Nat.beq cs_19.length 69 && Nat.ble 69 69) (
  new w_17 (listPut (stepC (.int .i64 0) (.int .i64 0) (.int .i64 0) z64 (.str []) (.str [])) 0 cs_19) fun b_20 w_21 =>
  Cl Try.prog hk 34 [d_0, (.slice b_20 0 1 1 none)] w_21 fun r_22 w_23 =>
  ∃ x_24 : Int, r_22 = (.int .i64 x_24) ∧
  K (.int .i64 x_24) w_23)))
  (onP d_0 fun b_25 o_26 =>
  ∃ x_27 : Int, ld w_17 b_25 (o_26 + 6) = some (.int .i64 x_27) ∧
  onM (AW.putCells w_17 b_15 (0 + 1) [(.int .i64 (wi (x_27 + 1)))]) fun w_28 =>
  ∃ x_29 : Int, ld w_28 b_15 (0 + 1) = some (.int .i64 x_29) ∧
  onM (ldN 69 w_28 b_15 0) fun x_30 =>
  onA x_30 fun cs_31 => gd (List.all cs_31 okCell) (
  gd (Nat.beq cs_31.length 69 && Nat.ble 138 138) (
  new w_28 (listPut ((stepC (.int .i64 0) (.int .i64 x_29) (.int .i64 0) z64 (.str name_1) (.str [])) ++ (stepC (.int .i64 0) (.int .i64 0) (.int .i64 0) z64 (.str []) (.str []))) 69 cs_31) fun b_32 w_33 =>
  Cl Try.prog hk 34 [d_0, (.slice b_32 0 2 2 none)] w_33 fun r_34 w_35 =>
  ∃ e_36 : Int, r_34 = (.int .i64 e_36) ∧
  ifT (!decide (e_36 = 0)) (K (.int .i64 e_36) w_35)
  (onP d_0 fun b_37 o_38 =>
  ∃ x_39 : Int, ld w_35 b_37 (o_38 + 6) = some (.int .i64 x_39) ∧
  onP d_0 fun b_40 o_41 =>
  onM (AW.putCells w_35 b_40 (o_41 + 6) [(.int .i64 (wi (x_39 + 1)))]) fun w_42 =>
  K (.int .i64 0) w_42)))))))) fun J_10 =>
 ifT (decide (x_7 = 1)) (K (.int .i64 x_7) w_5)
 (join (fun l_43 w_44 => ∃ x_46 : Bool, l_43 = [(.bool x_46)] ∧ ∀ _ : Nat → AV,
  ifT x_46 (K (.int .i64 2) w_44)
  (ifT (decide (at_2 = 4096)) (K (.int .i64 5) w_44)
   (ifT (decide (x_7 = 70)) (onP d_0 fun b_47 o_48 =>
   onM (ld w_44 b_47 ((o_48 + 3) + 0)) fun x_49 =>
   ∃ x_50 : Int, lenM w_44 x_49 = some (.int .i64 x_50) ∧
   ifT (decide (256 ≤ x_50)) (K (.int .i64 5) w_44)
   (J_10 [] w_44))
   (J_10 [] w_44)))) fun J_45 =>
  Cl Try.prog hk 33 [(.str name_1)] w_5 fun r_51 w_52 =>
  ∃ x_53 : Bool, r_51 = (.bool x_53) ∧
  ifT (!x_53) (J_45 [(.bool true)] w_52)
  (∃ x_54 : Int, lenS data_3 = some (.int .i64 x_54) ∧
  ifT (!decide (x_54 = 64)) (J_45 [(.bool true)] w_52)
  (ifT (decide (at_2 < 0)) (J_45 [(.bool true)] w_52)
  (onP d_0 fun b_55 o_56 =>
  onM (ld w_52 b_55 ((o_56 + 3) + 1)) fun x_57 =>
  onM (lookS .nilslice false w_52 x_57 (.int .i64 x_6)) fun x_58 =>
  ∃ x_59 : Int, lenS x_58 = some (.int .i64 x_59) ∧
  ifT (decide (x_59 < at_2)) (J_45 [(.bool true)] w_52)
  (ifT (decide (x_7 = 70)) (J_45 [(.bool (decide (0 < at_2)))] w_52)
  (J_45 [(.bool false)] w_52))))))
def adv9 : Adv := (.sq .lf (.sq .lf (.sj [] (.bl (.sq .lf (.cd (.sq .lf .lf) (.sj [(23, .sc (.bool))] .lf (.cd (.sq .lf .lf) (.sq .lf (.cd (.sq .lf .lf) .lf))))))) (.sq .lf (.sq (.sq .lf (.cd (.sq .lf .lf) .lf)) (.sq .lf (.sq (.sq .lf (.sq .lf (.cd (.sq .lf .lf) .lf))) (.sq .lf (.sq .lf .lf)))))))))
set_option maxRecDepth 100000 in
theorem eq9 (hk : Hook) (d_0 : AV) (name_1 : List UInt8) (at_2 : Int) (data_3 : AV) (w : AW) (K : AV → AW → Prop) : fnS Try.prog hk Try.f9 adv9 [d_0, (.str name_1), (.int .i64 at_2), data_3] w K = F9 hk d_0 name_1 at_2 data_3 w K := by kernel_rfl
theorem in9 {hk : Hook} {d_0 : AV} {name_1 : List UInt8} {at_2 : Int} {data_3 : AV} {w : AW} {K : AV → AW → Prop} (hn : hk 9 [d_0, (.str name_1), (.int .i64 at_2), data_3] w = none) (h : F9 hk d_0 name_1 at_2 data_3 w K) : Cl Try.prog hk 9 [d_0, (.str name_1), (.int .i64 at_2), data_3] w K :=
 fnS_ok Try.func9 hn (by rw [eq9]; exact h)
def F11 (hk : Hook) (d_0 : AV) (name_1 : List UInt8) (w : AW) (K : AV → AW → Prop) : Prop :=
 Cl Try.prog hk 26 [d_0, (.str name_1)] w fun r_2 w_3 =>
 ∃ x_4 : AV, ∃ x_5 : Int, r_2 = .tup [x_4, (.int .i64 x_5)] ∧
 join (fun l_6 w_7 => l_6 = [] ∧ ∀ _ : Nat → AV,
  gd (okCell d_0) (
  gd (List.all [d_0, (.str name_1), .nilslice, .nilslice, (.bool false)] okCell) (
  new w_7 [d_0, (.str name_1), .nilslice, .nilslice, (.bool false)] fun b_9 w_10 =>
  Cl Try.prog hk 35 [x_4] w_10 fun r_11 w_12 =>
  join (fun l_13 w_14 => l_13 = [] ∧ ∀ _ : Nat → AV,
  Cl Try.prog hk 13 [(.ptr b_9 0)] w_14 fun r_16 w_17 =>
  ∃ x_18 : Int, r_16 = (.int .i64 x_18) ∧
  onM (slS 1 r_11 none (some (.int .i64 x_18)) none) fun x_19 =>
  gd (okCell x_19) (
  onM (AW.putCells w_17 b_9 (0 + 2) [x_19]) fun w_20 =>
  join (fun l_21 w_22 => ∃ e_24 : Int, l_21 = [(.int .i64 e_24)] ∧ ∀ _ : Nat → AV,
   ifT (!decide (e_24 = 0)) (K (.tup [.nilptr, (.int .i64 e_24)]) w_22)
   (K (.tup [(.ptr b_9 0), (.int .i64 0)]) w_22)) fun J_23 =>
  onM (ld w_20 b_9 (0 + 2)) fun x_25 =>
  Cl Try.prog hk 37 [x_25] w_20 fun r_26 w_27 =>
  Cl Try.prog hk 36 [r_26, x_4] w_27 fun r_28 w_29 =>
  ∃ x_30 : Bool, r_28 = (.bool x_30) ∧
  ifT (!x_30) (Cl Try.prog hk 38 [(.ptr b_9 0)] w_29 fun r_31 w_32 =>
   ∃ e_33 : Int, r_31 = (.int .i64 e_33) ∧
   J_23 [(.int .i64 e_33)] w_32)
  (J_23 [(.int .i64 0)] w_29))) fun J_15 =>
  loopP [(.int .i64 0)] w_12 fun R_34 l_35 w_36 => ∃ at_37 : Int, l_35 = [(.int .i64 at_37)] ∧ ∀ _ : Nat → AV,
  ∃ x_38 : Int, lenS r_11 = some (.int .i64 x_38) ∧
  ifT (decide ((wi (at_37 + 4)) ≤ x_38)) (atP (idxS 1 r_11 (.int .i64 at_37)) fun b_39 o_40 =>
  ∃ x_41 : Int, ld w_36 b_39 o_40 = some (.int .u8 x_41) ∧
  atP (idxS 1 r_11 (.int .i64 (wi (at_37 + 1)))) fun b_42 o_43 =>
  ∃ x_44 : Int, ld w_36 b_42 o_43 = some (.int .u8 x_44) ∧
  be (bOr .i64 (shlI .i64 (wi x_41) 24) (shlI .i64 (wi x_44) 16)) fun x_45 =>
  atP (idxS 1 r_11 (.int .i64 (wi (at_37 + 2)))) fun b_46 o_47 =>
  ∃ x_48 : Int, ld w_36 b_46 o_47 = some (.int .u8 x_48) ∧
  be (bOr .i64 x_45 (shlI .i64 (wi x_48) 8)) fun x_49 =>
  atP (idxS 1 r_11 (.int .i64 (wi (at_37 + 3)))) fun b_50 o_51 =>
  ∃ x_52 : Int, ld w_36 b_50 o_51 = some (.int .u8 x_52) ∧
  ifT (decide (65536 < (bOr .i64 x_49 (wi x_52)))) (J_15 [] w_36)
  (be (wi ((wi (at_37 + 4)) + (bOr .i64 x_49 (wi x_52)))) fun x_53 =>
  ∃ x_54 : Int, lenS r_11 = some (.int .i64 x_54) ∧
  ifT (decide (x_54 < x_53)) (J_15 [] w_36)
  (be (wi (4 + (bOr .i64 x_49 (wi x_52)))) fun x_55 =>
  onM (ld w_36 b_9 (0 + 3)) fun x_56 =>
  new w_36 [(.int .i64 (wi (at_37 + x_55)))] fun b_57 w_58 =>
  onE (appS 1 8 w_58 x_56 (.slice b_57 0 1 1 none)) fun x_59 w_60 =>
  gd (okCell x_59) (
  onM (AW.putCells w_60 b_9 (0 + 3) [x_59]) fun w_61 =>
  R_34 [(.int .i64 (wi (at_37 + x_55)))] w_61))))
  (J_15 [] w_36)))) fun J_8 =>
 ifT (!decide (x_5 = 0)) (ifT (!decide (x_5 = 70)) (K (.tup [.nilptr, (.int .i64 x_5)]) w_3)
 (J_8 [] w_3))
 (J_8 [] w_3)
def adv11 : Adv := (.sq .lf (.sq .lf (.sj [] (.sq .lf (.cd (.sq .lf .lf) .lf)) (.sq .lf (.sq .lf (.sj [] (.sq .lf (.bl (.lp [(10, .sc (.int .i64))] (.sq (.sq .lf (.cd .lf .lf)) (.bl (.sq .lf (.sq (.sq .lf (.cd .lf .lf)) (.sq .lf .lf)))))))) (.sq .lf (.sj [(7, .sc (.int .i64))] (.sq .lf (.cd .lf .lf)) (.sq (.sq .lf (.cd (.sq .lf .lf) .lf)) (.sq .lf .lf))))))))))
set_option maxRecDepth 100000 in
theorem eq11 (hk : Hook) (d_0 : AV) (name_1 : List UInt8) (w : AW) (K : AV → AW → Prop) : fnS Try.prog hk Try.f11 adv11 [d_0, (.str name_1)] w K = F11 hk d_0 name_1 w K := by kernel_rfl
theorem in11 {hk : Hook} {d_0 : AV} {name_1 : List UInt8} {w : AW} {K : AV → AW → Prop} (hn : hk 11 [d_0, (.str name_1)] w = none) (h : F11 hk d_0 name_1 w K) : Cl Try.prog hk 11 [d_0, (.str name_1)] w K :=
 fnS_ok Try.func11 hn (by rw [eq11]; exact h)
def F13 (hk : Hook) (s_0 : AV) (w : AW) (K : AV → AW → Prop) : Prop :=
 ∃ x_1 : Bool, binOpA Try.prog .eql 29 true s_0 .nilptr = some (.bool x_1) ∧
 ifT x_1 (K (.int .i64 0) w)
 (onP s_0 fun b_2 o_3 =>
 onM (ld w b_2 (o_3 + 3)) fun x_4 =>
 ∃ x_5 : Int, lenS x_4 = some (.int .i64 x_5) ∧
 ifT (decide (x_5 = 0)) (K (.int .i64 0) w)
 (onP s_0 fun b_6 o_7 =>
 onM (ld w b_6 (o_7 + 3)) fun x_8 =>
 onP s_0 fun b_9 o_10 =>
 onM (ld w b_9 (o_10 + 3)) fun x_11 =>
 ∃ x_12 : Int, lenS x_11 = some (.int .i64 x_12) ∧
 atP (idxS 1 x_8 (.int .i64 (wi (x_12 - 1)))) fun b_13 o_14 =>
 ∃ x_15 : Int, ld w b_13 o_14 = some (.int .i64 x_15) ∧
 K (.int .i64 x_15) w))
def adv13 : Adv := (.sq .lf (.sq (.sq .lf (.cd (.sq .lf .lf) .lf)) (.sq .lf .lf)))
set_option maxRecDepth 100000 in
theorem eq13 (hk : Hook) (s_0 : AV) (w : AW) (K : AV → AW → Prop) : fnS Try.prog hk Try.f13 adv13 [s_0] w K = F13 hk s_0 w K := by kernel_rfl
theorem in13 {hk : Hook} {s_0 : AV} {w : AW} {K : AV → AW → Prop} (hn : hk 13 [s_0] w = none) (h : F13 hk s_0 w K) : Cl Try.prog hk 13 [s_0] w K :=
 fnS_ok Try.func13 hn (by rw [eq13]; exact h)
def F16 (hk : Hook) (s_0 : AV) (body_1 : AV) (w : AW) (K : AV → AW → Prop) : Prop :=
 gd (okCell s_0) (
 new w [s_0] fun b_2 w_3 =>
 new w_3 [(.int .i64 0)] fun b_4 w_5 =>
 new w_5 [(.int .i64 0)] fun b_6 w_7 =>
 onM (ld w_7 b_2 0) fun x_8 =>
 Cl Try.prog hk 39 [x_8] w_7 fun r_9 w_10 =>
 ∃ e_11 : Int, r_9 = (.int .i64 e_11) ∧
 ifT (!decide (e_11 = 0)) (onM (AW.putCells w_10 b_4 0 [(.int .i64 0)]) fun w_12 =>
  onM (AW.putCells w_12 b_6 0 [(.int .i64 e_11)]) fun w_13 =>
  ∃ res_14 : Int, ld w_13 b_4 0 = some (.int .i64 res_14) ∧
 ∃ res_15 : Int, ld w_13 b_6 0 = some (.int .i64 res_15) ∧
 K (.tup [(.int .i64 res_14), (.int .i64 res_15)]) w_13)
 (Cl Try.prog hk 40 [body_1] w_10 fun r_16 w_17 =>
 ∃ x_18 : AV, ∃ x_19 : Int, r_16 = .tup [x_18, (.int .i64 x_19)] ∧
 ifT (!decide (x_19 = 0)) (onM (AW.putCells w_17 b_4 0 [(.int .i64 0)]) fun w_20 =>
  onM (AW.putCells w_20 b_6 0 [(.int .i64 x_19)]) fun w_21 =>
  ∃ res_22 : Int, ld w_21 b_4 0 = some (.int .i64 res_22) ∧
 ∃ res_23 : Int, ld w_21 b_6 0 = some (.int .i64 res_23) ∧
 K (.tup [(.int .i64 res_22), (.int .i64 res_23)]) w_21)
 (onM (ld w_17 b_2 0) fun x_24 =>
  onP x_24 fun b_25 o_26 =>
  onM (ld w_17 b_25 (o_26 + 2)) fun x_27 =>
  ∃ x_28 : Int, lenS x_27 = some (.int .i64 x_28) ∧
  ∃ x_29 : Int, lenS x_18 = some (.int .i64 x_29) ∧
  ifT (decide (253952 < (wi (x_28 + x_29)))) (onM (AW.putCells w_17 b_4 0 [(.int .i64 0)]) fun w_30 =>
  onM (AW.putCells w_30 b_6 0 [(.int .i64 5)]) fun w_31 =>
  ∃ res_32 : Int, ld w_31 b_4 0 = some (.int .i64 res_32) ∧
 ∃ res_33 : Int, ld w_31 b_6 0 = some (.int .i64 res_33) ∧
 K (.tup [(.int .i64 res_32), (.int .i64 res_33)]) w_31)
  (onM (ld w_17 b_2 0) fun x_34 =>
 onP x_34 fun b_35 o_36 =>
 onM (ld w_17 b_35 (o_36 + 2)) fun x_37 =>
 gd (okCell x_37) (
 gd (okCell x_18) (
 new w_17 [x_37, x_18] fun b_38 w_39 =>
 Cl Try.prog hk 41 [(.slice b_38 0 2 2 none)] w_39 fun r_40 w_41 =>
 onM (ld w_41 b_2 0) fun x_42 =>
 onP x_42 fun b_43 o_44 =>
 onM (ld w_41 b_43 (o_44 + 2)) fun x_45 =>
 ∃ x_46 : Int, lenS x_45 = some (.int .i64 x_46) ∧
 Cl Try.prog hk 42 [r_40, (.int .i64 (wi (Int.tdiv x_46 62)))] w_41 fun r_47 w_48 =>
 range2 Try.prog hk r_47 w_48 (fun R_49 x_50 y_51 w_52 B_53 => loopAt w_52 (w_48.size + 1) = some R_49 ∧ ∀ w_54 : AW, w_54 = w_52.set (w_48.size + 1) (busyOb R_49) →
  onM (ld w_54 b_2 0) fun x_55 =>
  onM (ld w_54 b_2 0) fun x_56 =>
  onP x_56 fun b_57 o_58 =>
  onM (ld w_54 b_57 (o_58 + 0)) fun x_59 =>
  onM (ld w_54 b_2 0) fun x_60 =>
  onP x_60 fun b_61 o_62 =>
  ∃ x_63 : List UInt8, ld w_54 b_61 (o_62 + 1) = some (.str x_63) ∧
  Cl Try.prog hk 9 [x_59, (.str x_63), x_50, y_51] w_54 fun r_64 w_65 =>
  ∃ x_66 : Int, r_64 = (.int .i64 x_66) ∧
  ld w_65 b_2 0 = some x_55 ∧
  Cl Try.prog hk 43 [x_55, (.int .i64 x_66)] w_65 fun r_67 w_68 =>
  ∃ x_69 : Int, r_67 = (.int .i64 x_69) ∧
  ifT (!decide (x_69 = 0)) (onM (AW.putCells w_68 b_4 0 [(.int .i64 0)]) fun w_70 =>
  onM (AW.putCells w_70 b_6 0 [(.int .i64 x_69)]) fun w_71 =>
  B_53 .ret w_71)
  (B_53 .normal w_68))
 (fun w_72 => onM (ld w_72 b_2 0) fun x_73 =>
 onM (ld w_72 b_2 0) fun x_74 =>
 onM (ld w_72 b_2 0) fun x_75 =>
 onP x_75 fun b_76 o_77 =>
 onM (ld w_72 b_76 (o_77 + 3)) fun x_78 =>
 ∃ x_79 : Int, lenS r_40 = some (.int .i64 x_79) ∧
 new w_72 [(.int .i64 x_79)] fun b_80 w_81 =>
 ld w_81 b_76 (o_77 + 3) = some x_78 ∧
 ld w_81 b_2 0 = some x_75 ∧
 ld w_81 b_2 0 = some x_74 ∧
 ld w_81 b_2 0 = some x_73 ∧
 onE (appS 1 8 w_81 x_78 (.slice b_80 0 1 1 none)) fun x_82 w_83 =>
 ld w_83 b_2 0 = some x_74 ∧
 ld w_83 b_2 0 = some x_73 ∧
 onP x_73 fun b_84 o_85 =>
 gd (okCell r_40) (
 onM (AW.putCells w_83 b_84 (o_85 + 2) [r_40]) fun w_86 =>
 ld w_86 b_2 0 = some x_74 ∧
 onP x_74 fun b_87 o_88 =>
 gd (okCell x_82) (
 onM (AW.putCells w_86 b_87 (o_88 + 3) [x_82]) fun w_89 =>
 onM (ld w_89 b_2 0) fun x_90 =>
 onP x_90 fun b_91 o_92 =>
 onM (ld w_89 b_91 (o_92 + 3)) fun x_93 =>
 ∃ x_94 : Int, lenS x_93 = some (.int .i64 x_94) ∧
 onM (AW.putCells w_89 b_4 0 [(.int .i64 (wi (x_94 - 1)))]) fun w_95 =>
 onM (AW.putCells w_95 b_6 0 [(.int .i64 0)]) fun w_96 =>
 onM (takeAll w_96 [w_48.size]) fun w_97 => ∃ res_98 : Int, ld w_97 b_4 0 = some (.int .i64 res_98) ∧
 ∃ res_99 : Int, ld w_97 b_6 0 = some (.int .i64 res_99) ∧
 K (.tup [(.int .i64 res_98), (.int .i64 res_99)]) w_97)))
 (fun w_72 => onM (takeAll w_72 [w_48.size]) fun w_100 => ∃ res_101 : Int, ld w_100 b_4 0 = some (.int .i64 res_101) ∧
 ∃ res_102 : Int, ld w_100 b_6 0 = some (.int .i64 res_102) ∧
 K (.tup [(.int .i64 res_101), (.int .i64 res_102)]) w_100)))))))
def adv16 : AdvR := (.sq (.of .lf) (.sq (.of (.sq .lf (.sq .lf (.cd (.sq .lf .lf) .lf)))) (.sq (.of .lf) (.sq (.of (.bl (.sq .lf (.cd (.sq .lf .lf) (.sq .lf (.cd (.sq .lf .lf) .lf)))))) (.sq (.of .lf) (.sq (.sq (.of .lf) (.bl (.rg (.sq .lf .lf) (.bl (.sq .lf (.sq .lf (.cd (.sq .lf .lf) .lf))))))) (.of (.sq .lf (.sq .lf .lf)))))))))
set_option maxRecDepth 100000 in
theorem eq16 (hk : Hook) (s_0 : AV) (body_1 : AV) (w : AW) (K : AV → AW → Prop) : fnR Try.prog hk Try.f16 adv16 [s_0, body_1] w K = F16 hk s_0 body_1 w K := by kernel_rfl
theorem in16 {hk : Hook} {s_0 : AV} {body_1 : AV} {w : AW} {K : AV → AW → Prop} (hn : hk 16 [s_0, body_1] w = none) (h : F16 hk s_0 body_1 w K) : Cl Try.prog hk 16 [s_0, body_1] w K :=
 fnR_ok Try.func16 hn (by rw [eq16]; exact h)
def F17 (hk : Hook) (s_0 : AV) (w : AW) (K : AV → AW → Prop) : Prop :=
 Cl Try.prog hk 39 [s_0] w fun r_1 w_2 =>
 ∃ e_3 : Int, r_1 = (.int .i64 e_3) ∧
 ifT (!decide (e_3 = 0)) (K (.int .i64 e_3) w_2)
 (onP s_0 fun b_4 o_5 =>
 onM (ld w_2 b_4 (o_5 + 0)) fun x_6 =>
 onP s_0 fun b_7 o_8 =>
 ∃ x_9 : List UInt8, ld w_2 b_7 (o_8 + 1) = some (.str x_9) ∧
 Cl Try.prog hk 44 [x_6, (.str x_9)] w_2 fun r_10 w_11 =>
 ∃ x_12 : Int, r_10 = (.int .i64 x_12) ∧
 ifT (decide (x_12 = 70)) (K (.int .i64 0) w_11)
 (Cl Try.prog hk 43 [s_0, (.int .i64 x_12)] w_11 fun r_13 w_14 =>
 ∃ x_15 : Int, r_13 = (.int .i64 x_15) ∧
 K (.int .i64 x_15) w_14))
def adv17 : Adv := (.sq .lf (.sq (.sq .lf (.sq .lf (.cd (.sq .lf .lf) .lf))) (.sq .lf (.sq (.sq .lf (.cd (.sq .lf .lf) .lf)) (.sq .lf .lf)))))
set_option maxRecDepth 100000 in
theorem eq17 (hk : Hook) (s_0 : AV) (w : AW) (K : AV → AW → Prop) : fnS Try.prog hk Try.f17 adv17 [s_0] w K = F17 hk s_0 w K := by kernel_rfl
theorem in17 {hk : Hook} {s_0 : AV} {w : AW} {K : AV → AW → Prop} (hn : hk 17 [s_0] w = none) (h : F17 hk s_0 w K) : Cl Try.prog hk 17 [s_0] w K :=
 fnS_ok Try.func17 hn (by rw [eq17]; exact h)
def F18 (hk : Hook) (d_0 : AV) (keep_1 : AV) (w : AW) (K : AV → AW → Prop) : Prop :=
 Cl Try.prog hk 45 [d_0] w fun r_2 w_3 =>
 ∃ x_4 : Bool, r_2 = (.bool x_4) ∧
 ifT x_4 (K (.int .i64 1) w_3)
 (onP d_0 fun b_5 o_6 =>
 onM (ld w_3 b_5 (o_6 + 5)) fun x_7 =>
 ∃ x_8 : Int, lenS x_7 = some (.int .i64 x_8) ∧
 loopP [(.int .i64 0)] w_3 fun R_9 l_10 w_11 => ∃ x_12 : Int, l_10 = [(.int .i64 x_12)] ∧ ∀ _ : Nat → AV,
  ifT (decide (x_12 < x_8)) (atP (idxS 69 x_7 (.int .i64 x_12)) fun b_13 o_14 =>
  onM (ldN 69 w_11 b_13 o_14) fun x_15 =>
  new w_11 (stepC (.int .i64 0) (.int .i64 0) (.int .i64 0) z64 (.str []) (.str [])) fun b_16 w_17 =>
  onA x_15 fun cs_18 => gd (List.all cs_18 okCell) (
  gd (Nat.beq cs_18.length 69) (onM (AW.putCells w_17 b_16 0 cs_18) fun w_19 =>
  ∃ x_20 : Int, lenS keep_1 = some (.int .i64 x_20) ∧
  ifT (decide (x_12 < x_20)) (atP (idxS 1 keep_1 (.int .i64 x_12)) fun b_21 o_22 =>
  ∃ x_23 : Bool, ld w_19 b_21 o_22 = some (.bool x_23) ∧
  ifT x_23 (onP d_0 fun b_24 o_25 =>
  ∃ x_26 : AV, ∃ x_27 : AV, ldN 2 w_19 b_24 (o_25 + 1) = some (.agg [x_26, x_27]) ∧
  onM (ldN 69 w_19 b_16 0) fun x_28 =>
  Cl Try.prog hk 46 [(.agg [x_26, x_27]), x_28] w_19 fun r_29 w_30 =>
  r_29 = .tup [] ∧
  R_9 [(.int .i64 (wi (x_12 + 1)))] w_30)
  (R_9 [(.int .i64 (wi (x_12 + 1)))] w_19))
  (R_9 [(.int .i64 (wi (x_12 + 1)))] w_19))))
  (newMap w_11 fun m_31 w_32 =>
 onP d_0 fun b_33 o_34 =>
 onM (ld w_32 b_33 ((o_34 + 1) + 0)) fun x_35 =>
 rangeK w_32 x_35 fun it_36 w_37 =>
 loopP [] w_37 fun R_38 l_39 w_40 => l_39 = [] ∧ ∀ _ : Nat → AV,
  join (fun l_41 w_42 => ∃ x_44 : Bool, l_41 = [(.bool x_44)] ∧ ∀ _ : Nat → AV,
  ifT x_44 (entryK w_42 it_36 fun k_45 v_46 =>
  onP d_0 fun b_47 o_48 =>
  onM (ld w_42 b_47 ((o_48 + 1) + 1)) fun x_49 =>
  onM (lookR (.int .i64) .nilslice false w_42 x_49 v_46) fun x_50 =>
  onE (kvSetR (.int .i64) w_42 (.map m_31) v_46 x_50) fun r_51 w_52 =>
  R_38 [] w_52)
  (onP d_0 fun b_53 o_54 =>
 onM (AW.putCells w_42 b_53 ((o_54 + 1) + 1) [(.map m_31)]) fun w_55 =>
 onP d_0 fun b_56 o_57 =>
 ∃ x_58 : AV, ∃ x_59 : AV, ldN 2 w_55 b_56 (o_57 + 1) = some (.agg [x_58, x_59]) ∧
 Cl Try.prog hk 47 [(.agg [x_58, x_59])] w_55 fun r_60 w_61 =>
 ∃ x_62 : AV, ∃ x_63 : AV, r_60 = (.agg [x_62, x_63]) ∧
 onP d_0 fun b_64 o_65 =>
 gd (List.all [x_62, x_63] okCell) (
 onM (AW.putCells w_61 b_64 (o_65 + 3) [x_62, x_63]) fun w_66 =>
 onP d_0 fun b_67 o_68 =>
 onM (AW.putCells w_66 b_67 (o_68 + 5) [.nilslice]) fun w_69 =>
 onP d_0 fun b_70 o_71 =>
 onM (AW.putCells w_69 b_70 (o_71 + 7) [(.bool false)]) fun w_72 =>
 onP d_0 fun b_73 o_74 =>
 Cl Try.prog hk 48 [(.ptr b_73 (o_74 + 8)), (.int .i64 0)] w_72 fun r_75 w_76 =>
 r_75 = .tup [] ∧
 onP d_0 fun b_77 o_78 =>
 Cl Try.prog hk 48 [(.ptr b_77 (o_78 + 9)), (.int .i64 0)] w_76 fun r_79 w_80 =>
 r_79 = .tup [] ∧
 K (.int .i64 0) w_80))) fun J_43 =>
  nextK w_40 it_36 (J_43 [(.bool false)] w_40)
  fun k_81 v_82 w_83 =>
  J_43 [(.bool true)] w_83))
def adv18 : Adv := (.sq .lf (.sq (.sq .lf (.cd (.sq .lf .lf) .lf)) (.sq (.sq .lf (.bl (.lp [(17, .sc (.int .i64))] (.sq .lf (.sq (.cd .lf .lf) (.sq (.bl (.sq .lf (.sq .lf (.cd .lf .lf)))) .lf)))))) (.sq .lf (.sq (.sq .lf (.bl (.lp [] (.sj [(47, .sc (.bool))] .lf (.sq (.cd .lf .lf) (.bl (.sq .lf .lf))))))) (.sq .lf (.sq .lf (.sq .lf (.sq .lf (.sq .lf .lf))))))))))
set_option maxRecDepth 100000 in
theorem eq18 (hk : Hook) (d_0 : AV) (keep_1 : AV) (w : AW) (K : AV → AW → Prop) : fnS Try.prog hk Try.f18 adv18 [d_0, keep_1] w K = F18 hk d_0 keep_1 w K := by kernel_rfl
theorem in18 {hk : Hook} {d_0 : AV} {keep_1 : AV} {w : AW} {K : AV → AW → Prop} (hn : hk 18 [d_0, keep_1] w = none) (h : F18 hk d_0 keep_1 w K) : Cl Try.prog hk 18 [d_0, keep_1] w K :=
 fnS_ok Try.func18 hn (by rw [eq18]; exact h)
def F19 (hk : Hook) (s_0 : AV) (i_1 : Int) (w : AW) (K : AV → AW → Prop) : Prop :=
 Cl Try.prog hk 39 [s_0] w fun r_2 w_3 =>
 ∃ x_4 : Int, r_2 = (.int .i64 x_4) ∧
 ifT (decide (x_4 = 1)) (K (.tup [.nilslice, (.int .i64 1)]) w_3)
 (ifT (decide (i_1 < 0)) (K (.tup [.nilslice, (.int .i64 2)]) w_3)
  (onP s_0 fun b_5 o_6 =>
  onM (ld w_3 b_5 (o_6 + 3)) fun x_7 =>
  ∃ x_8 : Int, lenS x_7 = some (.int .i64 x_8) ∧
  ifT (decide (x_8 ≤ i_1)) (K (.tup [.nilslice, (.int .i64 2)]) w_3)
  (onP s_0 fun b_9 o_10 =>
 onM (ld w_3 b_9 (o_10 + 2)) fun x_11 =>
 onP s_0 fun b_12 o_13 =>
 onM (ld w_3 b_12 (o_13 + 3)) fun x_14 =>
 atP (idxS 1 x_14 (.int .i64 i_1)) fun b_15 o_16 =>
 ∃ x_17 : Int, ld w_3 b_15 o_16 = some (.int .i64 x_17) ∧
 Cl Try.prog hk 50 [s_0, (.int .i64 i_1)] w_3 fun r_18 w_19 =>
 ∃ x_20 : Int, r_18 = (.int .i64 x_20) ∧
 ld w_19 b_15 o_16 = some (.int .i64 x_17) ∧
 ld w_19 b_12 (o_13 + 3) = some x_14 ∧
 ld w_19 b_9 (o_10 + 2) = some x_11 ∧
 onM (slS 1 x_11 (some (.int .i64 (wi (x_20 + 4)))) (some (.int .i64 x_17)) none) fun x_21 =>
 Cl Try.prog hk 49 [x_21] w_19 fun r_22 w_23 =>
 K (.tup [r_22, (.int .i64 0)]) w_23)))
def adv19 : Adv := (.sq .lf (.sq (.bl (.sq .lf (.cd (.sq .lf .lf) (.sq .lf (.cd (.sq .lf .lf) .lf))))) (.sq .lf .lf)))
set_option maxRecDepth 100000 in
theorem eq19 (hk : Hook) (s_0 : AV) (i_1 : Int) (w : AW) (K : AV → AW → Prop) : fnS Try.prog hk Try.f19 adv19 [s_0, (.int .i64 i_1)] w K = F19 hk s_0 i_1 w K := by kernel_rfl
theorem in19 {hk : Hook} {s_0 : AV} {i_1 : Int} {w : AW} {K : AV → AW → Prop} (hn : hk 19 [s_0, (.int .i64 i_1)] w = none) (h : F19 hk s_0 i_1 w K) : Cl Try.prog hk 19 [s_0, (.int .i64 i_1)] w K :=
 fnS_ok Try.func19 hn (by rw [eq19]; exact h)
def F22 (hk : Hook) (s_0 : AV) (n_1 : Int) (w : AW) (K : AV → AW → Prop) : Prop :=
 Cl Try.prog hk 39 [s_0] w fun r_2 w_3 =>
 ∃ e_4 : Int, r_2 = (.int .i64 e_4) ∧
 ifT (!decide (e_4 = 0)) (K (.int .i64 e_4) w_3)
 (ifT (decide (n_1 < 0)) (K (.int .i64 2) w_3)
 (onP s_0 fun b_5 o_6 =>
 onM (ld w_3 b_5 (o_6 + 3)) fun x_7 =>
 ∃ x_8 : Int, lenS x_7 = some (.int .i64 x_8) ∧
 ifT (decide (x_8 < n_1)) (K (.int .i64 2) w_3)
 (onP s_0 fun b_9 o_10 =>
  onM (ld w_3 b_9 (o_10 + 3)) fun x_11 =>
  ∃ x_12 : Int, lenS x_11 = some (.int .i64 x_12) ∧
  ifT (decide (n_1 = x_12)) (K (.int .i64 0) w_3)
  (onP s_0 fun b_13 o_14 =>
 onM (ld w_3 b_13 (o_14 + 2)) fun x_15 =>
 Cl Try.prog hk 50 [s_0, (.int .i64 n_1)] w_3 fun r_16 w_17 =>
 ∃ x_18 : Int, r_16 = (.int .i64 x_18) ∧
 ld w_17 b_13 (o_14 + 2) = some x_15 ∧
 onM (slS 1 x_15 none (some (.int .i64 x_18)) none) fun x_19 =>
 Cl Try.prog hk 49 [x_19] w_17 fun r_20 w_21 =>
 onP s_0 fun b_22 o_23 =>
 gd (okCell r_20) (
 onM (AW.putCells w_21 b_22 (o_23 + 2) [r_20]) fun w_24 =>
 onP s_0 fun b_25 o_26 =>
 onM (ld w_24 b_25 (o_26 + 3)) fun x_27 =>
 onM (slS 1 x_27 none (some (.int .i64 n_1)) none) fun x_28 =>
 Cl Try.prog hk 52 [x_28] w_24 fun r_29 w_30 =>
 onP s_0 fun b_31 o_32 =>
 gd (okCell r_29) (
 onM (AW.putCells w_30 b_31 (o_32 + 3) [r_29]) fun w_33 =>
 Cl Try.prog hk 38 [s_0] w_33 fun r_34 w_35 =>
 ∃ x_36 : Int, r_34 = (.int .i64 x_36) ∧
 K (.int .i64 x_36) w_35))))))
def adv22 : Adv := (.sq .lf (.sq (.sq .lf (.sq .lf (.cd (.sq .lf .lf) .lf))) (.sq (.bl (.sq .lf (.cd (.sq .lf .lf) (.sq .lf (.cd (.sq .lf .lf) .lf))))) (.sq .lf (.sq .lf (.sq .lf .lf))))))
set_option maxRecDepth 100000 in
theorem eq22 (hk : Hook) (s_0 : AV) (n_1 : Int) (w : AW) (K : AV → AW → Prop) : fnS Try.prog hk Try.f22 adv22 [s_0, (.int .i64 n_1)] w K = F22 hk s_0 n_1 w K := by kernel_rfl
theorem in22 {hk : Hook} {s_0 : AV} {n_1 : Int} {w : AW} {K : AV → AW → Prop} (hn : hk 22 [s_0, (.int .i64 n_1)] w = none) (h : F22 hk s_0 n_1 w K) : Cl Try.prog hk 22 [s_0, (.int .i64 n_1)] w K :=
 fnS_ok Try.func22 hn (by rw [eq22]; exact h)
def F23 (hk : Hook) (s_0 : AV) (w : AW) (K : AV → AW → Prop) : Prop :=
 ∃ x_1 : Bool, binOpA Try.prog .eql 29 true s_0 .nilptr = some (.bool x_1) ∧
 ifT x_1 (K (.int .i64 0) w)
 (onP s_0 fun b_2 o_3 =>
 onM (ld w b_2 (o_3 + 3)) fun x_4 =>
 ∃ x_5 : Int, lenS x_4 = some (.int .i64 x_5) ∧
 K (.int .i64 x_5) w)
def adv23 : Adv := (.sq .lf (.sq (.sq .lf (.cd (.sq .lf .lf) .lf)) (.sq .lf .lf)))
set_option maxRecDepth 100000 in
theorem eq23 (hk : Hook) (s_0 : AV) (w : AW) (K : AV → AW → Prop) : fnS Try.prog hk Try.f23 adv23 [s_0] w K = F23 hk s_0 w K := by kernel_rfl
theorem in23 {hk : Hook} {s_0 : AV} {w : AW} {K : AV → AW → Prop} (hn : hk 23 [s_0] w = none) (h : F23 hk s_0 w K) : Cl Try.prog hk 23 [s_0] w K :=
 fnS_ok Try.func23 hn (by rw [eq23]; exact h)
def F24 (hk : Hook) (s_0 : AV) (w : AW) (K : AV → AW → Prop) : Prop :=
 Cl Try.prog hk 39 [s_0] w fun r_1 w_2 =>
 ∃ x_3 : Int, r_1 = (.int .i64 x_3) ∧
 K (.bool (decide (x_3 = 4))) w_2
def adv24 : Adv := (.sq .lf (.sq .lf .lf))
set_option maxRecDepth 100000 in
theorem eq24 (hk : Hook) (s_0 : AV) (w : AW) (K : AV → AW → Prop) : fnS Try.prog hk Try.f24 adv24 [s_0] w K = F24 hk s_0 w K := by kernel_rfl
theorem in24 {hk : Hook} {s_0 : AV} {w : AW} {K : AV → AW → Prop} (hn : hk 24 [s_0] w = none) (h : F24 hk s_0 w K) : Cl Try.prog hk 24 [s_0] w K :=
 fnS_ok Try.func24 hn (by rw [eq24]; exact h)
def F25 (hk : Hook) (seed_0 : Int) (n_1 : Int) (w : AW) (K : AV → AW → Prop) : Prop :=
 onM (asN (.int .i64 n_1)) fun n_2 =>
 onM (asN (.int .i64 n_1)) fun n_3 =>
 gd (Nat.ble n_2 n_3 && Nat.ble (n_3 * 1) (2 ^ 47) && Nat.blt n_3 (2 ^ 63) && true) (new w (repl n_3 [(.int .u8 0)]) fun b_4 w_5 =>
 be (IntKind.wrap .u64 ((IntKind.wrap .u64 seed_0) * 2862933555777941757)) fun x_6 =>
 be (IntKind.wrap .u64 (x_6 + 3037000493)) fun x_7 =>
 loopP [(.int .u64 x_7), (.int .i64 0)] w_5 fun R_8 l_9 w_10 => ∃ x_11 : Int, ∃ i_12 : Int, l_9 = [(.int .u64 x_11), (.int .i64 i_12)] ∧ ∀ _ : Nat → AV,
  ifT (decide (i_12 < n_1)) (join (fun l_13 w_14 => ∃ x_16 : Int, l_13 = [(.int .u64 x_16)] ∧ ∀ _ : Nat → AV,
  be (IntKind.wrap .u8 (shrI .u64 x_16 40)) fun x_17 =>
  atP (idxS 1 (.slice b_4 0 n_2 n_3 none) (.int .i64 i_12)) fun b_18 o_19 =>
  onM (AW.putCells w_14 b_18 o_19 [(.int .u8 x_17)]) fun w_20 =>
  R_8 [(.int .u64 x_16), (.int .i64 (wi (i_12 + 1)))] w_20) fun J_15 =>
  ifT (decide ((Int.tmod i_12 8) = 0)) (be (IntKind.wrap .u64 (x_11 * 2862933555777941757)) fun x_21 =>
  be (IntKind.wrap .u64 (x_21 + 3037000493)) fun x_22 =>
  J_15 [(.int .u64 x_22)] w_10)
  (J_15 [(.int .u64 x_11)] w_10))
  (K (.slice b_4 0 n_2 n_3 none) w_10))
def adv25 : Adv := (.sq .lf (.sq .lf (.sq .lf (.sq (.sq .lf (.bl (.lp [(6, .sc (.int .u64)), (7, .sc (.int .i64))] (.sq (.sq .lf (.cd .lf .lf)) (.sq (.bl (.sj [(6, .sc (.int .u64))] (.sq .lf (.cd .lf .lf)) .lf)) .lf))))) (.sq .lf .lf)))))
set_option maxRecDepth 100000 in
theorem eq25 (hk : Hook) (seed_0 : Int) (n_1 : Int) (w : AW) (K : AV → AW → Prop) : fnS Try.prog hk Try.f25 adv25 [(.int .i64 seed_0), (.int .i64 n_1)] w K = F25 hk seed_0 n_1 w K := by kernel_rfl
theorem in25 {hk : Hook} {seed_0 : Int} {n_1 : Int} {w : AW} {K : AV → AW → Prop} (hn : hk 25 [(.int .i64 seed_0), (.int .i64 n_1)] w = none) (h : F25 hk seed_0 n_1 w K) : Cl Try.prog hk 25 [(.int .i64 seed_0), (.int .i64 n_1)] w K :=
 fnS_ok Try.func25 hn (by rw [eq25]; exact h)
def F26 (hk : Hook) (d_0 : AV) (name_1 : List UInt8) (w : AW) (K : AV → AW → Prop) : Prop :=
 Cl Try.prog hk 32 [d_0, (.str name_1)] w fun r_2 w_3 =>
 ∃ x_4 : Int, ∃ x_5 : Int, r_2 = .tup [(.int .i64 x_4), (.int .i64 x_5)] ∧
 ifT (!decide (x_5 = 0)) (K (.tup [.nilslice, (.int .i64 x_5)]) w_3)
 (onP d_0 fun b_6 o_7 =>
  ∃ x_8 : Bool, ld w_3 b_6 (o_7 + 7) = some (.bool x_8) ∧
  ifT x_8 (K (.tup [.nilslice, (.int .i64 6)]) w_3)
  (onP d_0 fun b_9 o_10 =>
 onM (ld w_3 b_9 ((o_10 + 3) + 1)) fun x_11 =>
 onM (lookS .nilslice false w_3 x_11 (.int .i64 x_4)) fun x_12 =>
 ∃ x_13 : Int, lenS x_12 = some (.int .i64 x_13) ∧
 loopP [.nilslice, (.int .i64 0)] w_3 fun R_14 l_15 w_16 => ∃ out_17 : AV, ∃ x_18 : Int, l_15 = [out_17, (.int .i64 x_18)] ∧ ∀ _ : Nat → AV,
  ifT (decide (x_18 < x_13)) (atP (idxS 64 x_12 (.int .i64 x_18)) fun b_19 o_20 =>
  onM (ldN 64 w_16 b_19 o_20) fun x_21 =>
  new w_16 z64 fun b_22 w_23 =>
  onA x_21 fun cs_24 => gd (List.all cs_24 okCell) (
  gd (Nat.beq cs_24.length 64) (onM (AW.putCells w_23 b_22 0 cs_24) fun w_25 =>
  onM (slP 64 1 b_22 0 none none none) fun x_26 =>
  onE (appS 1 1 w_25 out_17 x_26) fun out_27 w_28 =>
  R_14 [out_27, (.int .i64 (wi (x_18 + 1)))] w_28)))
  (K (.tup [out_17, (.int .i64 0)]) w_16)))
def adv26 : Adv := (.sq .lf (.sq .lf (.sq (.bl (.sq .lf (.cd (.sq .lf .lf) (.sq .lf (.cd (.sq .lf .lf) .lf))))) (.sq .lf (.sq (.sq .lf (.bl (.lp [(8, .sc (.opq)), (34, .sc (.int .i64))] (.sq .lf (.sq (.cd .lf .lf) (.sq (.bl (.sq .lf .lf)) .lf)))))) (.sq .lf .lf))))))
set_option maxRecDepth 100000 in
theorem eq26 (hk : Hook) (d_0 : AV) (name_1 : List UInt8) (w : AW) (K : AV → AW → Prop) : fnS Try.prog hk Try.f26 adv26 [d_0, (.str name_1)] w K = F26 hk d_0 name_1 w K := by kernel_rfl
theorem in26 {hk : Hook} {d_0 : AV} {name_1 : List UInt8} {w : AW} {K : AV → AW → Prop} (hn : hk 26 [d_0, (.str name_1)] w = none) (h : F26 hk d_0 name_1 w K) : Cl Try.prog hk 26 [d_0, (.str name_1)] w K :=
 fnS_ok Try.func26 hn (by rw [eq26]; exact h)
def F27 (hk : Hook) (d_0 : AV) (ops_1 : Int) (w : AW) (K : AV → AW → Prop) : Prop :=
 Cl Try.prog hk 45 [d_0] w fun r_2 w_3 =>
 ∃ x_4 : Bool, r_2 = (.bool x_4) ∧
 ifT x_4 (K (.int .i64 1) w_3)
 (ifT (decide (ops_1 < 0)) (K (.int .i64 2) w_3)
  (onP d_0 fun b_5 o_6 =>
 be (wi ((imin ops_1 4611686018427387904) + 1)) fun x_7 =>
 Cl Try.prog hk 48 [(.ptr b_5 (o_6 + 8)), (.int .i64 x_7)] w_3 fun r_8 w_9 =>
 r_8 = .tup [] ∧
 K (.int .i64 0) w_9))
def adv27 : Adv := (.sq .lf (.sq (.bl (.sq .lf (.cd (.sq .lf .lf) (.sq .lf (.cd (.sq .lf .lf) .lf))))) (.sq .lf (.sq .lf .lf))))
set_option maxRecDepth 100000 in
theorem eq27 (hk : Hook) (d_0 : AV) (ops_1 : Int) (w : AW) (K : AV → AW → Prop) : fnS Try.prog hk Try.f27 adv27 [d_0, (.int .i64 ops_1)] w K = F27 hk d_0 ops_1 w K := by kernel_rfl
theorem in27 {hk : Hook} {d_0 : AV} {ops_1 : Int} {w : AW} {K : AV → AW → Prop} (hn : hk 27 [d_0, (.int .i64 ops_1)] w = none) (h : F27 hk d_0 ops_1 w K) : Cl Try.prog hk 27 [d_0, (.int .i64 ops_1)] w K :=
 fnS_ok Try.func27 hn (by rw [eq27]; exact h)
def F31 (hk : Hook)  (w : AW) (K : AV → AW → Prop) : Prop :=
 new w [.nilmap, .nilmap] fun b_0 w_1 =>
 newMap w_1 fun m_2 w_3 =>
 newMap w_3 fun m_4 w_5 =>
 onM (AW.putCells w_5 b_0 0 [(.map m_2), (.map m_4)]) fun w_6 =>
 ∃ res_7 : AV, ∃ res_8 : AV, ldN 2 w_6 b_0 0 = some (.agg [res_7, res_8]) ∧
 K (.agg [res_7, res_8]) w_6
def adv31 : Adv := (.sq .lf (.sq .lf .lf))
set_option maxRecDepth 100000 in
theorem eq31 (hk : Hook)  (w : AW) (K : AV → AW → Prop) : fnS Try.prog hk Try.f31 adv31 [] w K = F31 hk  w K := by kernel_rfl
theorem in31 {hk : Hook} {w : AW} {K : AV → AW → Prop} (hn : hk 31 [] w = none) (h : F31 hk  w K) : Cl Try.prog hk 31 [] w K :=
 fnS_ok Try.func31 hn (by rw [eq31]; exact h)
def F32 (hk : Hook) (d_0 : AV) (name_1 : List UInt8) (w : AW) (K : AV → AW → Prop) : Prop :=
 Cl Try.prog hk 45 [d_0] w fun r_2 w_3 =>
 ∃ x_4 : Bool, r_2 = (.bool x_4) ∧
 ifT x_4 (K (.tup [(.int .i64 0), (.int .i64 1)]) w_3)
 (onP d_0 fun b_5 o_6 =>
 onM (ld w_3 b_5 ((o_6 + 3) + 0)) fun x_7 =>
 ∃ x_8 : Int, ∃ x_9 : Bool, lookS (.int .i64 0) true w_3 x_7 (.str name_1) = some (.tup [(.int .i64 x_8), (.bool x_9)]) ∧
 ifT (!x_9) (K (.tup [(.int .i64 0), (.int .i64 70)]) w_3)
 (K (.tup [(.int .i64 x_8), (.int .i64 0)]) w_3))
def adv32 : Adv := (.sq .lf (.sq (.sq .lf (.cd (.sq .lf .lf) .lf)) (.sq .lf (.sq (.sq .lf (.cd (.sq .lf .lf) .lf)) (.sq .lf .lf)))))
set_option maxRecDepth 100000 in
theorem eq32 (hk : Hook) (d_0 : AV) (name_1 : List UInt8) (w : AW) (K : AV → AW → Prop) : fnS Try.prog hk Try.f32 adv32 [d_0, (.str name_1)] w K = F32 hk d_0 name_1 w K := by kernel_rfl
theorem in32 {hk : Hook} {d_0 : AV} {name_1 : List UInt8} {w : AW} {K : AV → AW → Prop} (hn : hk 32 [d_0, (.str name_1)] w = none) (h : F32 hk d_0 name_1 w K) : Cl Try.prog hk 32 [d_0, (.str name_1)] w K :=
 fnS_ok Try.func32 hn (by rw [eq32]; exact h)
def F33 (hk : Hook) (s_0 : List UInt8) (w : AW) (K : AV → AW → Prop) : Prop :=
 ifT (decide (1 ≤ (Int.ofNat (List.length s_0)))) (K (.bool (decide ((Int.ofNat (List.length s_0)) ≤ 64))) w)
 (K (.bool false) w)
def adv33 : Adv := (.sq .lf (.sq .lf .lf))
set_option maxRecDepth 100000 in
theorem eq33 (hk : Hook) (s_0 : List UInt8) (w : AW) (K : AV → AW → Prop) : fnS Try.prog hk Try.f33 adv33 [(.str s_0)] w K = F33 hk s_0 w K := by kernel_rfl
theorem in33 {hk : Hook} {s_0 : List UInt8} {w : AW} {K : AV → AW → Prop} (hn : hk 33 [(.str s_0)] w = none) (h : F33 hk s_0 w K) : Cl Try.prog hk 33 [(.str s_0)] w K :=
 fnS_ok Try.func33 hn (by rw [eq33]; exact h)
def F34 (hk : Hook) (d_0 : AV) (l_1 : AV) (w : AW) (K : AV → AW → Prop) : Prop :=
 Cl Try.prog hk 55 [d_0] w fun r_2 w_3 =>
 ∃ e_4 : Int, r_2 = (.int .i64 e_4) ∧
 ifT (!decide (e_4 = 0)) (K (.int .i64 e_4) w_3)
 (∃ x_5 : Int, lenS l_1 = some (.int .i64 x_5) ∧
 loopP [(.int .i64 0)] w_3 fun R_6 l_7 w_8 => ∃ x_9 : Int, l_7 = [(.int .i64 x_9)] ∧ ∀ _ : Nat → AV,
  ifT (decide (x_9 < x_5)) (atP (idxS 69 l_1 (.int .i64 x_9)) fun b_10 o_11 =>
  onM (ldN 69 w_8 b_10 o_11) fun x_12 =>
  new w_8 (stepC (.int .i64 0) (.int .i64 0) (.int .i64 0) z64 (.str []) (.str [])) fun b_13 w_14 =>
  onA x_12 fun cs_15 => gd (List.all cs_15 okCell) (
  gd (Nat.beq cs_15.length 69) (onM (AW.putCells w_14 b_13 0 cs_15) fun w_16 =>
  onP d_0 fun b_17 o_18 =>
  onM (ld w_16 b_17 (o_18 + 5)) fun x_19 =>
  onM (ldN 69 w_16 b_13 0) fun x_20 =>
  onA x_20 fun cs_21 => gd (List.all cs_21 okCell) (
  gd (Nat.beq cs_21.length 69 && Nat.ble 69 69) (
  new w_16 (listPut (stepC (.int .i64 0) (.int .i64 0) (.int .i64 0) z64 (.str []) (.str [])) 0 cs_21) fun b_22 w_23 =>
  ldN 69 w_23 b_13 0 = some x_20 ∧
  ld w_23 b_17 (o_18 + 5) = some x_19 ∧
  onE (appS 69 120 w_23 x_19 (.slice b_22 0 1 1 none)) fun x_24 w_25 =>
  onP d_0 fun b_26 o_27 =>
  gd (okCell x_24) (
  onM (AW.putCells w_25 b_26 (o_27 + 5) [x_24]) fun w_28 =>
  onP d_0 fun b_29 o_30 =>
  ∃ x_31 : AV, ∃ x_32 : AV, ldN 2 w_28 b_29 (o_30 + 3) = some (.agg [x_31, x_32]) ∧
  onM (ldN 69 w_28 b_13 0) fun x_33 =>
  Cl Try.prog hk 46 [(.agg [x_31, x_32]), x_33] w_28 fun r_34 w_35 =>
  r_34 = .tup [] ∧
  R_6 [(.int .i64 (wi (x_9 + 1)))] w_35))))))
  (K (.int .i64 0) w_8))
def adv34 : Adv := (.sq .lf (.sq (.sq .lf (.sq .lf (.cd (.sq .lf .lf) .lf))) (.sq (.sq .lf (.bl (.lp [(15, .sc (.int .i64))] (.sq .lf (.sq (.cd .lf .lf) (.sq (.bl (.sq .lf (.sq .lf .lf))) .lf)))))) (.sq .lf .lf))))
set_option maxRecDepth 100000 in
theorem eq34 (hk : Hook) (d_0 : AV) (l_1 : AV) (w : AW) (K : AV → AW → Prop) : fnS Try.prog hk Try.f34 adv34 [d_0, l_1] w K = F34 hk d_0 l_1 w K := by kernel_rfl
theorem in34 {hk : Hook} {d_0 : AV} {l_1 : AV} {w : AW} {K : AV → AW → Prop} (hn : hk 34 [d_0, l_1] w = none) (h : F34 hk d_0 l_1 w K) : Cl Try.prog hk 34 [d_0, l_1] w K :=
 fnS_ok Try.func34 hn (by rw [eq34]; exact h)
def F35 (hk : Hook) (b_0 : AV) (w : AW) (K : AV → AW → Prop) : Prop :=
 loopP [.nilslice, (.int .i64 0)] w fun R_1 l_2 w_3 => ∃ out_4 : AV, ∃ at_5 : Int, l_2 = [out_4, (.int .i64 at_5)] ∧ ∀ _ : Nat → AV,
  ∃ x_6 : Int, lenS b_0 = some (.int .i64 x_6) ∧
  ifT (decide ((wi (at_5 + 64)) ≤ x_6)) (atP (idxS 1 b_0 (.int .i64 at_5)) fun b_7 o_8 =>
  ∃ x_9 : Int, ld w_3 b_7 o_8 = some (.int .u8 x_9) ∧
  join (fun l_10 w_11 => ∃ n_13 : Int, l_10 = [(.int .i64 n_13)] ∧ ∀ _ : Nat → AV,
  onM (slS 1 b_0 (some (.int .i64 (wi (at_5 + 2)))) (some (.int .i64 (wi ((wi (at_5 + 2)) + n_13)))) none) fun x_14 =>
  onE (appS 1 1 w_11 out_4 x_14) fun out_15 w_16 =>
  ifT (decide (n_13 < 62)) (K out_15 w_16)
  (R_1 [out_15, (.int .i64 (wi (at_5 + 64)))] w_16)) fun J_12 =>
  ifT (decide (62 < (wi x_9))) (J_12 [(.int .i64 0)] w_3)
  (J_12 [(.int .i64 (wi x_9))] w_3))
  (K out_4 w_3)
def adv35 : Adv := (.sq .lf (.sq .lf (.sq (.sq .lf (.bl (.lp [(3, .sc (.opq)), (4, .sc (.int .i64))] (.sq (.sq .lf (.cd .lf .lf)) (.sq (.bl (.sq .lf (.sj [(5, .sc (.int .i64))] (.sq .lf (.cd .lf .lf)) (.sq .lf (.sq .lf (.cd .lf .lf)))))) .lf))))) (.sq .lf .lf))))
set_option maxRecDepth 100000 in
theorem eq35 (hk : Hook) (b_0 : AV) (w : AW) (K : AV → AW → Prop) : fnS Try.prog hk Try.f35 adv35 [b_0] w K = F35 hk b_0 w K := by kernel_rfl
theorem in35 {hk : Hook} {b_0 : AV} {w : AW} {K : AV → AW → Prop} (hn : hk 35 [b_0] w = none) (h : F35 hk b_0 w K) : Cl Try.prog hk 35 [b_0] w K :=
 fnS_ok Try.func35 hn (by rw [eq35]; exact h)
def F36 (hk : Hook) (s1_0 : AV) (s2_1 : AV) (w : AW) (K : AV → AW → Prop) : Prop :=
 ∃ x_2 : Int, lenS s1_0 = some (.int .i64 x_2) ∧
 ∃ x_3 : Int, lenS s2_1 = some (.int .i64 x_3) ∧
 ifT (!decide (x_2 = x_3)) (K (.bool false) w)
 (∃ x_4 : Int, lenS s1_0 = some (.int .i64 x_4) ∧
 loopP [(.int .i64 0)] w fun R_5 l_6 w_7 => ∃ x_8 : Int, l_6 = [(.int .i64 x_8)] ∧ ∀ _ : Nat → AV,
  ifT (decide (x_8 < x_4)) (atP (idxS 1 s1_0 (.int .i64 x_8)) fun b_9 o_10 =>
  ∃ x_11 : Int, ld w_7 b_9 o_10 = some (.int .u8 x_11) ∧
  atP (idxS 1 s2_1 (.int .i64 x_8)) fun b_12 o_13 =>
  ∃ x_14 : Int, ld w_7 b_12 o_13 = some (.int .u8 x_14) ∧
  ifT (!decide (x_11 = x_14)) (K (.bool false) w_7)
  (R_5 [(.int .i64 (wi (x_8 + 1)))] w_7))
  (K (.bool true) w_7))
def adv36 : Adv := (.sq .lf (.sq (.sq .lf (.cd (.sq .lf .lf) .lf)) (.sq (.sq .lf (.bl (.lp [(13, .sc (.int .i64))] (.sq .lf (.sq (.cd .lf .lf) (.sq (.bl (.sq .lf (.sq .lf (.cd (.sq .lf .lf) .lf)))) .lf)))))) (.sq .lf .lf))))
set_option maxRecDepth 100000 in
theorem eq36 (hk : Hook) (s1_0 : AV) (s2_1 : AV) (w : AW) (K : AV → AW → Prop) : fnS Try.prog hk Try.f36 adv36 [s1_0, s2_1] w K = F36 hk s1_0 s2_1 w K := by kernel_rfl
theorem in36 {hk : Hook} {s1_0 : AV} {s2_1 : AV} {w : AW} {K : AV → AW → Prop} (hn : hk 36 [s1_0, s2_1] w = none) (h : F36 hk s1_0 s2_1 w K) : Cl Try.prog hk 36 [s1_0, s2_1] w K :=
 fnS_ok Try.func36 hn (by rw [eq36]; exact h)
def F37 (hk : Hook) (b_0 : AV) (w : AW) (K : AV → AW → Prop) : Prop :=
 new w [.nilslice] fun b_1 w_2 =>
 Cl Try.prog hk 42 [b_0, (.int .i64 0)] w_2 fun r_3 w_4 =>
 range2 Try.prog hk r_3 w_4 (fun R_5 x_6 y_7 w_8 B_9 => loopAt w_8 (w_4.size + 1) = some R_5 ∧ ∀ w_10 : AW, w_10 = w_8.set (w_4.size + 1) (busyOb R_5) →
  onM (ld w_10 b_1 0) fun x_11 =>
  onE (appS 1 1 w_10 x_11 y_7) fun x_12 w_13 =>
  gd (okCell x_12) (
  onM (AW.putCells w_13 b_1 0 [x_12]) fun w_14 =>
  B_9 .normal w_14))
 (fun w_15 => onM (ld w_15 b_1 0) fun x_16 =>
 onM (takeAll w_15 [w_4.size]) fun w_17 => K x_16 w_17)
 (fun w_15 => onM (takeAll w_15 [w_4.size]) fun w_18 => K .nilslice w_18)
def adv37 : AdvR := (.sq (.of .lf) (.sq (.of .lf) (.sq (.sq (.of .lf) (.bl (.rg .lf (.bl .lf)))) (.of (.sq .lf .lf)))))
set_option maxRecDepth 100000 in
theorem eq37 (hk : Hook) (b_0 : AV) (w : AW) (K : AV → AW → Prop) : fnR Try.prog hk Try.f37 adv37 [b_0] w K = F37 hk b_0 w K := by kernel_rfl
theorem in37 {hk : Hook} {b_0 : AV} {w : AW} {K : AV → AW → Prop} (hn : hk 37 [b_0] w = none) (h : F37 hk b_0 w K) : Cl Try.prog hk 37 [b_0] w K :=
 fnR_ok Try.func37 hn (by rw [eq37]; exact h)
def F38 (hk : Hook) (s_0 : AV) (w : AW) (K : AV → AW → Prop) : Prop :=
 gd (okCell s_0) (
 new w [s_0] fun b_1 w_2 =>
 new w_2 [(.int .i64 0)] fun b_3 w_4 =>
 onM (ld w_4 b_1 0) fun x_5 =>
 onP x_5 fun b_6 o_7 =>
 onM (ld w_4 b_6 (o_7 + 2)) fun x_8 =>
 ∃ x_9 : Int, lenS x_8 = some (.int .i64 x_9) ∧
 new w_4 [(.int .i64 0)] fun b_10 w_11 =>
 onM (AW.putCells w_11 b_10 0 [(.int .i64 (wi (Int.tdiv x_9 62)))]) fun w_12 =>
 onM (ld w_12 b_1 0) fun x_13 =>
 onP x_13 fun b_14 o_15 =>
 onM (ld w_12 b_14 (o_15 + 2)) fun x_16 =>
 Cl Try.prog hk 42 [x_16, (.int .i64 (wi (Int.tdiv x_9 62)))] w_12 fun r_17 w_18 =>
 range2 Try.prog hk r_17 w_18 (fun R_19 x_20 y_21 w_22 B_23 => loopAt w_22 (w_18.size + 1) = some R_19 ∧ ∀ w_24 : AW, w_24 = w_22.set (w_18.size + 1) (busyOb R_19) →
  onM (ld w_24 b_1 0) fun x_25 =>
  onM (ld w_24 b_1 0) fun x_26 =>
  onP x_26 fun b_27 o_28 =>
  onM (ld w_24 b_27 (o_28 + 0)) fun x_29 =>
  onM (ld w_24 b_1 0) fun x_30 =>
  onP x_30 fun b_31 o_32 =>
  ∃ x_33 : List UInt8, ld w_24 b_31 (o_32 + 1) = some (.str x_33) ∧
  Cl Try.prog hk 9 [x_29, (.str x_33), x_20, y_21] w_24 fun r_34 w_35 =>
  ∃ x_36 : Int, r_34 = (.int .i64 x_36) ∧
  ld w_35 b_1 0 = some x_25 ∧
  Cl Try.prog hk 43 [x_25, (.int .i64 x_36)] w_35 fun r_37 w_38 =>
  ∃ x_39 : Int, r_37 = (.int .i64 x_39) ∧
  ifT (!decide (x_39 = 0)) (onM (AW.putCells w_38 b_3 0 [(.int .i64 x_39)]) fun w_40 =>
  B_23 .ret w_40)
  (∃ x_41 : Int, ld w_38 b_10 0 = some (.int .i64 x_41) ∧
  onM (AW.putCells w_38 b_10 0 [(.int .i64 (wi (x_41 + 1)))]) fun w_42 =>
  B_23 .normal w_42))
 (fun w_43 => onM (ld w_43 b_1 0) fun x_44 =>
 onM (ld w_43 b_1 0) fun x_45 =>
 onP x_45 fun b_46 o_47 =>
 onM (ld w_43 b_46 (o_47 + 0)) fun x_48 =>
 onM (ld w_43 b_1 0) fun x_49 =>
 onP x_49 fun b_50 o_51 =>
 ∃ x_52 : List UInt8, ld w_43 b_50 (o_51 + 1) = some (.str x_52) ∧
 ∃ x_53 : Int, ld w_43 b_10 0 = some (.int .i64 x_53) ∧
 Cl Try.prog hk 56 [x_48, (.str x_52), (.int .i64 x_53)] w_43 fun r_54 w_55 =>
 ∃ x_56 : Int, r_54 = (.int .i64 x_56) ∧
 ld w_55 b_1 0 = some x_44 ∧
 Cl Try.prog hk 43 [x_44, (.int .i64 x_56)] w_55 fun r_57 w_58 =>
 ∃ x_59 : Int, r_57 = (.int .i64 x_59) ∧
 ifT (!decide (x_59 = 0)) (onM (AW.putCells w_58 b_3 0 [(.int .i64 x_59)]) fun w_60 =>
  onM (takeAll w_60 [w_18.size]) fun w_61 => ∃ res_62 : Int, ld w_61 b_3 0 = some (.int .i64 res_62) ∧
 K (.int .i64 res_62) w_61)
 (onM (ld w_58 b_1 0) fun x_63 =>
 onM (ld w_58 b_1 0) fun x_64 =>
 onP x_64 fun b_65 o_66 =>
 onM (ld w_58 b_65 (o_66 + 0)) fun x_67 =>
 onM (ld w_58 b_1 0) fun x_68 =>
 onP x_68 fun b_69 o_70 =>
 ∃ x_71 : List UInt8, ld w_58 b_69 (o_70 + 1) = some (.str x_71) ∧
 Cl Try.prog hk 44 [x_67, (.str x_71)] w_58 fun r_72 w_73 =>
 ∃ x_74 : Int, r_72 = (.int .i64 x_74) ∧
 ld w_73 b_1 0 = some x_63 ∧
 Cl Try.prog hk 43 [x_63, (.int .i64 x_74)] w_73 fun r_75 w_76 =>
 ∃ x_77 : Int, r_75 = (.int .i64 x_77) ∧
 onM (AW.putCells w_76 b_3 0 [(.int .i64 x_77)]) fun w_78 =>
 onM (takeAll w_78 [w_18.size]) fun w_79 => ∃ res_80 : Int, ld w_79 b_3 0 = some (.int .i64 res_80) ∧
 K (.int .i64 res_80) w_79))
 (fun w_43 => onM (takeAll w_43 [w_18.size]) fun w_81 => ∃ res_82 : Int, ld w_81 b_3 0 = some (.int .i64 res_82) ∧
 K (.int .i64 res_82) w_81))
def adv38 : AdvR := (.sq (.of .lf) (.sq (.of .lf) (.sq (.of .lf) (.sq (.sq (.of .lf) (.bl (.rg (.sq .lf .lf) (.bl (.sq (.sq .lf (.sq .lf (.cd (.sq .lf .lf) .lf))) .lf))))) (.of (.sq (.sq .lf (.sq .lf (.cd (.sq .lf .lf) .lf))) (.sq .lf .lf)))))))
set_option maxRecDepth 100000 in
theorem eq38 (hk : Hook) (s_0 : AV) (w : AW) (K : AV → AW → Prop) : fnR Try.prog hk Try.f38 adv38 [s_0] w K = F38 hk s_0 w K := by kernel_rfl
theorem in38 {hk : Hook} {s_0 : AV} {w : AW} {K : AV → AW → Prop} (hn : hk 38 [s_0] w = none) (h : F38 hk s_0 w K) : Cl Try.prog hk 38 [s_0] w K :=
 fnR_ok Try.func38 hn (by rw [eq38]; exact h)
def F39 (hk : Hook) (s_0 : AV) (w : AW) (K : AV → AW → Prop) : Prop :=
 ∃ x_1 : Bool, binOpA Try.prog .eql 29 true s_0 .nilptr = some (.bool x_1) ∧
 ifT x_1 (K (.int .i64 1) w)
 (onP s_0 fun b_2 o_3 =>
 onM (ld w b_2 (o_3 + 0)) fun x_4 =>
 ∃ x_5 : Bool, binOpA Try.prog .eql 24 true x_4 .nilptr = some (.bool x_5) ∧
 ifT x_5 (K (.int .i64 1) w)
 (onP s_0 fun b_6 o_7 =>
  ∃ x_8 : Bool, ld w b_6 (o_7 + 4) = some (.bool x_8) ∧
  ifT x_8 (K (.int .i64 4) w)
  (K (.int .i64 0) w)))
def adv39 : Adv := (.sq .lf (.sq (.bl (.sq .lf (.cd (.sq .lf .lf) (.sq .lf (.cd (.sq .lf .lf) .lf))))) (.sq .lf .lf)))
set_option maxRecDepth 100000 in
theorem eq39 (hk : Hook) (s_0 : AV) (w : AW) (K : AV → AW → Prop) : fnS Try.prog hk Try.f39 adv39 [s_0] w K = F39 hk s_0 w K := by kernel_rfl
theorem in39 {hk : Hook} {s_0 : AV} {w : AW} {K : AV → AW → Prop} (hn : hk 39 [s_0] w = none) (h : F39 hk s_0 w K) : Cl Try.prog hk 39 [s_0] w K :=
 fnS_ok Try.func39 hn (by rw [eq39]; exact h)
def F40 (hk : Hook) (body_0 : AV) (w : AW) (K : AV → AW → Prop) : Prop :=
 ∃ x_1 : Int, lenS body_0 = some (.int .i64 x_1) ∧
 ifT (decide (65536 < x_1)) (K (.tup [.nilslice, (.int .i64 3)]) w)
 (∃ x_2 : Int, lenS body_0 = some (.int .i64 x_2) ∧
 Cl Try.prog hk 57 [.nilslice, (.int .u32 (IntKind.wrap .u32 x_2))] w fun r_3 w_4 =>
 onE (appS 1 1 w_4 r_3 body_0) fun x_5 w_6 =>
 K (.tup [x_5, (.int .i64 0)]) w_6)
def adv40 : Adv := (.sq .lf (.sq (.sq .lf (.cd (.sq .lf .lf) .lf)) (.sq .lf .lf)))
set_option maxRecDepth 100000 in
theorem eq40 (hk : Hook) (body_0 : AV) (w : AW) (K : AV → AW → Prop) : fnS Try.prog hk Try.f40 adv40 [body_0] w K = F40 hk body_0 w K := by kernel_rfl
theorem in40 {hk : Hook} {body_0 : AV} {w : AW} {K : AV → AW → Prop} (hn : hk 40 [body_0] w = none) (h : F40 hk body_0 w K) : Cl Try.prog hk 40 [body_0] w K :=
 fnS_ok Try.func40 hn (by rw [eq40]; exact h)
def F41 (hk : Hook) (slices_0 : AV) (w : AW) (K : AV → AW → Prop) : Prop :=
 ∃ x_1 : Int, lenS slices_0 = some (.int .i64 x_1) ∧
 loopP [(.int .i64 0), (.int .i64 0)] w fun R_2 l_3 w_4 => ∃ size_5 : Int, ∃ x_6 : Int, l_3 = [(.int .i64 size_5), (.int .i64 x_6)] ∧ ∀ _ : Nat → AV,
  ifT (decide (x_6 < x_1)) (atP (idxS 1 slices_0 (.int .i64 x_6)) fun b_7 o_8 =>
  onM (ld w_4 b_7 o_8) fun s_9 =>
  ∃ x_10 : Int, lenS s_9 = some (.int .i64 x_10) ∧
  ifT (decide ((wi (size_5 + x_10)) < 0)) (False)
  (R_2 [(.int .i64 (wi (size_5 + x_10))), (.int .i64 (wi (x_6 + 1)))] w_4))
  (Cl Try.prog hk 58 [.nilslice, (.int .i64 size_5)] w_4 fun r_11 w_12 =>
 ∃ x_13 : Int, lenS slices_0 = some (.int .i64 x_13) ∧
 loopP [r_11, (.int .i64 0)] w_12 fun R_14 l_15 w_16 => ∃ newslice_17 : AV, ∃ x_18 : Int, l_15 = [newslice_17, (.int .i64 x_18)] ∧ ∀ _ : Nat → AV,
  ifT (decide (x_18 < x_13)) (atP (idxS 1 slices_0 (.int .i64 x_18)) fun b_19 o_20 =>
  onM (ld w_16 b_19 o_20) fun s_21 =>
  onE (appS 1 1 w_16 newslice_17 s_21) fun newslice_22 w_23 =>
  R_14 [newslice_22, (.int .i64 (wi (x_18 + 1)))] w_23)
  (K newslice_17 w_16))
def adv41 : Adv := (.sq .lf (.sq .lf (.sq (.sq .lf (.bl (.lp [(3, .sc (.int .i64)), (11, .sc (.int .i64))] (.sq .lf (.sq (.cd .lf .lf) (.sq (.bl (.sq .lf (.sq .lf (.sq .lf (.cd .lf .lf))))) .lf)))))) (.sq .lf (.sq (.sq .lf (.bl (.lp [(6, .sc (.opq)), (27, .sc (.int .i64))] (.sq .lf (.sq (.cd .lf .lf) (.sq (.bl (.sq .lf .lf)) .lf)))))) (.sq .lf .lf))))))
set_option maxRecDepth 100000 in
theorem eq41 (hk : Hook) (slices_0 : AV) (w : AW) (K : AV → AW → Prop) : fnS Try.prog hk Try.f41 adv41 [slices_0] w K = F41 hk slices_0 w K := by kernel_rfl
theorem in41 {hk : Hook} {slices_0 : AV} {w : AW} {K : AV → AW → Prop} (hn : hk 41 [slices_0] w = none) (h : F41 hk slices_0 w K) : Cl Try.prog hk 41 [slices_0] w K :=
 fnS_ok Try.func41 hn (by rw [eq41]; exact h)
def F42 (hk : Hook) (b_0 : AV) (from_1 : Int) (w : AW) (K : AV → AW → Prop) : Prop :=
 gd (okCell b_0) (
 new w [b_0] fun b_2 w_3 =>
 new w_3 [(.int .i64 from_1)] fun b_4 w_5 =>
 K (.func 59 [] [(.ptr b_4 0), (.ptr b_2 0)]) w_5)
def adv42 : Adv := (.sq .lf (.sq .lf .lf))
set_option maxRecDepth 100000 in
theorem eq42 (hk : Hook) (b_0 : AV) (from_1 : Int) (w : AW) (K : AV → AW → Prop) : fnS Try.prog hk Try.f42 adv42 [b_0, (.int .i64 from_1)] w K = F42 hk b_0 from_1 w K := by kernel_rfl
theorem in42 {hk : Hook} {b_0 : AV} {from_1 : Int} {w : AW} {K : AV → AW → Prop} (hn : hk 42 [b_0, (.int .i64 from_1)] w = none) (h : F42 hk b_0 from_1 w K) : Cl Try.prog hk 42 [b_0, (.int .i64 from_1)] w K :=
 fnS_ok Try.func42 hn (by rw [eq42]; exact h)
def F43 (hk : Hook) (s_0 : AV) (e_1 : Int) (w : AW) (K : AV → AW → Prop) : Prop :=
 ifT (!decide (e_1 = 0)) (onP s_0 fun b_2 o_3 =>
  onM (AW.putCells w b_2 (o_3 + 4) [(.bool true)]) fun w_4 =>
  K (.int .i64 e_1) w_4)
 (K (.int .i64 e_1) w)
def adv43 : Adv := (.sq .lf (.sq (.sq .lf (.cd .lf .lf)) (.sq .lf .lf)))
set_option maxRecDepth 100000 in
theorem eq43 (hk : Hook) (s_0 : AV) (e_1 : Int) (w : AW) (K : AV → AW → Prop) : fnS Try.prog hk Try.f43 adv43 [s_0, (.int .i64 e_1)] w K = F43 hk s_0 e_1 w K := by kernel_rfl
theorem in43 {hk : Hook} {s_0 : AV} {e_1 : Int} {w : AW} {K : AV → AW → Prop} (hn : hk 43 [s_0, (.int .i64 e_1)] w = none) (h : F43 hk s_0 e_1 w K) : Cl Try.prog hk 43 [s_0, (.int .i64 e_1)] w K :=
 fnS_ok Try.func43 hn (by rw [eq43]; exact h)
def F44 (hk : Hook) (d_0 : AV) (name_1 : List UInt8) (w : AW) (K : AV → AW → Prop) : Prop :=
 Cl Try.prog hk 32 [d_0, (.str name_1)] w fun r_2 w_3 =>
 ∃ x_4 : Int, ∃ x_5 : Int, r_2 = .tup [(.int .i64 x_4), (.int .i64 x_5)] ∧
 new w_3 [(.int .i64 0)] fun b_6 w_7 =>
 onM (AW.putCells w_7 b_6 0 [(.int .i64 x_4)]) fun w_8 =>
 ifT (!decide (x_5 = 0)) (K (.int .i64 x_5) w_8)
 (onP d_0 fun b_9 o_10 =>
 onM (ld w_8 b_9 (o_10 + 5)) fun x_11 =>
 Cl Try.prog hk 60 [x_11, (.func 61 [] [(.ptr b_6 0)])] w_8 fun r_12 w_13 =>
 ∃ x_14 : Int, r_12 = (.int .i64 x_14) ∧
 new w_13 [(.int .i64 0)] fun b_15 w_16 =>
 onM (AW.putCells w_16 b_15 0 [(.int .i64 x_14)]) fun w_17 =>
 Cl Try.prog hk 62 [d_0, (.func 63 [] [(.ptr b_6 0), (.ptr b_15 0)])] w_17 fun r_18 w_19 =>
 ∃ x_20 : Int, r_18 = (.int .i64 x_20) ∧
 K (.int .i64 x_20) w_19)
def adv44 : Adv := (.sq .lf (.sq .lf (.sq (.sq .lf (.cd (.sq .lf .lf) .lf)) (.sq .lf (.sq .lf .lf)))))
set_option maxRecDepth 100000 in
theorem eq44 (hk : Hook) (d_0 : AV) (name_1 : List UInt8) (w : AW) (K : AV → AW → Prop) : fnS Try.prog hk Try.f44 adv44 [d_0, (.str name_1)] w K = F44 hk d_0 name_1 w K := by kernel_rfl
theorem in44 {hk : Hook} {d_0 : AV} {name_1 : List UInt8} {w : AW} {K : AV → AW → Prop} (hn : hk 44 [d_0, (.str name_1)] w = none) (h : F44 hk d_0 name_1 w K) : Cl Try.prog hk 44 [d_0, (.str name_1)] w K :=
 fnS_ok Try.func44 hn (by rw [eq44]; exact h)
def F45 (hk : Hook) (d_0 : AV) (w : AW) (K : AV → AW → Prop) : Prop :=
 ∃ x_1 : Bool, binOpA Try.prog .eql 24 true d_0 .nilptr = some (.bool x_1) ∧
 ifT x_1 (K (.bool true) w)
 (onP d_0 fun b_2 o_3 =>
 ∃ x_4 : Bool, ld w b_2 (o_3 + 0) = some (.bool x_4) ∧
 K (.bool (!x_4)) w)
def adv45 : Adv := (.sq .lf (.sq .lf .lf))
set_option maxRecDepth 100000 in
theorem eq45 (hk : Hook) (d_0 : AV) (w : AW) (K : AV → AW → Prop) : fnS Try.prog hk Try.f45 adv45 [d_0] w K = F45 hk d_0 w K := by kernel_rfl
theorem in45 {hk : Hook} {d_0 : AV} {w : AW} {K : AV → AW → Prop} (hn : hk 45 [d_0] w = none) (h : F45 hk d_0 w K) : Cl Try.prog hk 45 [d_0] w K :=
 fnS_ok Try.func45 hn (by rw [eq45]; exact h)
def F46 (hk : Hook) (s_0 : AV) (s_1 : AV) (x_2 : AV) (w : AW) (K : AV → AW → Prop) : Prop :=
 gd (List.all [s_0, s_1] okCell) (
 new w [s_0, s_1] fun b_3 w_4 =>
 onA x_2 fun cs_5 => gd (List.all cs_5 okCell) (
 new w_4 cs_5 fun b_6 w_7 =>
 onM (ld w_7 b_3 (0 + 0)) fun x_8 =>
 ∃ x_9 : List UInt8, ld w_7 b_6 (0 + 67) = some (.str x_9) ∧
 ∃ x_10 : Int, ∃ x_11 : Bool, lookS (.int .i64 0) true w_7 x_8 (.str x_9) = some (.tup [(.int .i64 x_10), (.bool x_11)]) ∧
 onM (ld w_7 b_3 (0 + 1)) fun x_12 =>
 ∃ x_13 : Int, ld w_7 b_6 (0 + 1) = some (.int .i64 x_13) ∧
 onM (lookS .nilslice false w_7 x_12 (.int .i64 x_13)) fun l_14 =>
 ∃ x_15 : Int, ld w_7 b_6 (0 + 0) = some (.int .i64 x_15) ∧
 ifT (decide (x_15 = 0)) (onM (ld w_7 b_3 (0 + 0)) fun x_16 =>
  ∃ x_17 : List UInt8, ld w_7 b_6 (0 + 67) = some (.str x_17) ∧
  ∃ x_18 : Int, ld w_7 b_6 (0 + 1) = some (.int .i64 x_18) ∧
  onE (kvSet w_7 x_16 (.str x_17) (.int .i64 x_18)) fun r_19 w_20 =>
  K (.tup []) w_20)
 (ifT (decide (x_15 = 1)) (Cl Try.prog hk 64 [l_14] w_7 fun r_21 w_22 =>
  loopP [r_21] w_22 fun R_23 l_24 w_25 => ∃ l_26 : AV, l_24 = [l_26] ∧ ∀ _ : Nat → AV,
   ∃ x_27 : Int, lenS l_26 = some (.int .i64 x_27) ∧
   ∃ x_28 : Int, ld w_25 b_6 (0 + 2) = some (.int .i64 x_28) ∧
   ifT (decide (x_27 ≤ x_28)) (new w_25 z64 fun b_29 w_30 =>
   onE (appS 64 64 w_30 l_26 (.slice b_29 0 1 1 none)) fun l_31 w_32 =>
   R_23 [l_31] w_32)
   (∃ x_33 : Int, ld w_25 b_6 (0 + 2) = some (.int .i64 x_33) ∧
  onM (ldN 64 w_25 b_6 (0 + 3)) fun x_34 =>
  atP (idxS 64 l_26 (.int .i64 x_33)) fun b_35 o_36 =>
  onA x_34 fun cs_37 => gd (List.all cs_37 okCell) (
  gd (Nat.beq cs_37.length 64) (onM (AW.putCells w_25 b_35 o_36 cs_37) fun w_38 =>
  onM (ld w_38 b_3 (0 + 1)) fun x_39 =>
  ∃ x_40 : Int, ld w_38 b_6 (0 + 1) = some (.int .i64 x_40) ∧
  onE (kvSet w_38 x_39 (.int .i64 x_40) l_26) fun r_41 w_42 =>
  K (.tup []) w_42))))
  (ifT (decide (x_15 = 2)) (onM (ld w_7 b_3 (0 + 1)) fun x_43 =>
   ∃ x_44 : Int, ld w_7 b_6 (0 + 1) = some (.int .i64 x_44) ∧
   ∃ x_45 : Int, lenS l_14 = some (.int .i64 x_45) ∧
   ∃ x_46 : Int, ld w_7 b_6 (0 + 2) = some (.int .i64 x_46) ∧
   onM (slS 64 l_14 none (some (.int .i64 (imin x_45 x_46))) none) fun x_47 =>
   Cl Try.prog hk 64 [x_47] w_7 fun r_48 w_49 =>
   ld w_49 b_6 (0 + 1) = some (.int .i64 x_44) ∧
   ld w_49 b_3 (0 + 1) = some x_43 ∧
   onE (kvSet w_49 x_43 (.int .i64 x_44) r_48) fun r_50 w_51 =>
   K (.tup []) w_51)
  (ifT (!x_11) (K (.tup []) w_7)
   (∃ x_52 : Int, ld w_7 b_6 (0 + 1) = some (.int .i64 x_52) ∧
   ifT (!decide (x_10 = x_52)) (K (.tup []) w_7)
   (onM (ld w_7 b_3 (0 + 0)) fun x_53 =>
   ∃ x_54 : List UInt8, ld w_7 b_6 (0 + 67) = some (.str x_54) ∧
   onE (kvDel w_7 x_53 (.str x_54)) fun r_55 w_56 =>
   ∃ x_57 : Int, ld w_56 b_6 (0 + 0) = some (.int .i64 x_57) ∧
   ifT (decide (x_57 = 3)) (onM (ld w_56 b_3 (0 + 0)) fun x_58 =>
   ∃ x_59 : List UInt8, ld w_56 b_6 (0 + 68) = some (.str x_59) ∧
   ∃ x_60 : Int, ld w_56 b_6 (0 + 1) = some (.int .i64 x_60) ∧
   onE (kvSet w_56 x_58 (.str x_59) (.int .i64 x_60)) fun r_61 w_62 =>
   K (.tup []) w_62)
   (K (.tup []) w_56))))))))
def adv46 : Adv := (.sq .lf (.sq .lf (.sq .lf (.sq .lf (.bl (.sq .lf (.cd .lf (.sq .lf (.cd (.sq .lf (.sq (.bl (.lp [(6, .sc (.opq))] (.sq (.sq .lf (.cd .lf .lf)) (.bl .lf)))) (.sq .lf .lf))) (.sq .lf (.cd .lf (.sq (.sq .lf (.cd .lf .lf)) (.sq .lf (.sq .lf (.cd .lf .lf)))))))))))))))
set_option maxRecDepth 100000 in
theorem eq46 (hk : Hook) (s_0 : AV) (s_1 : AV) (x_2 : AV) (w : AW) (K : AV → AW → Prop) : fnS Try.prog hk Try.f46 adv46 [(.agg [s_0, s_1]), x_2] w K = F46 hk s_0 s_1 x_2 w K := by kernel_rfl
theorem in46 {hk : Hook} {s_0 : AV} {s_1 : AV} {x_2 : AV} {w : AW} {K : AV → AW → Prop} (hn : hk 46 [(.agg [s_0, s_1]), x_2] w = none) (h : F46 hk s_0 s_1 x_2 w K) : Cl Try.prog hk 46 [(.agg [s_0, s_1]), x_2] w K :=
 fnS_ok Try.func46 hn (by rw [eq46]; exact h)
def F47 (hk : Hook) (s_0 : AV) (s_1 : AV) (w : AW) (K : AV → AW → Prop) : Prop :=
 gd (List.all [s_0, s_1] okCell) (
 new w [s_0, s_1] fun b_2 w_3 =>
 new w_3 [.nilmap, .nilmap] fun b_4 w_5 =>
 onM (ld w_5 b_2 (0 + 0)) fun x_6 =>
 onM (ld w_5 b_2 (0 + 1)) fun x_7 =>
 Cl Try.prog hk 65 [x_6] w_5 fun r_8 w_9 =>
 ld w_9 b_2 (0 + 1) = some x_7 ∧
 Cl Try.prog hk 66 [x_7] w_9 fun r_10 w_11 =>
 gd (okCell r_8) (
 gd (okCell r_10) (
 gd (List.all [r_8, r_10] okCell) (
 onM (AW.putCells w_11 b_4 0 [r_8, r_10]) fun w_12 =>
 ∃ res_13 : AV, ∃ res_14 : AV, ldN 2 w_12 b_4 0 = some (.agg [res_13, res_14]) ∧
 K (.agg [res_13, res_14]) w_12))))
def adv47 : Adv := (.sq .lf (.sq .lf .lf))
set_option maxRecDepth 100000 in
theorem eq47 (hk : Hook) (s_0 : AV) (s_1 : AV) (w : AW) (K : AV → AW → Prop) : fnS Try.prog hk Try.f47 adv47 [(.agg [s_0, s_1])] w K = F47 hk s_0 s_1 w K := by kernel_rfl
theorem in47 {hk : Hook} {s_0 : AV} {s_1 : AV} {w : AW} {K : AV → AW → Prop} (hn : hk 47 [(.agg [s_0, s_1])] w = none) (h : F47 hk s_0 s_1 w K) : Cl Try.prog hk 47 [(.agg [s_0, s_1])] w K :=
 fnS_ok Try.func47 hn (by rw [eq47]; exact h)
def F48 (hk : Hook) (x_0 : AV) (val_1 : Int) (w : AW) (K : AV → AW → Prop) : Prop :=
 onP x_0 fun b_2 o_3 =>
 Cl Try.prog hk 67 [(.ptr b_2 (o_3 + 0)), (.int .i64 val_1)] w fun r_4 w_5 =>
 r_4 = .tup [] ∧
 K (.tup []) w_5
def adv48 : Adv := .lf
set_option maxRecDepth 100000 in
theorem eq48 (hk : Hook) (x_0 : AV) (val_1 : Int) (w : AW) (K : AV → AW → Prop) : fnS Try.prog hk Try.f48 adv48 [x_0, (.int .i64 val_1)] w K = F48 hk x_0 val_1 w K := by kernel_rfl
theorem in48 {hk : Hook} {x_0 : AV} {val_1 : Int} {w : AW} {K : AV → AW → Prop} (hn : hk 48 [x_0, (.int .i64 val_1)] w = none) (h : F48 hk x_0 val_1 w K) : Cl Try.prog hk 48 [x_0, (.int .i64 val_1)] w K :=
 fnS_ok Try.func48 hn (by rw [eq48]; exact h)
def F49 (hk : Hook) (s_0 : AV) (w : AW) (K : AV → AW → Prop) : Prop :=
 ∃ x_1 : Bool, binOpA Try.prog .eql 23 true s_0 .nilslice = some (.bool x_1) ∧
 ifT x_1 (K .nilslice w)
 (new w [] fun b_2 w_3 =>
 onE (appS 1 1 w_3 (.slice b_2 0 0 0 none) s_0) fun x_4 w_5 =>
 K x_4 w_5)
def adv49 : Adv := (.sq .lf (.sq (.sq .lf (.cd (.sq .lf .lf) .lf)) (.sq .lf .lf)))
set_option maxRecDepth 100000 in
theorem eq49 (hk : Hook) (s_0 : AV) (w : AW) (K : AV → AW → Prop) : fnS Try.prog hk Try.f49 adv49 [s_0] w K = F49 hk s_0 w K := by kernel_rfl
theorem in49 {hk : Hook} {s_0 : AV} {w : AW} {K : AV → AW → Prop} (hn : hk 49 [s_0] w = none) (h : F49 hk s_0 w K) : Cl Try.prog hk 49 [s_0] w K :=
 fnS_ok Try.func49 hn (by rw [eq49]; exact h)
def F50 (hk : Hook) (s_0 : AV) (i_1 : Int) (w : AW) (K : AV → AW → Prop) : Prop :=
 ifT (decide (i_1 = 0)) (K (.int .i64 0) w)
 (onP s_0 fun b_2 o_3 =>
 onM (ld w b_2 (o_3 + 3)) fun x_4 =>
 atP (idxS 1 x_4 (.int .i64 (wi (i_1 - 1)))) fun b_5 o_6 =>
 ∃ x_7 : Int, ld w b_5 o_6 = some (.int .i64 x_7) ∧
 K (.int .i64 x_7) w)
def adv50 : Adv := (.sq .lf (.sq (.sq .lf (.cd (.sq .lf .lf) .lf)) (.sq .lf .lf)))
set_option maxRecDepth 100000 in
theorem eq50 (hk : Hook) (s_0 : AV) (i_1 : Int) (w : AW) (K : AV → AW → Prop) : fnS Try.prog hk Try.f50 adv50 [s_0, (.int .i64 i_1)] w K = F50 hk s_0 i_1 w K := by kernel_rfl
theorem in50 {hk : Hook} {s_0 : AV} {i_1 : Int} {w : AW} {K : AV → AW → Prop} (hn : hk 50 [s_0, (.int .i64 i_1)] w = none) (h : F50 hk s_0 i_1 w K) : Cl Try.prog hk 50 [s_0, (.int .i64 i_1)] w K :=
 fnS_ok Try.func50 hn (by rw [eq50]; exact h)
def F52 (hk : Hook) (s_0 : AV) (w : AW) (K : AV → AW → Prop) : Prop :=
 ∃ x_1 : Bool, binOpA Try.prog .eql 46 true s_0 .nilslice = some (.bool x_1) ∧
 ifT x_1 (K .nilslice w)
 (new w [] fun b_2 w_3 =>
 onE (appS 1 8 w_3 (.slice b_2 0 0 0 none) s_0) fun x_4 w_5 =>
 K x_4 w_5)
def adv52 : Adv := (.sq .lf (.sq (.sq .lf (.cd (.sq .lf .lf) .lf)) (.sq .lf .lf)))
set_option maxRecDepth 100000 in
theorem eq52 (hk : Hook) (s_0 : AV) (w : AW) (K : AV → AW → Prop) : fnS Try.prog hk Try.f52 adv52 [s_0] w K = F52 hk s_0 w K := by kernel_rfl
theorem in52 {hk : Hook} {s_0 : AV} {w : AW} {K : AV → AW → Prop} (hn : hk 52 [s_0] w = none) (h : F52 hk s_0 w K) : Cl Try.prog hk 52 [s_0] w K :=
 fnS_ok Try.func52 hn (by rw [eq52]; exact h)
def F55 (hk : Hook) (d_0 : AV) (w : AW) (K : AV → AW → Prop) : Prop :=
 onP d_0 fun b_1 o_2 =>
 ∃ x_3 : Bool, ld w b_1 (o_2 + 7) = some (.bool x_3) ∧
 ifT x_3 (K (.int .i64 6) w)
 (onP d_0 fun b_4 o_5 =>
 onP d_0 fun b_6 o_7 =>
 Cl Try.prog hk 68 [(.ptr b_4 (o_5 + 9))] w fun r_8 w_9 =>
 ∃ x_10 : Bool, r_8 = (.bool x_10) ∧
 Cl Try.prog hk 68 [(.ptr b_6 (o_7 + 8))] w_9 fun r_11 w_12 =>
 ∃ x_13 : Bool, r_11 = (.bool x_13) ∧
 ifT x_13 (onP d_0 fun b_14 o_15 =>
  onM (AW.putCells w_12 b_14 (o_15 + 7) [(.bool true)]) fun w_16 =>
  K (.int .i64 6) w_16)
 (ifT x_10 (onP d_0 fun b_17 o_18 =>
  ∃ x_19 : Int, ld w_12 b_17 (o_18 + 10) = some (.int .i64 x_19) ∧
  K (.int .i64 x_19) w_12)
  (K (.int .i64 0) w_12)))
def adv55 : Adv := (.sq .lf (.sq (.sq .lf (.cd (.sq .lf .lf) .lf)) (.sq .lf (.sq (.bl (.sq .lf (.cd (.sq .lf (.sq .lf .lf)) (.sq .lf (.cd (.sq .lf .lf) .lf))))) (.sq .lf .lf)))))
set_option maxRecDepth 100000 in
theorem eq55 (hk : Hook) (d_0 : AV) (w : AW) (K : AV → AW → Prop) : fnS Try.prog hk Try.f55 adv55 [d_0] w K = F55 hk d_0 w K := by kernel_rfl
theorem in55 {hk : Hook} {d_0 : AV} {w : AW} {K : AV → AW → Prop} (hn : hk 55 [d_0] w = none) (h : F55 hk d_0 w K) : Cl Try.prog hk 55 [d_0] w K :=
 fnS_ok Try.func55 hn (by rw [eq55]; exact h)
def F56 (hk : Hook) (d_0 : AV) (name_1 : List UInt8) (sectors_2 : Int) (w : AW) (K : AV → AW → Prop) : Prop :=
 Cl Try.prog hk 32 [d_0, (.str name_1)] w fun r_3 w_4 =>
 ∃ x_5 : Int, ∃ x_6 : Int, r_3 = .tup [(.int .i64 x_5), (.int .i64 x_6)] ∧
 ifT (!decide (x_6 = 0)) (K (.int .i64 x_6) w_4)
 (ifT (decide (sectors_2 < 0)) (K (.int .i64 2) w_4)
  (onP d_0 fun b_7 o_8 =>
  onM (ld w_4 b_7 ((o_8 + 3) + 1)) fun x_9 =>
  onM (lookS .nilslice false w_4 x_9 (.int .i64 x_5)) fun x_10 =>
  ∃ x_11 : Int, lenS x_10 = some (.int .i64 x_11) ∧
  ifT (decide (x_11 < sectors_2)) (K (.int .i64 2) w_4)
  (new w_4 (stepC (.int .i64 2) (.int .i64 x_5) (.int .i64 sectors_2) z64 (.str []) (.str [])) fun b_12 w_13 =>
 Cl Try.prog hk 34 [d_0, (.slice b_12 0 1 1 none)] w_13 fun r_14 w_15 =>
 ∃ x_16 : Int, r_14 = (.int .i64 x_16) ∧
 K (.int .i64 x_16) w_15)))
def adv56 : Adv := (.sq .lf (.sq .lf (.sq (.bl (.sq .lf (.cd (.sq .lf .lf) (.sq .lf (.cd (.sq .lf .lf) .lf))))) (.sq .lf .lf))))
set_option maxRecDepth 100000 in
theorem eq56 (hk : Hook) (d_0 : AV) (name_1 : List UInt8) (sectors_2 : Int) (w : AW) (K : AV → AW → Prop) : fnS Try.prog hk Try.f56 adv56 [d_0, (.str name_1), (.int .i64 sectors_2)] w K = F56 hk d_0 name_1 sectors_2 w K := by kernel_rfl
theorem in56 {hk : Hook} {d_0 : AV} {name_1 : List UInt8} {sectors_2 : Int} {w : AW} {K : AV → AW → Prop} (hn : hk 56 [d_0, (.str name_1), (.int .i64 sectors_2)] w = none) (h : F56 hk d_0 name_1 sectors_2 w K) : Cl Try.prog hk 56 [d_0, (.str name_1), (.int .i64 sectors_2)] w K :=
 fnS_ok Try.func56 hn (by rw [eq56]; exact h)
def F57 (hk : Hook) (b_0 : AV) (v_1 : Int) (w : AW) (K : AV → AW → Prop) : Prop :=
 Cl Try.prog hk 69 [b_0, (.int .u64 (IntKind.wrap .u64 v_1)), (.int .i64 4)] w fun r_2 w_3 =>
 K r_2 w_3
def adv57 : Adv := (.sq .lf (.sq .lf .lf))
set_option maxRecDepth 100000 in
theorem eq57 (hk : Hook) (b_0 : AV) (v_1 : Int) (w : AW) (K : AV → AW → Prop) : fnS Try.prog hk Try.f57 adv57 [b_0, (.int .u32 v_1)] w K = F57 hk b_0 v_1 w K := by kernel_rfl
theorem in57 {hk : Hook} {b_0 : AV} {v_1 : Int} {w : AW} {K : AV → AW → Prop} (hn : hk 57 [b_0, (.int .u32 v_1)] w = none) (h : F57 hk b_0 v_1 w K) : Cl Try.prog hk 57 [b_0, (.int .u32 v_1)] w K :=
 fnS_ok Try.func57 hn (by rw [eq57]; exact h)
def F58 (hk : Hook) (s_0 : AV) (n_1 : Int) (w : AW) (K : AV → AW → Prop) : Prop :=
 ifT (decide (n_1 < 0)) (False)
 (∃ x_2 : Int, capA Try.prog 23 s_0 = some (.int .i64 x_2) ∧
 ∃ x_3 : Int, lenS s_0 = some (.int .i64 x_3) ∧
 ifT (decide (0 < (wi (n_1 - (wi (x_2 - x_3)))))) (∃ x_4 : Int, capA Try.prog 23 s_0 = some (.int .i64 x_4) ∧
  onM (slS 1 s_0 none (some (.int .i64 x_4)) none) fun x_5 =>
  onE (appendA Try.prog w 23 (some 3) x_5 (.int .i64 (wi (n_1 - (wi (x_2 - x_3)))))) fun x_6 w_7 =>
  ∃ x_8 : Int, lenS s_0 = some (.int .i64 x_8) ∧
  onM (slS 1 x_6 none (some (.int .i64 x_8)) none) fun s_9 =>
  K s_9 w_7)
 (K s_0 w))
def adv58 : Adv := (.sq .lf (.sq (.sq .lf (.cd .lf .lf)) (.sq (.sq .lf (.sq .lf (.cd .lf .lf))) (.sq .lf .lf))))
set_option maxRecDepth 100000 in
theorem eq58 (hk : Hook) (s_0 : AV) (n_1 : Int) (w : AW) (K : AV → AW → Prop) : fnS Try.prog hk Try.f58 adv58 [s_0, (.int .i64 n_1)] w K = F58 hk s_0 n_1 w K := by kernel_rfl
theorem in58 {hk : Hook} {s_0 : AV} {n_1 : Int} {w : AW} {K : AV → AW → Prop} (hn : hk 58 [s_0, (.int .i64 n_1)] w = none) (h : F58 hk s_0 n_1 w K) : Cl Try.prog hk 58 [s_0, (.int .i64 n_1)] w K :=
 fnS_ok Try.func58 hn (by rw [eq58]; exact h)
def F59 (hk : Hook) (yield_0 : AV) (cap_1 : AV) (cap_2 : AV) (w : AW) (K : AV → AW → Prop) : Prop :=
 onP cap_1 fun b_3 o_4 =>
 ∃ i_5 : Int, ld w b_3 o_4 = some (.int .i64 i_5) ∧
 loopP [(.int .i64 i_5)] w fun R_6 l_7 w_8 => ∃ i_9 : Int, l_7 = [(.int .i64 i_9)] ∧ ∀ _ : Nat → AV,
  onP cap_2 fun b_10 o_11 =>
  onM (ld w_8 b_10 o_11) fun x_12 =>
  ∃ x_13 : Int, lenS x_12 = some (.int .i64 x_13) ∧
  ifT (decide ((wi (i_9 * 62)) < x_13)) (onP cap_2 fun b_14 o_15 =>
  onM (ld w_8 b_14 o_15) fun x_16 =>
  onP cap_2 fun b_17 o_18 =>
  onM (ld w_8 b_17 o_18) fun x_19 =>
  ∃ x_20 : Int, lenS x_19 = some (.int .i64 x_20) ∧
  onM (slS 1 x_16 (some (.int .i64 (wi (i_9 * 62)))) (some (.int .i64 (imin x_20 (wi ((wi (i_9 + 1)) * 62))))) none) fun part_21 =>
  ∃ x_22 : Int, lenS part_21 = some (.int .i64 x_22) ∧
  new w_8 [(.int .u8 (IntKind.wrap .u8 x_22)), (.int .u8 0)] fun b_23 w_24 =>
  onE (appS 1 1 w_24 (.slice b_23 0 2 2 none) part_21) fun s_25 w_26 =>
  ∃ x_27 : Int, lenS s_25 = some (.int .i64 x_27) ∧
  onE (appendA Try.prog w_26 23 (some 3) s_25 (.int .i64 (wi (64 - x_27)))) fun x_28 w_29 =>
  Cv Try.prog hk yield_0 [(.int .i64 i_9), x_28] w_29 fun r_30 w_31 =>
  ∃ x_32 : Bool, r_30 = (.bool x_32) ∧
  ifT (!x_32) (K (.tup []) w_31)
  (R_6 [(.int .i64 (wi (i_9 + 1)))] w_31))
  (K (.tup []) w_8)
def adv59 : Adv := (.sq .lf (.bl (.lp [(4, .sc (.int .i64))] (.sq (.sq .lf (.cd .lf .lf)) (.sq (.bl (.sq .lf (.sq .lf (.sq .lf (.cd .lf .lf))))) .lf)))))
set_option maxRecDepth 100000 in
theorem eq59 (hk : Hook) (yield_0 : AV) (cap_1 : AV) (cap_2 : AV) (w : AW) (K : AV → AW → Prop) : fnS Try.prog hk Try.f59 adv59 [yield_0, cap_1, cap_2] w K = F59 hk yield_0 cap_1 cap_2 w K := by kernel_rfl
theorem in59 {hk : Hook} {yield_0 : AV} {cap_1 : AV} {cap_2 : AV} {w : AW} {K : AV → AW → Prop} (hn : hk 59 [yield_0, cap_1, cap_2] w = none) (h : F59 hk yield_0 cap_1 cap_2 w K) : Cl Try.prog hk 59 [yield_0, cap_1, cap_2] w K :=
 fnS_ok Try.func59 hn (by rw [eq59]; exact h)
def F60 (hk : Hook) (s_0 : AV) (f_1 : AV) (w : AW) (K : AV → AW → Prop) : Prop :=
 ∃ x_2 : Int, lenS s_0 = some (.int .i64 x_2) ∧
 loopP [(.int .i64 0)] w fun R_3 l_4 w_5 => ∃ x_6 : Int, l_4 = [(.int .i64 x_6)] ∧ ∀ _ : Nat → AV,
  ifT (decide (x_6 < x_2)) (atP (idxS 69 s_0 (.int .i64 x_6)) fun b_7 o_8 =>
  onM (ldN 69 w_5 b_7 o_8) fun x_9 =>
  Cv Try.prog hk f_1 [x_9] w_5 fun r_10 w_11 =>
  ∃ x_12 : Bool, r_10 = (.bool x_12) ∧
  ifT x_12 (K (.int .i64 x_6) w_11)
  (R_3 [(.int .i64 (wi (x_6 + 1)))] w_11))
  (K (.int .i64 (-1)) w_5)
def adv60 : Adv := (.sq .lf (.sq (.sq .lf (.bl (.lp [(8, .sc (.int .i64))] (.sq .lf (.sq (.cd .lf .lf) (.sq (.bl (.sq .lf (.sq .lf (.cd (.sq .lf .lf) .lf)))) .lf)))))) (.sq .lf .lf)))
set_option maxRecDepth 100000 in
theorem eq60 (hk : Hook) (s_0 : AV) (f_1 : AV) (w : AW) (K : AV → AW → Prop) : fnS Try.prog hk Try.f60 adv60 [s_0, f_1] w K = F60 hk s_0 f_1 w K := by kernel_rfl
theorem in60 {hk : Hook} {s_0 : AV} {f_1 : AV} {w : AW} {K : AV → AW → Prop} (hn : hk 60 [s_0, f_1] w = none) (h : F60 hk s_0 f_1 w K) : Cl Try.prog hk 60 [s_0, f_1] w K :=
 fnS_ok Try.func60 hn (by rw [eq60]; exact h)
def F61 (hk : Hook) (x_0 : AV) (cap_1 : AV) (w : AW) (K : AV → AW → Prop) : Prop :=
 onA x_0 fun cs_2 => gd (List.all cs_2 okCell) (
 new w cs_2 fun b_3 w_4 =>
 ∃ x_5 : Int, ld w_4 b_3 (0 + 1) = some (.int .i64 x_5) ∧
 onP cap_1 fun b_6 o_7 =>
 ∃ x_8 : Int, ld w_4 b_6 o_7 = some (.int .i64 x_8) ∧
 ifT (decide (x_5 = x_8)) (∃ x_9 : Int, ld w_4 b_3 (0 + 0) = some (.int .i64 x_9) ∧
 K (.bool (decide (x_9 = 0))) w_4)
 (K (.bool false) w_4))
def adv61 : Adv := (.sq .lf (.sq .lf .lf))
set_option maxRecDepth 100000 in
theorem eq61 (hk : Hook) (x_0 : AV) (cap_1 : AV) (w : AW) (K : AV → AW → Prop) : fnS Try.prog hk Try.f61 adv61 [x_0, cap_1] w K = F61 hk x_0 cap_1 w K := by kernel_rfl
theorem in61 {hk : Hook} {x_0 : AV} {cap_1 : AV} {w : AW} {K : AV → AW → Prop} (hn : hk 61 [x_0, cap_1] w = none) (h : F61 hk x_0 cap_1 w K) : Cl Try.prog hk 61 [x_0, cap_1] w K :=
 fnS_ok Try.func61 hn (by rw [eq61]; exact h)
def F62 (hk : Hook) (d_0 : AV) (so_1 : AV) (w : AW) (K : AV → AW → Prop) : Prop :=
 Cl Try.prog hk 55 [d_0] w fun r_2 w_3 =>
 ∃ e_4 : Int, r_2 = (.int .i64 e_4) ∧
 ifT (!decide (e_4 = 0)) (K (.int .i64 e_4) w_3)
 (onP d_0 fun b_5 o_6 =>
 onM (ld w_3 b_5 (o_6 + 5)) fun x_7 =>
 ∃ x_8 : Int, lenS x_7 = some (.int .i64 x_8) ∧
 loopP [.nilslice, (.int .i64 0)] w_3 fun R_9 l_10 w_11 => ∃ left_12 : AV, ∃ x_13 : Int, l_10 = [left_12, (.int .i64 x_13)] ∧ ∀ _ : Nat → AV,
  ifT (decide (x_13 < x_8)) (atP (idxS 69 x_7 (.int .i64 x_13)) fun b_14 o_15 =>
  onM (ldN 69 w_11 b_14 o_15) fun x_16 =>
  new w_11 (stepC (.int .i64 0) (.int .i64 0) (.int .i64 0) z64 (.str []) (.str [])) fun b_17 w_18 =>
  onA x_16 fun cs_19 => gd (List.all cs_19 okCell) (
  gd (Nat.beq cs_19.length 69) (onM (AW.putCells w_18 b_17 0 cs_19) fun w_20 =>
  onM (ldN 69 w_20 b_17 0) fun x_21 =>
  Cv Try.prog hk so_1 [(.int .i64 x_13), x_21] w_20 fun r_22 w_23 =>
  ∃ x_24 : Bool, r_22 = (.bool x_24) ∧
  ifT x_24 (onP d_0 fun b_25 o_26 =>
  ∃ x_27 : AV, ∃ x_28 : AV, ldN 2 w_23 b_25 (o_26 + 1) = some (.agg [x_27, x_28]) ∧
  onM (ldN 69 w_23 b_17 0) fun x_29 =>
  Cl Try.prog hk 46 [(.agg [x_27, x_28]), x_29] w_23 fun r_30 w_31 =>
  r_30 = .tup [] ∧
  R_9 [left_12, (.int .i64 (wi (x_13 + 1)))] w_31)
  (onM (ldN 69 w_23 b_17 0) fun x_32 =>
  onA x_32 fun cs_33 => gd (List.all cs_33 okCell) (
  gd (Nat.beq cs_33.length 69 && Nat.ble 69 69) (
  new w_23 (listPut (stepC (.int .i64 0) (.int .i64 0) (.int .i64 0) z64 (.str []) (.str [])) 0 cs_33) fun b_34 w_35 =>
  onE (appS 69 120 w_35 left_12 (.slice b_34 0 1 1 none)) fun left_36 w_37 =>
  R_9 [left_36, (.int .i64 (wi (x_13 + 1)))] w_37))))))
  (onP d_0 fun b_38 o_39 =>
 gd (okCell left_12) (
 onM (AW.putCells w_11 b_38 (o_39 + 5) [left_12]) fun w_40 =>
 K (.int .i64 0) w_40)))
def adv62 : Adv := (.sq .lf (.sq (.sq .lf (.sq .lf (.cd (.sq .lf .lf) .lf))) (.sq .lf (.sq (.sq .lf (.bl (.lp [(6, .sc (.opq)), (19, .sc (.int .i64))] (.sq .lf (.sq (.cd .lf .lf) (.sq (.bl (.sq .lf (.sq .lf (.cd .lf .lf)))) .lf)))))) (.sq .lf (.sq .lf .lf))))))
set_option maxRecDepth 100000 in
theorem eq62 (hk : Hook) (d_0 : AV) (so_1 : AV) (w : AW) (K : AV → AW → Prop) : fnS Try.prog hk Try.f62 adv62 [d_0, so_1] w K = F62 hk d_0 so_1 w K := by kernel_rfl
theorem in62 {hk : Hook} {d_0 : AV} {so_1 : AV} {w : AW} {K : AV → AW → Prop} (hn : hk 62 [d_0, so_1] w = none) (h : F62 hk d_0 so_1 w K) : Cl Try.prog hk 62 [d_0, so_1] w K :=
 fnS_ok Try.func62 hn (by rw [eq62]; exact h)
def F63 (hk : Hook) (i_0 : Int) (x_1 : AV) (cap_2 : AV) (cap_3 : AV) (w : AW) (K : AV → AW → Prop) : Prop :=
 onA x_1 fun cs_4 => gd (List.all cs_4 okCell) (
 new w cs_4 fun b_5 w_6 =>
 ∃ x_7 : Int, ld w_6 b_5 (0 + 0) = some (.int .i64 x_7) ∧
 ifT (decide (x_7 = 1)) (∃ x_8 : Int, ld w_6 b_5 (0 + 1) = some (.int .i64 x_8) ∧
 onP cap_2 fun b_9 o_10 =>
 ∃ x_11 : Int, ld w_6 b_9 o_10 = some (.int .i64 x_11) ∧
 K (.bool (decide (x_8 = x_11))) w_6)
 (∃ x_12 : Int, ld w_6 b_5 (0 + 0) = some (.int .i64 x_12) ∧
 ifT (decide (x_12 = 2)) (∃ x_13 : Int, ld w_6 b_5 (0 + 1) = some (.int .i64 x_13) ∧
  onP cap_2 fun b_14 o_15 =>
  ∃ x_16 : Int, ld w_6 b_14 o_15 = some (.int .i64 x_16) ∧
  K (.bool (decide (x_13 = x_16))) w_6)
 (onP cap_3 fun b_17 o_18 =>
 ∃ x_19 : Int, ld w_6 b_17 o_18 = some (.int .i64 x_19) ∧
 K (.bool (decide (i_0 ≤ x_19))) w_6)))
def adv63 : Adv := (.sq .lf (.sq (.sq .lf (.cd (.sq .lf .lf) .lf)) (.sq .lf .lf)))
set_option maxRecDepth 100000 in
theorem eq63 (hk : Hook) (i_0 : Int) (x_1 : AV) (cap_2 : AV) (cap_3 : AV) (w : AW) (K : AV → AW → Prop) : fnS Try.prog hk Try.f63 adv63 [(.int .i64 i_0), x_1, cap_2, cap_3] w K = F63 hk i_0 x_1 cap_2 cap_3 w K := by kernel_rfl
theorem in63 {hk : Hook} {i_0 : Int} {x_1 : AV} {cap_2 : AV} {cap_3 : AV} {w : AW} {K : AV → AW → Prop} (hn : hk 63 [(.int .i64 i_0), x_1, cap_2, cap_3] w = none) (h : F63 hk i_0 x_1 cap_2 cap_3 w K) : Cl Try.prog hk 63 [(.int .i64 i_0), x_1, cap_2, cap_3] w K :=
 fnS_ok Try.func63 hn (by rw [eq63]; exact h)
def F64 (hk : Hook) (s_0 : AV) (w : AW) (K : AV → AW → Prop) : Prop :=
 ∃ x_1 : Bool, binOpA Try.prog .eql 76 true s_0 .nilslice = some (.bool x_1) ∧
 ifT x_1 (K .nilslice w)
 (new w [] fun b_2 w_3 =>
 onE (appS 64 64 w_3 (.slice b_2 0 0 0 none) s_0) fun x_4 w_5 =>
 K x_4 w_5)
def adv64 : Adv := (.sq .lf (.sq (.sq .lf (.cd (.sq .lf .lf) .lf)) (.sq .lf .lf)))
set_option maxRecDepth 100000 in
theorem eq64 (hk : Hook) (s_0 : AV) (w : AW) (K : AV → AW → Prop) : fnS Try.prog hk Try.f64 adv64 [s_0] w K = F64 hk s_0 w K := by kernel_rfl
theorem in64 {hk : Hook} {s_0 : AV} {w : AW} {K : AV → AW → Prop} (hn : hk 64 [s_0] w = none) (h : F64 hk s_0 w K) : Cl Try.prog hk 64 [s_0] w K :=
 fnS_ok Try.func64 hn (by rw [eq64]; exact h)
def F65 (hk : Hook) (m_0 : AV) (w : AW) (K : AV → AW → Prop) : Prop :=
 ∃ x_1 : Bool, binOpA Try.prog .eql 61 true m_0 .nilmap = some (.bool x_1) ∧
 ifT x_1 (K .nilmap w)
 (Cl Try.prog hk 70 [(.iface 61 m_0)] w fun r_2 w_3 =>
 onM (assertA Try.prog 61 false r_2) fun x_4 =>
 K x_4 w_3)
def adv65 : Adv := (.sq .lf (.sq (.sq .lf (.cd (.sq .lf .lf) .lf)) (.sq .lf .lf)))
set_option maxRecDepth 100000 in
theorem eq65 (hk : Hook) (m_0 : AV) (w : AW) (K : AV → AW → Prop) : fnS Try.prog hk Try.f65 adv65 [m_0] w K = F65 hk m_0 w K := by kernel_rfl
theorem in65 {hk : Hook} {m_0 : AV} {w : AW} {K : AV → AW → Prop} (hn : hk 65 [m_0] w = none) (h : F65 hk m_0 w K) : Cl Try.prog hk 65 [m_0] w K :=
 fnS_ok Try.func65 hn (by rw [eq65]; exact h)
def F66 (hk : Hook) (m_0 : AV) (w : AW) (K : AV → AW → Prop) : Prop :=
 ∃ x_1 : Bool, binOpA Try.prog .eql 62 true m_0 .nilmap = some (.bool x_1) ∧
 ifT x_1 (K .nilmap w)
 (Cl Try.prog hk 70 [(.iface 62 m_0)] w fun r_2 w_3 =>
 onM (assertA Try.prog 62 false r_2) fun x_4 =>
 K x_4 w_3)
def adv66 : Adv := (.sq .lf (.sq (.sq .lf (.cd (.sq .lf .lf) .lf)) (.sq .lf .lf)))
set_option maxRecDepth 100000 in
theorem eq66 (hk : Hook) (m_0 : AV) (w : AW) (K : AV → AW → Prop) : fnS Try.prog hk Try.f66 adv66 [m_0] w K = F66 hk m_0 w K := by kernel_rfl
theorem in66 {hk : Hook} {m_0 : AV} {w : AW} {K : AV → AW → Prop} (hn : hk 66 [m_0] w = none) (h : F66 hk m_0 w K) : Cl Try.prog hk 66 [m_0] w K :=
 fnS_ok Try.func66 hn (by rw [eq66]; exact h)
def F68 (hk : Hook) (n_0 : AV) (w : AW) (K : AV → AW → Prop) : Prop :=
 Cl Try.prog hk 71 [n_0] w fun r_1 w_2 =>
 ∃ x_3 : Int, r_1 = (.int .i64 x_3) ∧
 ifT (decide (x_3 = 0)) (K (.bool false) w_2)
 (Cl Try.prog hk 72 [n_0, (.int .i64 (-1))] w_2 fun r_4 w_5 =>
 ∃ x_6 : Int, r_4 = (.int .i64 x_6) ∧
 K (.bool (decide (x_6 = 0))) w_5)
def adv68 : Adv := (.sq .lf (.sq (.sq .lf (.cd (.sq .lf .lf) .lf)) (.sq .lf .lf)))
set_option maxRecDepth 100000 in
theorem eq68 (hk : Hook) (n_0 : AV) (w : AW) (K : AV → AW → Prop) : fnS Try.prog hk Try.f68 adv68 [n_0] w K = F68 hk n_0 w K := by kernel_rfl
theorem in68 {hk : Hook} {n_0 : AV} {w : AW} {K : AV → AW → Prop} (hn : hk 68 [n_0] w = none) (h : F68 hk n_0 w K) : Cl Try.prog hk 68 [n_0] w K :=
 fnS_ok Try.func68 hn (by rw [eq68]; exact h)
def F69 (hk : Hook) (b_0 : AV) (v_1 : Int) (n_2 : Int) (w : AW) (K : AV → AW → Prop) : Prop :=
 ∃ x_3 : Int, lenS b_0 = some (.int .i64 x_3) ∧
 ∃ x_4 : Int, lenS b_0 = some (.int .i64 x_4) ∧
 onM (asN (.int .i64 x_3)) fun n_5 =>
 onM (asN (.int .i64 (wi (x_4 + n_2)))) fun n_6 =>
 gd (Nat.ble n_5 n_6 && Nat.ble (n_6 * 1) (2 ^ 47) && Nat.blt n_6 (2 ^ 63) && true) (new w (repl n_6 [(.int .u8 0)]) fun b_7 w_8 =>
 onE (copyA Try.prog w_8 23 (.slice b_7 0 n_5 n_6 none) b_0) fun x_9 w_10 =>
 loopP [(.slice b_7 0 n_5 n_6 none), (.int .i64 0)] w_10 fun R_11 l_12 w_13 => ∃ out_14 : AV, ∃ x_15 : Int, l_12 = [out_14, (.int .i64 x_15)] ∧ ∀ _ : Nat → AV,
  ifT (decide (x_15 < n_2)) (be (wi (8 * (wi ((wi (n_2 - 1)) - x_15)))) fun x_16 =>
  ∃ x_17 : Int, shiftA .shr .u64 v_1 x_16 = some (.int .u64 x_17) ∧
  new w_13 [(.int .u8 (IntKind.wrap .u8 x_17))] fun b_18 w_19 =>
  onE (appS 1 1 w_19 out_14 (.slice b_18 0 1 1 none)) fun out_20 w_21 =>
  R_11 [out_20, (.int .i64 (wi (x_15 + 1)))] w_21)
  (K out_14 w_13))
def adv69 : Adv := (.sq .lf (.sq .lf (.sq .lf (.sq (.sq .lf (.bl (.lp [(7, .sc (.opq)), (20, .sc (.int .i64))] (.sq .lf (.sq (.cd .lf .lf) (.sq (.bl (.sq .lf .lf)) .lf)))))) (.sq .lf .lf)))))
set_option maxRecDepth 100000 in
theorem eq69 (hk : Hook) (b_0 : AV) (v_1 : Int) (n_2 : Int) (w : AW) (K : AV → AW → Prop) : fnS Try.prog hk Try.f69 adv69 [b_0, (.int .u64 v_1), (.int .i64 n_2)] w K = F69 hk b_0 v_1 n_2 w K := by kernel_rfl
theorem in69 {hk : Hook} {b_0 : AV} {v_1 : Int} {n_2 : Int} {w : AW} {K : AV → AW → Prop} (hn : hk 69 [b_0, (.int .u64 v_1), (.int .i64 n_2)] w = none) (h : F69 hk b_0 v_1 n_2 w K) : Cl Try.prog hk 69 [b_0, (.int .u64 v_1), (.int .i64 n_2)] w K :=
 fnS_ok Try.func69 hn (by rw [eq69]; exact h)
def F71 (hk : Hook) (x_0 : AV) (w : AW) (K : AV → AW → Prop) : Prop :=
 onP x_0 fun b_1 o_2 =>
 Cl Try.prog hk 73 [(.ptr b_1 (o_2 + 0))] w fun r_3 w_4 =>
 ∃ x_5 : Int, r_3 = (.int .i64 x_5) ∧
 K (.int .i64 x_5) w_4
def adv71 : Adv := (.sq .lf (.sq .lf .lf))
set_option maxRecDepth 100000 in
theorem eq71 (hk : Hook) (x_0 : AV) (w : AW) (K : AV → AW → Prop) : fnS Try.prog hk Try.f71 adv71 [x_0] w K = F71 hk x_0 w K := by kernel_rfl
theorem in71 {hk : Hook} {x_0 : AV} {w : AW} {K : AV → AW → Prop} (hn : hk 71 [x_0] w = none) (h : F71 hk x_0 w K) : Cl Try.prog hk 71 [x_0] w K :=
 fnS_ok Try.func71 hn (by rw [eq71]; exact h)
def F72 (hk : Hook) (x_0 : AV) (delta_1 : Int) (w : AW) (K : AV → AW → Prop) : Prop :=
 onP x_0 fun b_2 o_3 =>
 Cl Try.prog hk 74 [(.ptr b_2 (o_3 + 0)), (.int .i64 delta_1)] w fun r_4 w_5 =>
 ∃ new_6 : Int, r_4 = (.int .i64 new_6) ∧
 K (.int .i64 new_6) w_5
def adv72 : Adv := (.sq .lf (.sq .lf .lf))
set_option maxRecDepth 100000 in
theorem eq72 (hk : Hook) (x_0 : AV) (delta_1 : Int) (w : AW) (K : AV → AW → Prop) : fnS Try.prog hk Try.f72 adv72 [x_0, (.int .i64 delta_1)] w K = F72 hk x_0 delta_1 w K := by kernel_rfl
theorem in72 {hk : Hook} {x_0 : AV} {delta_1 : Int} {w : AW} {K : AV → AW → Prop} (hn : hk 72 [x_0, (.int .i64 delta_1)] w = none) (h : F72 hk x_0 delta_1 w K) : Cl Try.prog hk 72 [x_0, (.int .i64 delta_1)] w K :=
 fnS_ok Try.func72 hn (by rw [eq72]; exact h)
end Go.Proofs.Ytdlogcincelccaa
/-
 What the disk's functions do, over memory, with its own blocks (the first part).
 No condition beyond those that each theorem names.
-/
set_option linter.unusedSimpArgs false
open Go.Sx
set_option linter.unusedVariables false
namespace Go.Proofs.Ytdlogcincelccaa
structure HK (hk : Hook) : Prop where
 no : ∀ f a w, f ≠ 15 → f ≠ 15 → hk f a w = none
 awake : ∀ w, hk 15 [] w = some (some (.bool true, w))
theorem z64_eq : z64 = cellsOfBytes zsec := by simp [z64, zsec, cellsOfBytes]
theorem listPut_all {cs vs : List AV} (h : cs.length = vs.length) : listPut cs 0 vs = vs := by
 simp only [listPut, List.take_zero, List.nil_append, Nat.zero_add]
 rw [List.drop_eq_nil_of_le (by omega), List.append_nil]
theorem zstep_length : (stepC (.int .i64 0) (.int .i64 0) (.int .i64 0) z64 (.str []) (.str [])).length = 69 := by
 show (AV.int .i64 0 :: AV.int .i64 0 :: AV.int .i64 0 :: (z64 ++ [AV.str [], AV.str []])).length = 69
 rw [z64_eq]; simp [cellsOfBytes_length, zsec]
section
variable {hk : Hook} {A B : Nat → Prop} {I : List Nat} {w0 w w' : AW} {D : Nat} {i i' : DI} {d d' : Dsk} {k k' : Nat} {L L' : Obs} {K : AV → AW → Prop}
theorem s45 (hh : HK hk) (h : ld w D 0 = some (.bool true)) (hK : K (.bool false) w) : Cl Try.prog hk 45 [.ptr D 0] w K := by
 apply in45 (hh.no _ _ _ (by decide) (by decide))
 unfold F45
 exact ⟨false, by kernel_rfl, ifT_f ⟨true, h, hK⟩⟩
theorem s33 {s : Byts} (hh : HK hk) (hK : K (.bool (named s)) w) : Cl Try.prog hk 33 [.str s] w K := by
 apply in33 (hh.no _ _ _ (by decide) (by decide))
 unfold F33
 have e : Int.ofNat s.length = ((s.length : Nat) : Int) := rfl
 rw [e]
 refine ifT_d (fun h => ?_) fun h => ?_
 ·have : named s = decide (((s.length : Nat) : Int) ≤ 64) := by
   unfold named
   rw [decide_eq_decide]; omega
  rw [← this]; exact hK
 ·have : named s = false := by
   unfold named
   rw [decide_eq_false_iff_not]; omega
  rw [← this]; exact hK
theorem s71 {b o : Nat} {n : Int} (hh : HK hk) (h : ld w b o = some (.int .i64 n)) (hK : K (.int .i64 n) w) : Cl Try.prog hk 71 [.ptr b o] w K := by
 apply in71 (hh.no _ _ _ (by decide) (by decide))
 unfold F71
 simp only [onP, Nat.add_zero]
 exact Cl_ext (hh.no _ _ _ (by decide) (by decide)) Try.func73 rfl (ext_load h) ⟨_, rfl, hK⟩
theorem s48 {b o : Nat} {n : Int} (hh : HK hk) (h : onM (w.putCells b o [.int .i64 n]) fun w' => K (.tup []) w') : Cl Try.prog hk 48 [.ptr b o, .int .i64 n] w K := by
 apply in48 (hh.no _ _ _ (by decide) (by decide))
 unfold F48
 simp only [onP, Nat.add_zero]
 obtain ⟨w', h1, h2⟩ := onM_iff.1 h
 exact Cl_ext (hh.no _ _ _ (by decide) (by decide)) Try.func67 rfl (ext_store h1) ⟨rfl, h2⟩
theorem nlook (ns : List (Byts × Int)) (s : Byts) : lookV (.int .i64 0) true (lookM (.str s) (nEnts ns)) = some (.tup [.int .i64 ((nget ns s).getD 0), .bool (nget ns s).isSome]) := by
 rw [nEnts_look]
 cases nget ns s <;> rfl
theorem s32 {s : Byts} (hh : HK hk) (h : Dk A I w0 w D i d k L) (hK : K (.tup [.int .i64 ((nget d.now.names s).getD 0), .int .i64 (if (nget d.now.names s).isSome then 0 else 70)]) w) : Cl Try.prog hk 32 [.ptr D 0, .str s] w K := by
 apply in32 (hh.no _ _ _ (by decide) (by decide))
 unfold F32
 refine s45 hh (h.ow.ld 0 rfl rfl) ⟨false, rfl, ifT_f ?_⟩
 refine onM_s (h.ow.ld 0 rfl rfl) ⟨_, _, (h.ow.look 3 rfl (nEnts_like _ _)).trans (nlook _ s), ?_⟩
 cases hg : nget d.now.names s with
 | none => rw [hg] at hK; exact ifT_t hK
 | some f => rw [hg] at hK; exact ifT_f hK
theorem s72 {b o : Nat} {n e : Int} (hh : HK hk) (h0 : ld w b o = some (.int .i64 n)) (h : onM (w.putCells b o [.int .i64 (wi (n + e))]) fun w' => K (.int .i64 (wi (n + e))) w') : Cl Try.prog hk 72 [.ptr b o, .int .i64 e] w K := by
 apply in72 (hh.no _ _ _ (by decide) (by decide))
 unfold F72
 simp only [onP, Nat.add_zero]
 obtain ⟨w', h1, h2⟩ := onM_iff.1 h
 exact Cl_ext (hh.no _ _ _ (by decide) (by decide)) Try.func74 rfl (ext_add h0 h1) ⟨_, rfl, h2⟩
theorem s68 {b o : Nat} {n : Int} (hh : HK hk) (h0 : ld w b o = some (.int .i64 n)) (hz : n = 0 → K (.bool false) w) (h : n ≠ 0 → onM (w.putCells b o [.int .i64 (wi (n + -1))]) fun w' => K (.bool (decide (wi (n + -1) = 0))) w') : Cl Try.prog hk 68 [.ptr b o] w K := by
 apply in68 (hh.no _ _ _ (by decide) (by decide))
 unfold F68
 refine s71 hh h0 ⟨n, rfl, ifT_d hz fun hn => ?_⟩
 refine s72 hh h0 ?_
 obtain ⟨w', h1, h2⟩ := onM_iff.1 (h hn)
 exact onM_s h1 ⟨_, rfl, h2⟩
theorem s55 (hh : HK hk) (h : Dk A I w0 w D i d k L) (hK : Od A I w0 w D i L d.stopped k K) : Cl Try.prog hk 55 [.ptr D 0] w K := by
  apply in55 (hh.no _ _ _ (by decide) (by decide))
  unfold F55
  simp only [onP]
  refine ⟨d.down, h.ow.ld 0 rfl rfl, ?_⟩
  have hst : d.stopped.1.V k := h.V.stopped
  unfold Dsk.stopped at hK hst
  cases hd : d.down with
  | true =>
    rw [hd] at hK
    exact ifT_t (Od.now h hK (Nat.le_refl _) h.k27)
  | false =>
    rw [hd] at hK hst
    refine ifT_f ?_
    have V1 : ∀ a b : Int, Dsk.V { d with fault := a, arm := b } k := fun a b => ⟨h.V.steps, h.V.sv, h.V.safe, h.V.now, h.V.last⟩
    have step1 : ∀ {K' : AV → AW → Prop}, (∀ w', Dk A I w0 w' D i { d with fault := (spent d.fault).1 } k L → Xt (dkU D i L) w (dkU D i L) w' → K' (.bool (spent d.fault).2) w') → Cl Try.prog hk 68 [.ptr D (0 + 9)] w K' := fun {K'} hK' => by
      refine s68 hh (n := d.fault) (h.ow.ld 0 rfl rfl) (fun e => ?_) fun e => ?_
      · have : spent d.fault = (0, false) := by unfold spent; rw [if_pos e]
        rw [this] at hK'
        refine hK' w ?_ Xt.refl
        have e2 : { d with fault := 0 } = d := by rw [← e]
        rw [e2]; exact h
      · have : spent d.fault = (wi (d.fault + -1), decide (wi (d.fault + -1) = 0)) := by unfold spent; rw [if_neg e]
        rw [this] at hK'
        exact h.put (d' := { d with fault := wi (d.fault + -1) }) (by simp) rfl rfl rfl rfl (V1 _ _) h.k27 hK'
    refine step1 fun w9 h9 x9 => ⟨_, rfl, ?_⟩
    have step2 : ∀ {K' : AV → AW → Prop}, (∀ w', Dk A I w0 w' D i { d with fault := (spent d.fault).1, arm := (spent d.arm).1 } k L → Xt (dkU D i L) w9 (dkU D i L) w' → K' (.bool (spent d.arm).2) w') → Cl Try.prog hk 68 [.ptr D (0 + 8)] w9 K' := fun {K'} hK' => by
      refine s68 hh (n := d.arm) (h9.ow.ld 0 rfl rfl) (fun e => ?_) fun e => ?_
      · have : spent d.arm = (0, false) := by unfold spent; rw [if_pos e]
        rw [this] at hK'
        refine hK' w9 ?_ Xt.refl
        have e2 : { d with fault := (spent d.fault).1, arm := 0 } = { d with fault := (spent d.fault).1 } := by rw [← e]
        rw [e2]; exact h9
      · have : spent d.arm = (wi (d.arm + -1), decide (wi (d.arm + -1) = 0)) := by unfold spent; rw [if_neg e]
        rw [this] at hK'
        exact h9.put (d' := { d with fault := (spent d.fault).1, arm := wi (d.arm + -1) }) (by simp) rfl rfl rfl rfl (V1 _ _) h.k27 hK'
    refine step2 fun w12 h12 x12 => ⟨_, rfl, ?_⟩
    have x := x9.trans x12
    cases ha : (spent d.arm).2 with
    | true =>
      rw [ha] at hK hst
      refine ifT_t (h12.put (d' := { d with fault := (spent d.fault).1, arm := (spent d.arm).1, down := true }) (by simp) rfl rfl rfl rfl hst h.k27 fun w' h' x' => hK i w' h' (x.trans x'))
    | false =>
      rw [ha] at hK
      refine ifT_f ?_
      have h12' : Dk A I w0 w12 D i { d with fault := (spent d.fault).1, arm := (spent d.arm).1 } k L := h12
      rw [hd] at h12'
      cases hf : (spent d.fault).2 with
      | true =>
        rw [hf] at hK
        exact ifT_t ⟨_, h12.ow.ld 0 rfl rfl, hK i w12 h12' x⟩
      | false =>
        rw [hf] at hK
        exact ifT_f (hK i w12 h12' x)
/-! ### What a step does -/
theorem s64 {v : AV} {l : List Byts} (hh : HK hk) (pv : Pv A w) (h : (rL rSec).rd B w [v] l) (hs : l.length < 2 ^ 30) (hK : ∀ v' w', Fr w.size w w' → Ga rSec A w w' v' l → K v' w') : Cl Try.prog hk 64 [v] w K := by
 apply in64 (hh.no _ _ _ (by decide) (by decide))
 unfold F64
 obtain ⟨all, hr, hc⟩ := h.rs
 have hm := pv.mem
 by_cases hv : v = .nilslice
 ·subst hv
  have : l = [] := by
   rcases h.sl with ⟨_, h⟩ | ⟨b, o, cap, ex, f, all, h, _⟩
   ·exact h
   ·cases h
  subst this
  exact ⟨true, by kernel_rfl, ifT_t (hK _ _ (Fr.refl hm) Ga.nil)⟩
 ·have hsl : ∃ b o n cap ex, v = .slice b o n cap ex := by
   rcases h.sl with ⟨h, _⟩ | ⟨b, o, cap, ex, f, all, h, _⟩
   ·exact absurd h hv
   ·exact ⟨b, o, _, cap, ex, h⟩
  obtain ⟨b, o, n, cap, ex, rfl⟩ := hsl
  have hpos := pv.pos
  refine ⟨false, by kernel_rfl, ifT_f (new_of hm fun w3 f3 b3 z3 => ?_)⟩
  have h0 : Gc (fun f => w.size ≤ f ∧ A f) 64 w3 (.slice w.size 0 0 0 none) [] := .inr ⟨w.size, w.size, 0, none, w.size, false, rfl, by simp, .inl rfl, ⟨Nat.le_refl _, pv.new _ (Nat.le_refl _)⟩, by omega, b3, AW.root?_iff.2 ⟨_, b3, rfl⟩⟩
  refine h0.app f3.mem ⟨by omega, pv.new _ (by omega)⟩ (by omega) (by decide) (hr.fr hm f3 (Nat.le_refl _)) (by simp; omega) (by simp; omega) fun v' w5 hg hgr hfr => hK v' w5 ?_ ⟨fun b' hb' => ?_, all, hg, hc.secs⟩
  ·exact f3.trans ⟨hgr.size, fun c hc => hgr.old c (by omega) (by omega), hgr.mem⟩ (Nat.le_refl _)
  ·by_cases hlt : b' < w3.size
   ·have e := hfr b' hb' hlt
    rw [e] at hb'
    cases hb'
    exact pv.new _ (Nat.le_refl _)
   ·exact pv.new _ (by omega)
theorem s46 {a b n f : Nat} {s : FS} {x : Stp} {es : List (AV × AV)} (hh : HK hk) (st : Ow A I w0 w L) (ha : nth L a = some (n, .map (nEnts s.names))) (hb : nth L b = some (f, .map es)) (hab : a ≠ b) (hF : FEn (fz A (ids L)) w es s.files)
    (hx : x.data.length = 64) (hxn : 0 ≤ x.n ∧ x.n < 2 ^ 20) (hfl : (s.files x.file).length < 2 ^ 20)
    (hK : ∀ w' es', Ow A I w0 w' (stN (stN L a (n, .map (nEnts (s.does x).names))) b (f, .map es')) → Xt (ids L) w (ids L) w' → FEn (fz A (ids L)) w' es' (s.does x).files → K (.tup []) w') : Cl Try.prog hk 46 [.agg [.map n, .map f], .agg x.cells] w K := by
  apply in46 (hh.no _ _ _ (by decide) (by decide))
  unfold F46
  refine gd_t rfl (st.new' fun b3 w4 st4 e4 => ?_)
  simp only [onA]
  refine gd_t x.all (st4.new' fun b6 w7 st7 e7 => ?_)
  have x7 := e4.trans e7
  have hF7 : FEn (fz A (b6 :: b3 :: ids L)) w7 es s.files := hF.x x7
  have ha7 : nth ((b6, Ob.row x.cells) :: (b3, Ob.row [.map n, .map f]) :: L) (a + 2) = some (n, .map (nEnts s.names)) := ha
  have hb7 : nth ((b6, Ob.row x.cells) :: (b3, Ob.row [.map n, .map f]) :: L) (b + 2) = some (f, .map es) := hb
  have hname : ∀ {w L'}, Ow A I w0 w ((b6, Ob.row x.cells) :: L') → ld w b6 (0 + 67) = some (.str x.name) := fun st => st.ld 0 rfl (Stp.cname hx)
  refine onM_s (st7.ld 1 rfl rfl) ⟨x.name, hname st7, _, _, (st7.look _ ha7 (nEnts_like _ _)).trans (nlook _ x.name), ?_⟩
  obtain ⟨lv, hlk, hsl⟩ := hF7.look x.file
  refine onM_s (st7.ld 1 rfl rfl) ⟨x.file, st7.ld 0 rfl rfl, onM_s ((st7.look _ hb7 (hF7.like _)).trans hlk) ⟨x.what, st7.ld 0 rfl rfl, ?_⟩⟩
  -- how it ends: names alone; files alone; nothing
  have endN : ∀ {w' : AW} {ns : List (Byts × Int)}, Ow A I w0 w' ((b6, Ob.row x.cells) :: (b3, Ob.row [.map n, .map f]) :: stN L a (n, .map (nEnts ns))) → Xt (b6 :: b3 :: ids L) w7 (b6 :: b3 :: ids L) w' → s.does x = ⟨ns, s.files⟩ → K (.tup []) w' := fun {w' ns} st' x' e => by
    have he : ids (stN L a (n, Ob.map (nEnts ns))) = ids L := stN_ids ha rfl
    obtain ⟨st1, y1, _⟩ := st'.drop
    obtain ⟨st2, y2, _⟩ := st1.drop
    have y1 : Xt (b6 :: b3 :: ids (stN L a (n, Ob.map (nEnts ns)))) w' (b3 :: ids (stN L a (n, Ob.map (nEnts ns)))) w' := y1
    have y2 : Xt (b3 :: ids (stN L a (n, Ob.map (nEnts ns)))) w' (ids (stN L a (n, Ob.map (nEnts ns)))) w' := y2
    rw [he] at y1 y2
    have xx := ((x7.trans x').trans y1).trans y2
    rw [e] at hK
    refine hK w' es ?_ xx (hF.x xx)
    rw [stN_self (by rw [nth_set_ne hab]; exact hb)]
    exact st2
  have endF : ∀ {w' : AW} {v : AV} {l : List Byts}, Ow A I w0 w' ((b6, Ob.row x.cells) :: (b3, Ob.row [.map n, .map f]) :: stN L b (f, .map (insM (.int .i64 x.file) v es))) → Xt (b6 :: b3 :: ids L) w7 (b6 :: b3 :: ids L) w' → (rL rSec).rd (fz A (b6 :: b3 :: ids L)) w' [v] l → s.does x = ⟨s.names, updF s.files x.file l⟩ → K (.tup []) w' := fun {w' v l} st' x' hv e => by
    have he : ids (stN L b (f, Ob.map (insM (.int .i64 x.file) v es))) = ids L := stN_ids hb rfl
    obtain ⟨st1, y1, _⟩ := st'.drop
    obtain ⟨st2, y2, _⟩ := st1.drop
    have y1 : Xt (b6 :: b3 :: ids (stN L b (f, Ob.map (insM (.int .i64 x.file) v es)))) w' (b3 :: ids (stN L b (f, Ob.map (insM (.int .i64 x.file) v es)))) w' := y1
    have y2 : Xt (b3 :: ids (stN L b (f, Ob.map (insM (.int .i64 x.file) v es)))) w' (ids (stN L b (f, Ob.map (insM (.int .i64 x.file) v es)))) w' := y2
    rw [he] at y1 y2
    have xx := ((x7.trans x').trans y1).trans y2
    rw [e] at hK
    refine hK w' _ ?_ xx ((hF.x xx).set (hv.x (y1.trans y2)))
    rw [stN_self ha]
    exact st2
  unfold FS.does at endN endF hK
  refine ifT_d (fun e0 => ?_) fun e0 => ?_
  · -- made
    rw [if_pos e0] at endN
    refine onM_s (st7.ld 1 rfl rfl) ⟨x.name, hname st7, x.file, st7.ld 0 rfl rfl, ?_⟩
    refine st7.kvSet (a + 2) ha7 (nEnts_like _ _) fun w20 st20 e20 => ?_
    rw [nEnts_ins] at st20
    exact endN st20 e20 rfl
  rw [if_neg e0] at endN endF hK
  refine ifT_d (fun e1 => ?_) fun e1 => ?_
  · -- put
    rw [if_pos e1] at endF
    obtain ⟨all0, _, hc0⟩ := hsl.rs
    have hl64 := hc0.sec64
    refine s64 hh st7.P hsl (by omega) fun v22 w22 f22 hg22 => ?_
    obtain ⟨m, hm'⟩ := Int.eq_ofNat_of_zero_le hxn.1
    have hml : m < 2 ^ 20 := by omega
    have hz : zsec.length = 64 := by simp [zsec]
    have hB := st7.P.new
    -- the sectors, in memory of their own
    refine loopP_ind (fun i l w25 => ∃ (j : Nat) (v : AV), j ≤ m + 1 - (s.files x.file).length ∧ i = m + 1 - (s.files x.file).length - j ∧ l = [v] ∧ Ow (fz A (b6 :: b3 :: ids L)) [] w7 w25 [] ∧ Ga rSec (fz (fz A (b6 :: b3 :: ids L)) []) w7 w25 v (s.files x.file ++ List.replicate j zsec)) ?_
      ⟨0, v22, Nat.zero_le _, rfl, rfl, (st7.P.st.call f22).1, by rw [show s.files x.file ++ List.replicate 0 zsec = s.files x.file by simp]; exact hg22.inn⟩
    rintro i l w25 ⟨j, v, hj, rfl, rfl, so25, hg25⟩ R ih
    have f25 := so25.fr
    obtain ⟨st25, x25⟩ := st7.call f25
    have hljl : (s.files x.file ++ List.replicate j zsec).length = (s.files x.file).length + j := by simp
    have hrd := hg25.rd (by decide)
    refine ⟨v, rfl, fun _ => ⟨_, hrd.len', x.n, st25.ld 0 rfl rfl, ?_⟩⟩
    refine ifT_d (fun hc => ?_) fun hc => ?_
    · -- one sector more
      refine so25.new' fun b29 w30 so30 x30 => ?_
      obtain ⟨so31, x31, hA31, hb31⟩ := so30.drop
      have hb31 : Box w30 b29 z64 := hb31
      rw [z64_eq] at hb31
      have hrz : (rL rSec).rd (fz (fz A (b6 :: b3 :: ids L)) []) w30 [.slice b29 0 1 1 none] [zsec] := Box.rd1 hb31 hA31 ⟨rfl, hz⟩
      have hg30 : Ga rSec (fz (fz A (b6 :: b3 :: ids L)) []) w7 w30 v (s.files x.file ++ List.replicate j zsec) := (Ga.x x30 so25 hg25).x' x31 so30
      refine Ow.app (r := rSec) (bytes := 64) so31 hg30 hrz (by decide) (fun c hc => so31.P0.new c hc) (by rw [hljl]; simp; omega) (by rw [hljl]; simp; omega) fun v' w32 so32 x32 hg32 => ?_
      refine ih _ (by omega) _ _ ⟨j + 1, v', by omega, rfl, rfl, so32, ?_⟩
      rw [List.replicate_succ', ← List.append_assoc]
      exact hg32
    · -- the sector
      have hjm : j = m + 1 - (s.files x.file).length := by omega
      have hmlt : m < (s.files x.file ++ List.replicate j zsec).length := by rw [hljl]; omega
      refine ⟨x.n, st25.ld 0 rfl rfl, onM_s (v := .agg (cellsOfBytes x.data)) (st25.ldN 0 rfl (by rw [Stp.length hx]; decide) (congrArg AV.agg (Stp.cdata hx))) ?_⟩
      rw [hm']
      refine Ga.put hg25.out so25.mem hB rSec_flat (by decide) hmlt (vs := cellsOfBytes x.data) (x := x.data) ⟨rfl, hx⟩ fun bb hput => ?_
      simp only [onA]
      refine gd_t (ok_bytes _) (gd_t (by rw [cellsOfBytes_length, hx]; rfl) (hput _ fun w38 f38 z38 hrd38 => ?_))
      have hset : (s.files x.file ++ List.replicate j zsec).set m x.data = putS (s.files x.file) x.n.toNat x.data := by
        unfold putS; rw [hm', hjm]; rfl
      rw [hset] at hrd38
      obtain ⟨st38, x38⟩ := st7.call (f25.trans f38 (Nat.le_refl _))
      refine onM_s (st38.ld 1 rfl rfl) ⟨x.file, st38.ld 0 rfl rfl, ?_⟩
      refine st38.kvSet (b + 2) hb7 ((hF7.x x38).like _) fun w42 st42 e42 => ?_
      exact endF st42 (x38.trans e42) (hrd38.x e42) rfl
  rw [if_neg e1] at endN endF hK
  refine ifT_d (fun e2 => ?_) fun e2 => ?_
  · -- cut
    rw [if_pos e2] at endF
    obtain ⟨m, hm'⟩ := Int.eq_ofNat_of_zero_le hxn.1
    refine onM_s (st7.ld 1 rfl rfl) ⟨x.file, st7.ld 0 rfl rfl, _, hsl.len', x.n, st7.ld 0 rfl rfl, ?_⟩
    rw [hm', show imin (((s.files x.file).length : Nat) : Int) (m : Int) = ((min (s.files x.file).length m : Nat) : Int) from imin_nat _ _]
    obtain ⟨v', h1, h2⟩ := hsl.cut (i := 0) (j := min (s.files x.file).length m) (by omega) (by omega) (lo := none) (hi := some (.int .i64 ((min (s.files x.file).length m : Nat) : Int))) (.inr ⟨rfl, rfl⟩) (.inl rfl)
    refine onM_s h1 ?_
    rw [List.drop_zero] at h2
    have hcutl : ((s.files x.file).take (min (s.files x.file).length m)).length < 2 ^ 30 := by simp; omega
    refine s64 hh st7.P h2 hcutl fun v48 w49 f49 hg49 => ?_
    obtain ⟨st49, x49⟩ := st7.call f49
    refine ⟨st49.ld 0 rfl rfl, st49.ld 1 rfl rfl, ?_⟩
    have htk : (s.files x.file).take (min (s.files x.file).length m) = (s.files x.file).take x.n.toNat := by
      rw [hm']
      show _ = (s.files x.file).take m
      by_cases h : m ≤ (s.files x.file).length
      · rw [Nat.min_eq_right h]
      · rw [Nat.min_eq_left (by omega), List.take_of_length_le (by omega), List.take_of_length_le (by omega)]
    rw [htk] at hg49
    refine st49.kvSet (b + 2) hb7 ((hF7.x x49).like _) fun w51 st51 e51 => ?_
    exact endF st51 (x49.trans e51) ((hg49.rd (by decide)).x e51) rfl
  rw [if_neg e2] at endN hK
  cases hg : nget s.names x.name with
  | none =>
    rw [hg] at endN
    refine ifT_t (endN (ns := s.names) (by rw [stN_self ha]; exact st7) Xt.refl rfl)
  | some g =>
    rw [hg] at endN
    refine ifT_f ⟨x.file, st7.ld 0 rfl rfl, ?_⟩
    by_cases hgf : g = x.file
    · simp only [if_pos hgf] at endN
      refine ifT_nd (fun h => absurd hgf h) fun _ => ?_
      refine onM_s (st7.ld 1 rfl rfl) ⟨x.name, hname st7, ?_⟩
      refine st7.kvDel (a + 2) ha7 (nEnts_like _ _) fun w56 st56 e56 => ?_
      rw [nEnts_del] at st56
      have st56 : Ow A I w0 w56 ((b6, Ob.row x.cells) :: (b3, Ob.row [.map n, .map f]) :: stN L a (n, .map (nEnts (ndel s.names x.name)))) := st56
      refine ⟨x.what, st56.ld 0 rfl rfl, ifT_d (fun e3 => ?_) fun e3 => ?_⟩
      · simp only [if_pos e3] at endN
        refine onM_s (st56.ld 1 rfl rfl) ⟨x.to, st56.ld 0 rfl (Stp.cto hx), x.file, st56.ld 0 rfl rfl, ?_⟩
        have ha56 : nth ((b6, Ob.row x.cells) :: (b3, Ob.row [.map n, .map f]) :: stN L a (n, .map (nEnts (ndel s.names x.name)))) (a + 2) = some (n, .map (nEnts (ndel s.names x.name))) := nth_set_eq ha
        refine st56.kvSet (a + 2) ha56 (nEnts_like _ _) fun w62 st62 e62 => ?_
        rw [nEnts_ins] at st62
        have he : ids (stN L a (n, Ob.map (nEnts (ndel s.names x.name)))) = ids L := stN_ids ha rfl
        have e62 : Xt (b6 :: b3 :: ids (stN L a (n, Ob.map (nEnts (ndel s.names x.name))))) w56 (b6 :: b3 :: ids (stN L a (n, Ob.map (nEnts (ndel s.names x.name))))) w62 := e62
        rw [he] at e62
        have st62 : Ow A I w0 w62 ((b6, Ob.row x.cells) :: (b3, Ob.row [.map n, .map f]) :: stN (stN L a (n, .map (nEnts (ndel s.names x.name)))) a (n, .map (nEnts (nset (ndel s.names x.name) x.to x.file)))) := st62
        rw [stN_stN] at st62
        exact endN st62 (e56.trans e62) rfl
      · simp only [if_neg e3] at endN
        exact endN st56 e56 rfl
    · simp only [if_neg hgf] at endN
      exact ifT_nd (fun _ => endN (ns := s.names) (by rw [stN_self ha]; exact st7) Xt.refl rfl) fun h => absurd h hgf
end
end Go.Proofs.Ytdlogcincelccaa
