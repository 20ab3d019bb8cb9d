/-
 What the functions of this chapter do.
 No condition beyond those that each theorem names.
-/
import Derived.Test.YthpjoogmmjikmaaGreatDoorSxu
import Derived.Test.YthpjoogmmjikmaaGreatDoorProg
import Derived.KernelRfl
set_option linter.unusedSimpArgs false
open Go.Sx
set_option linter.unusedVariables false
namespace Go.Proofs.YthpjoogmmjikmaaGreatDoor
def z64 : List AV := List.replicate 64 (.int .u8 0)
def stepC (what file n : AV) (data : List AV) (name to : AV) : List AV := what :: file :: n :: (data ++ [name, to])
def F9 (hk : Hook)  (w : AW) (K : AV → AW → Prop) : Prop :=
 Cl Tryz.prog hk 36 [] w fun r_0 w_1 =>
 ∃ x_2 : AV, ∃ x_3 : AV, r_0 = (.agg [x_2, x_3]) ∧
 Cl Tryz.prog hk 36 [] w_1 fun r_4 w_5 =>
 ∃ x_6 : AV, ∃ x_7 : AV, r_4 = (.agg [x_6, x_7]) ∧
 gd (List.all [(.bool true), x_2, x_3, x_6, x_7, .nilslice, (.int .i64 0), (.bool false), (.int .i64 0), (.int .i64 0), (.int .i64 0)] okCell) (
 new w_5 [(.bool true), x_2, x_3, x_6, x_7, .nilslice, (.int .i64 0), (.bool false), (.int .i64 0), (.int .i64 0), (.int .i64 0)] fun b_8 w_9 =>
 K (.ptr b_8 0) w_9)
def adv9 : Adv := (.sq .lf (.sq .lf .lf))
set_option maxRecDepth 100000 in
theorem eq9 (hk : Hook)  (w : AW) (K : AV → AW → Prop) : fnS Tryz.prog hk Tryz.f9 adv9 [] w K = F9 hk  w K := by kernel_rfl
theorem in9 {hk : Hook} {w : AW} {K : AV → AW → Prop} (hn : hk 9 [] w = none) (h : F9 hk  w K) : Cl Tryz.prog hk 9 [] w K :=
 fnS_ok Tryz.func9 hn (by rw [eq9]; exact h)
def F10 (hk : Hook) (d_0 : AV) (name_1 : List UInt8) (most_2 : Int) (first_3 : Int) (w : AW) (K : AV → AW → Prop) : Prop :=
 new w [(.str name_1)] fun b_4 w_5 =>
 ∃ x_6 : List UInt8, ld w_5 b_4 0 = some (.str x_6) ∧
 ifT (decide ((Int.ofNat (List.length x_6)) < 1)) (K (.tup [.nilptr, (.int .i64 2)]) w_5)
 (∃ x_7 : List UInt8, ld w_5 b_4 0 = some (.str x_7) ∧
 ifT (decide (40 < (Int.ofNat (List.length x_7)))) (K (.tup [.nilptr, (.int .i64 2)]) w_5)
 (ifT (decide (most_2 < 1)) (K (.tup [.nilptr, (.int .i64 2)]) w_5)
 (ifT (decide (first_3 < 1)) (K (.tup [.nilptr, (.int .i64 2)]) w_5)
 (ifT (decide (1099511627776 < first_3)) (K (.tup [.nilptr, (.int .i64 2)]) w_5)
 (Cl Tryz.prog hk 37 [d_0, (.str [])] w_5 fun r_8 w_9 =>
 ∃ x_10 : Int, r_8 = (.int .i64 x_10) ∧
 ifT (decide (x_10 = 1)) (K (.tup [.nilptr, (.int .i64 1)]) w_9)
 (∃ x_11 : List UInt8, ld w_9 b_4 0 = some (.str x_11) ∧
 gd (okCell d_0) (
 gd (List.all [d_0, (.str x_11), (.int .i64 most_2), .nilslice, (.int .i64 first_3), (.int .i64 0), (.bool false)] okCell) (
 new w_9 [d_0, (.str x_11), (.int .i64 most_2), .nilslice, (.int .i64 first_3), (.int .i64 0), (.bool false)] fun b_12 w_13 =>
 Cl Tryz.prog hk 41 [d_0] w_13 fun r_14 w_15 =>
 ∃ x_16 : Int, lenS r_14 = some (.int .i64 x_16) ∧
 loopP [.nilslice, (.int .i64 0)] w_15 fun R_17 l_18 w_19 => ∃ numbers_20 : AV, ∃ x_21 : Int, l_18 = [numbers_20, (.int .i64 x_21)] ∧ ∀ _ : Nat → AV,
  ifT (decide (x_21 < x_16)) (atP (idxS 1 r_14 (.int .i64 x_21)) fun b_22 o_23 =>
  ∃ f_24 : List UInt8, ld w_19 b_22 o_23 = some (.str f_24) ∧
  Cl Tryz.prog hk 38 [(.str f_24), (.ptr b_4 0)] w_19 fun r_25 w_26 =>
  ∃ n_27 : Int, r_25 = (.int .i64 n_27) ∧
  ifT (decide (0 < n_27)) (new w_26 [(.int .i64 n_27)] fun b_28 w_29 =>
  onE (appS 1 8 w_29 numbers_20 (.slice b_28 0 1 1 none)) fun numbers_30 w_31 =>
  R_17 [numbers_30, (.int .i64 (wi (x_21 + 1)))] w_31)
  (R_17 [numbers_20, (.int .i64 (wi (x_21 + 1)))] w_26))
  (Cl Tryz.prog hk 42 [numbers_20] w_19 fun r_32 w_33 =>
 r_32 = .tup [] ∧
 ∃ x_34 : Int, lenS numbers_20 = some (.int .i64 x_34) ∧
 loopP [(.int .i64 0)] w_33 fun R_35 l_36 w_37 => ∃ x_38 : Int, l_36 = [(.int .i64 x_38)] ∧ ∀ _ : Nat → AV,
  ifT (decide (x_38 < x_34)) (atP (idxS 1 numbers_20 (.int .i64 x_38)) fun b_39 o_40 =>
  ∃ n_41 : Int, ld w_37 b_39 o_40 = some (.int .i64 n_41) ∧
  Cl Tryz.prog hk 44 [(.ptr b_12 0), (.int .i64 n_41)] w_37 fun r_42 w_43 =>
  ∃ x_44 : List UInt8, r_42 = (.str x_44) ∧
  Cl Tryz.prog hk 43 [d_0, (.str x_44)] w_43 fun r_45 w_46 =>
  ∃ x_47 : AV, ∃ x_48 : Int, r_45 = .tup [x_47, (.int .i64 x_48)] ∧
  ifT (!decide (x_48 = 0)) (K (.tup [.nilptr, (.int .i64 x_48)]) w_46)
  (join (fun l_49 w_50 => l_49 = [] ∧ ∀ _ : Nat → AV,
  onM (ld w_50 b_12 (0 + 3)) fun x_52 =>
  gd (okCell x_47) (
  gd (List.all [(.int .i64 n_41), x_47] okCell) (
  new w_50 [(.int .i64 n_41), x_47] fun b_53 w_54 =>
  onE (appS 2 16 w_54 x_52 (.slice b_53 0 1 1 none)) fun x_55 w_56 =>
  gd (okCell x_55) (
  onM (AW.putCells w_56 b_12 (0 + 3) [x_55]) fun w_57 =>
  R_35 [(.int .i64 (wi (x_38 + 1)))] w_57)))) fun J_51 =>
  onM (ld w_46 b_12 (0 + 3)) fun x_58 =>
  ∃ x_59 : Int, lenS x_58 = some (.int .i64 x_59) ∧
  ifT (decide (0 < x_59)) (Cl Tryz.prog hk 24 [(.ptr b_12 0)] w_46 fun r_60 w_61 =>
  ∃ x_62 : Int, r_60 = (.int .i64 x_62) ∧
  ifT (!decide (n_41 = (wi (x_62 + 1)))) (K (.tup [.nilptr, (.int .i64 81)]) w_61)
  (J_51 [] w_61))
  (J_51 [] w_46)))
  (Cl Tryz.prog hk 24 [(.ptr b_12 0)] w_37 fun r_63 w_64 =>
 ∃ x_65 : Int, r_63 = (.int .i64 x_65) ∧
 onM (AW.putCells w_64 b_12 (0 + 5) [(.int .i64 x_65)]) fun w_66 =>
 K (.tup [(.ptr b_12 0), (.int .i64 0)]) w_66))))))))))
def adv10 : Adv := (.sq .lf (.sq (.sq .lf (.cd (.sq .lf .lf) .lf)) (.sq (.sq .lf (.cd (.sq .lf .lf) .lf)) (.sq .lf (.sq .lf (.sq .lf (.sq (.sq .lf (.bl (.lp [(11, .sc (.opq)), (53, .sc (.int .i64))] (.sq .lf (.sq (.cd .lf .lf) (.sq (.bl (.sq .lf (.sq .lf (.sq .lf (.cd .lf .lf))))) .lf)))))) (.sq .lf (.sq (.sq .lf (.bl (.lp [(71, .sc (.int .i64))] (.sq .lf (.sq (.cd .lf .lf) (.sq (.bl (.sq .lf (.sq .lf (.sq (.sq .lf (.cd (.sq .lf .lf) .lf)) (.sj [] (.sq .lf (.cd (.sq .lf .lf) .lf)) .lf))))) .lf)))))) (.sq .lf (.sq .lf .lf)))))))))))
set_option maxRecDepth 100000 in
theorem eq10 (hk : Hook) (d_0 : AV) (name_1 : List UInt8) (most_2 : Int) (first_3 : Int) (w : AW) (K : AV → AW → Prop) : fnS Tryz.prog hk Tryz.f10 adv10 [d_0, (.str name_1), (.int .i64 most_2), (.int .i64 first_3)] w K = F10 hk d_0 name_1 most_2 first_3 w K := by kernel_rfl
theorem in10 {hk : Hook} {d_0 : AV} {name_1 : List UInt8} {most_2 : Int} {first_3 : Int} {w : AW} {K : AV → AW → Prop} (hn : hk 10 [d_0, (.str name_1), (.int .i64 most_2), (.int .i64 first_3)] w = none) (h : F10 hk d_0 name_1 most_2 first_3 w K) : Cl Tryz.prog hk 10 [d_0, (.str name_1), (.int .i64 most_2), (.int .i64 first_3)] w K :=
 fnS_ok Tryz.func10 hn (by rw [eq10]; exact h)
def F11 (hk : Hook) (l_0 : AV) (body_1 : AV) (w : AW) (K : AV → AW → Prop) : Prop :=
 Cl Tryz.prog hk 45 [l_0] w fun r_2 w_3 =>
 ∃ e_4 : Int, r_2 = (.int .i64 e_4) ∧
 ifT (!decide (e_4 = 0)) (K (.tup [(.int .i64 0), (.int .i64 e_4)]) w_3)
 (∃ x_5 : Int, lenS body_1 = some (.int .i64 x_5) ∧
 ifT (decide (65536 < x_5)) (K (.tup [(.int .i64 0), (.int .i64 3)]) w_3)
 (Cl Tryz.prog hk 46 [l_0] w_3 fun r_6 w_7 =>
 ∃ x_8 : Int, ∃ x_9 : AV, ∃ x_10 : Bool, r_6 = .tup [(.agg [(.int .i64 x_8), x_9]), (.bool x_10)] ∧
 new w_7 [(.int .i64 0), .nilptr] fun b_11 w_12 =>
 gd (List.all [(.int .i64 x_8), x_9] okCell) (
 onM (AW.putCells w_12 b_11 0 [(.int .i64 x_8), x_9]) fun w_13 =>
 join (fun l_14 w_15 => l_14 = [] ∧ ∀ _ : Nat → AV,
  join (fun l_17 w_18 => l_17 = [] ∧ ∀ _ : Nat → AV,
  onM (ld w_18 b_11 (0 + 1)) fun x_20 =>
  Cl Tryz.prog hk 50 [x_20, body_1] w_18 fun r_21 w_22 =>
  ∃ x_23 : Int, ∃ x_24 : Int, r_21 = .tup [(.int .i64 x_23), (.int .i64 x_24)] ∧
  Cl Tryz.prog hk 48 [l_0, (.int .i64 x_24)] w_22 fun r_25 w_26 =>
  ∃ x_27 : Int, r_25 = (.int .i64 x_27) ∧
  ifT (!decide (x_27 = 0)) (K (.tup [(.int .i64 0), (.int .i64 x_24)]) w_26)
  (Cl Tryz.prog hk 24 [l_0] w_26 fun r_28 w_29 =>
  ∃ x_30 : Int, r_28 = (.int .i64 x_30) ∧
  K (.tup [(.int .i64 x_30), (.int .i64 0)]) w_29)) fun J_19 =>
  join (fun l_31 w_32 => ∃ x_34 : Bool, l_31 = [(.bool x_34)] ∧ ∀ _ : Nat → AV,
  ifT x_34 (Cl Tryz.prog hk 24 [l_0] w_32 fun r_35 w_36 =>
   ∃ x_37 : Int, r_35 = (.int .i64 x_37) ∧
   onP l_0 fun b_38 o_39 =>
   onM (ld w_36 b_38 (o_39 + 0)) fun x_40 =>
   Cl Tryz.prog hk 44 [l_0, (.int .i64 (wi (x_37 + 1)))] w_36 fun r_41 w_42 =>
   ∃ x_43 : List UInt8, r_41 = (.str x_43) ∧
   ld w_42 b_38 (o_39 + 0) = some x_40 ∧
   Cl Tryz.prog hk 43 [x_40, (.str x_43)] w_42 fun r_44 w_45 =>
   ∃ x_46 : AV, ∃ x_47 : Int, r_44 = .tup [x_46, (.int .i64 x_47)] ∧
   Cl Tryz.prog hk 48 [l_0, (.int .i64 x_47)] w_45 fun r_48 w_49 =>
   ∃ x_50 : Int, r_48 = (.int .i64 x_50) ∧
   ifT (!decide (x_50 = 0)) (K (.tup [(.int .i64 0), (.int .i64 x_47)]) w_49)
   (gd (okCell x_46) (
   gd (List.all [(.int .i64 (wi (x_37 + 1))), x_46] okCell) (
   onM (AW.putCells w_49 b_11 0 [(.int .i64 (wi (x_37 + 1))), x_46]) fun w_51 =>
   onP l_0 fun b_52 o_53 =>
   onM (ld w_51 b_52 (o_53 + 3)) fun x_54 =>
   ∃ x_55 : Int, ∃ x_56 : AV, ldN 2 w_51 b_11 0 = some (.agg [(.int .i64 x_55), x_56]) ∧
   gd (List.all [(.int .i64 x_55), x_56] okCell) (
   new w_51 [(.int .i64 x_55), x_56] fun b_57 w_58 =>
   ldN 2 w_58 b_11 0 = some (.agg [(.int .i64 x_55), x_56]) ∧
   ld w_58 b_52 (o_53 + 3) = some x_54 ∧
   onE (appS 2 16 w_58 x_54 (.slice b_57 0 1 1 none)) fun x_59 w_60 =>
   onP l_0 fun b_61 o_62 =>
   gd (okCell x_59) (
   onM (AW.putCells w_60 b_61 (o_62 + 3) [x_59]) fun w_63 =>
   J_19 [] w_63))))))
  (J_19 [] w_32)) fun J_33 =>
  ifT (!x_10) (J_33 [(.bool true)] w_15)
  (onM (ld w_15 b_11 (0 + 1)) fun x_64 =>
  onP l_0 fun b_65 o_66 =>
  ∃ x_67 : Int, ld w_15 b_65 (o_66 + 2) = some (.int .i64 x_67) ∧
  Cl Tryz.prog hk 47 [x_64] w_15 fun r_68 w_69 =>
  ∃ x_70 : Int, r_68 = (.int .i64 x_70) ∧
  ld w_69 b_65 (o_66 + 2) = some (.int .i64 x_67) ∧
  J_33 [(.bool (decide (x_67 ≤ x_70)))] w_69)) fun J_16 =>
 ifT x_10 (onM (ld w_13 b_11 (0 + 1)) fun x_71 =>
 onP l_0 fun b_72 o_73 =>
 ∃ x_74 : Int, ld w_13 b_72 (o_73 + 2) = some (.int .i64 x_74) ∧
 Cl Tryz.prog hk 47 [x_71] w_13 fun r_75 w_76 =>
 ∃ x_77 : Int, r_75 = (.int .i64 x_77) ∧
 ld w_76 b_72 (o_73 + 2) = some (.int .i64 x_74) ∧
 ifT (decide (x_74 ≤ x_77)) (onM (ld w_76 b_11 (0 + 1)) fun x_78 =>
  Cl Tryz.prog hk 49 [x_78] w_76 fun r_79 w_80 =>
  ∃ x_81 : Int, r_79 = (.int .i64 x_81) ∧
  Cl Tryz.prog hk 48 [l_0, (.int .i64 x_81)] w_80 fun r_82 w_83 =>
  ∃ e_84 : Int, r_82 = (.int .i64 e_84) ∧
  ifT (!decide (e_84 = 0)) (K (.tup [(.int .i64 0), (.int .i64 e_84)]) w_83)
  (J_16 [] w_83))
 (J_16 [] w_76))
 (J_16 [] w_13))))
def adv11 : Adv := (.sq .lf (.sq (.sq .lf (.sq .lf (.cd (.sq .lf .lf) .lf))) (.sq (.sq .lf (.cd (.sq .lf .lf) .lf)) (.sq .lf (.sj [] (.sq .lf (.cd (.sq .lf (.sq .lf (.cd (.sq .lf .lf) .lf))) .lf)) (.sj [] (.sj [(58, .sc (.bool))] .lf (.cd (.sq .lf (.sq .lf (.sq (.sq .lf (.cd (.sq .lf .lf) .lf)) (.sq .lf .lf)))) .lf)) (.sq (.sq .lf (.sq .lf (.cd (.sq .lf .lf) .lf))) (.sq .lf .lf))))))))
set_option maxRecDepth 100000 in
theorem eq11 (hk : Hook) (l_0 : AV) (body_1 : AV) (w : AW) (K : AV → AW → Prop) : fnS Tryz.prog hk Tryz.f11 adv11 [l_0, body_1] w K = F11 hk l_0 body_1 w K := by kernel_rfl
theorem in11 {hk : Hook} {l_0 : AV} {body_1 : AV} {w : AW} {K : AV → AW → Prop} (hn : hk 11 [l_0, body_1] w = none) (h : F11 hk l_0 body_1 w K) : Cl Tryz.prog hk 11 [l_0, body_1] w K :=
 fnS_ok Tryz.func11 hn (by rw [eq11]; exact h)
def F12 (hk : Hook) (l_0 : AV) (from_1 : Int) (most_2 : Int) (w : AW) (K : AV → AW → Prop) : Prop :=
 Cl Tryz.prog hk 51 [l_0] w fun r_3 w_4 =>
 ∃ x_5 : Bool, r_3 = (.bool x_5) ∧
 ifT x_5 (K (.tup [.nilslice, (.int .i64 1)]) w_4)
 (ifT (decide (most_2 < 0)) (K (.tup [.nilslice, (.int .i64 2)]) w_4)
  (Cl Tryz.prog hk 23 [l_0] w_4 fun r_6 w_7 =>
  ∃ x_8 : Int, r_6 = (.int .i64 x_8) ∧
  ifT (decide (from_1 < x_8)) (K (.tup [.nilslice, (.int .i64 80)]) w_7)
  (Cl Tryz.prog hk 24 [l_0] w_7 fun r_9 w_10 =>
  ∃ x_11 : Int, r_9 = (.int .i64 x_11) ∧
  ifT (decide ((wi (x_11 + 1)) < from_1)) (K (.tup [.nilslice, (.int .i64 80)]) w_10)
  (loopP [.nilslice, (.int .i64 from_1)] w_10 fun R_12 l_13 w_14 => ∃ out_15 : AV, ∃ n_16 : Int, l_13 = [out_15, (.int .i64 n_16)] ∧ ∀ _ : Nat → AV,
  Cl Tryz.prog hk 24 [l_0] w_14 fun r_17 w_18 =>
  ∃ x_19 : Int, r_17 = (.int .i64 x_19) ∧
  ifT (decide (n_16 ≤ x_19)) (∃ x_20 : Int, lenS out_15 = some (.int .i64 x_20) ∧
  ifT (decide (x_20 < most_2)) (onP l_0 fun b_21 o_22 =>
  onM (ld w_18 b_21 (o_22 + 3)) fun x_23 =>
  new w_18 [(.int .i64 0), .nilptr] fun b_24 w_25 =>
  ld w_25 b_21 (o_22 + 3) = some x_23 ∧
  Cl Tryz.prog hk 52 [l_0, (.int .i64 n_16)] w_25 fun r_26 w_27 =>
  ∃ x_28 : Int, r_26 = (.int .i64 x_28) ∧
  ld w_27 b_21 (o_22 + 3) = some x_23 ∧
  atP (idxS 2 x_23 (.int .i64 x_28)) fun b_29 o_30 =>
  ∃ x_31 : Int, ∃ x_32 : AV, ldN 2 w_27 b_29 o_30 = some (.agg [(.int .i64 x_31), x_32]) ∧
  gd (List.all [(.int .i64 x_31), x_32] okCell) (
  onM (AW.putCells w_27 b_24 0 [(.int .i64 x_31), x_32]) fun w_33 =>
  onM (ld w_33 b_24 (0 + 1)) fun x_34 =>
  ∃ x_35 : Int, ld w_33 b_24 (0 + 0) = some (.int .i64 x_35) ∧
  Cl Tryz.prog hk 53 [x_34, (.int .i64 (wi (n_16 - x_35)))] w_33 fun r_36 w_37 =>
  ∃ x_38 : AV, ∃ x_39 : Int, r_36 = .tup [x_38, (.int .i64 x_39)] ∧
  gd (okCell x_38) (
  new w_37 [x_38] fun b_40 w_41 =>
  onE (appS 1 24 w_41 out_15 (.slice b_40 0 1 1 none)) fun out_42 w_43 =>
  R_12 [out_42, (.int .i64 (wi (n_16 + 1)))] w_43)))
  (K (.tup [out_15, (.int .i64 0)]) w_18))
  (K (.tup [out_15, (.int .i64 0)]) w_18)))))
def adv12 : Adv := (.sq .lf (.sq (.bl (.sq .lf (.cd (.sq .lf .lf) (.sq .lf (.cd (.sq .lf .lf) (.sq .lf (.cd (.sq .lf .lf) .lf))))))) (.sq .lf (.sq (.sq .lf (.bl (.lp [(8, .sc (.opq)), (9, .sc (.int .i64))] (.sq (.sq .lf (.cd .lf .lf)) (.sq (.bl (.sq .lf (.sq .lf .lf))) .lf))))) (.sq .lf .lf)))))
set_option maxRecDepth 100000 in
theorem eq12 (hk : Hook) (l_0 : AV) (from_1 : Int) (most_2 : Int) (w : AW) (K : AV → AW → Prop) : fnS Tryz.prog hk Tryz.f12 adv12 [l_0, (.int .i64 from_1), (.int .i64 most_2)] w K = F12 hk l_0 from_1 most_2 w K := by kernel_rfl
theorem in12 {hk : Hook} {l_0 : AV} {from_1 : Int} {most_2 : Int} {w : AW} {K : AV → AW → Prop} (hn : hk 12 [l_0, (.int .i64 from_1), (.int .i64 most_2)] w = none) (h : F12 hk l_0 from_1 most_2 w K) : Cl Tryz.prog hk 12 [l_0, (.int .i64 from_1), (.int .i64 most_2)] w K :=
 fnS_ok Tryz.func12 hn (by rw [eq12]; exact h)
def F13 (hk : Hook) (l_0 : AV) (w : AW) (K : AV → AW → Prop) : Prop :=
 Cl Tryz.prog hk 51 [l_0] w fun r_1 w_2 =>
 ∃ x_3 : Bool, r_1 = (.bool x_3) ∧
 ifT x_3 (K .nilslice w_2)
 (onP l_0 fun b_4 o_5 =>
 onM (ld w_2 b_4 (o_5 + 3)) fun x_6 =>
 ∃ x_7 : Int, lenS x_6 = some (.int .i64 x_7) ∧
 loopP [.nilslice, (.int .i64 0)] w_2 fun R_8 l_9 w_10 => ∃ out_11 : AV, ∃ x_12 : Int, l_9 = [out_11, (.int .i64 x_12)] ∧ ∀ _ : Nat → AV,
  ifT (decide (x_12 < x_7)) (atP (idxS 2 x_6 (.int .i64 x_12)) fun b_13 o_14 =>
  ∃ x_15 : Int, ∃ x_16 : AV, ldN 2 w_10 b_13 o_14 = some (.agg [(.int .i64 x_15), x_16]) ∧
  new w_10 [(.int .i64 0), .nilptr] fun b_17 w_18 =>
  gd (List.all [(.int .i64 x_15), x_16] okCell) (
  onM (AW.putCells w_18 b_17 0 [(.int .i64 x_15), x_16]) fun w_19 =>
  ∃ x_20 : Int, ld w_19 b_17 (0 + 0) = some (.int .i64 x_20) ∧
  new w_19 [(.int .i64 x_20)] fun b_21 w_22 =>
  onE (appS 1 8 w_22 out_11 (.slice b_21 0 1 1 none)) fun out_23 w_24 =>
  R_8 [out_23, (.int .i64 (wi (x_12 + 1)))] w_24))
  (K out_11 w_10))
def adv13 : Adv := (.sq .lf (.sq (.sq .lf (.cd (.sq .lf .lf) .lf)) (.sq .lf (.sq (.sq .lf (.bl (.lp [(3, .sc (.opq)), (13, .sc (.int .i64))] (.sq .lf (.sq (.cd .lf .lf) (.sq (.bl (.sq .lf .lf)) .lf)))))) (.sq .lf .lf)))))
set_option maxRecDepth 100000 in
theorem eq13 (hk : Hook) (l_0 : AV) (w : AW) (K : AV → AW → Prop) : fnS Tryz.prog hk Tryz.f13 adv13 [l_0] w K = F13 hk l_0 w K := by kernel_rfl
theorem in13 {hk : Hook} {l_0 : AV} {w : AW} {K : AV → AW → Prop} (hn : hk 13 [l_0] w = none) (h : F13 hk l_0 w K) : Cl Tryz.prog hk 13 [l_0] w K :=
 fnS_ok Tryz.func13 hn (by rw [eq13]; exact h)
def F17 (hk : Hook) (a_0 : AV) (b_1 : AV) (w : AW) (K : AV → AW → Prop) : Prop :=
 ∃ x_2 : List UInt8, b2s w a_0 = some (.str x_2) ∧
 ∃ x_3 : List UInt8, b2s w b_1 = some (.str x_3) ∧
 K (.bool (x_2 == x_3)) w
def adv17 : Adv := (.sq .lf (.sq .lf .lf))
set_option maxRecDepth 100000 in
theorem eq17 (hk : Hook) (a_0 : AV) (b_1 : AV) (w : AW) (K : AV → AW → Prop) : fnS Tryz.prog hk Tryz.f17 adv17 [a_0, b_1] w K = F17 hk a_0 b_1 w K := by kernel_rfl
theorem in17 {hk : Hook} {a_0 : AV} {b_1 : AV} {w : AW} {K : AV → AW → Prop} (hn : hk 17 [a_0, b_1] w = none) (h : F17 hk a_0 b_1 w K) : Cl Tryz.prog hk 17 [a_0, b_1] w K :=
 fnS_ok Tryz.func17 hn (by rw [eq17]; exact h)
def F23 (hk : Hook) (l_0 : AV) (w : AW) (K : AV → AW → Prop) : Prop :=
 Cl Tryz.prog hk 51 [l_0] w fun r_1 w_2 =>
 ∃ x_3 : Bool, r_1 = (.bool x_3) ∧
 ifT x_3 (K (.int .i64 0) w_2)
 (onP l_0 fun b_4 o_5 =>
  onM (ld w_2 b_4 (o_5 + 3)) fun x_6 =>
  ∃ x_7 : Int, lenS x_6 = some (.int .i64 x_7) ∧
  ifT (decide (x_7 = 0)) (onP l_0 fun b_8 o_9 =>
  ∃ x_10 : Int, ld w_2 b_8 (o_9 + 4) = some (.int .i64 x_10) ∧
  K (.int .i64 x_10) w_2)
  (onP l_0 fun b_11 o_12 =>
 onM (ld w_2 b_11 (o_12 + 3)) fun x_13 =>
 atP (idxS 2 x_13 (.int .i64 0)) fun b_14 o_15 =>
 ∃ x_16 : Int, ld w_2 b_14 (o_15 + 0) = some (.int .i64 x_16) ∧
 K (.int .i64 x_16) w_2))
def adv23 : Adv := (.sq .lf (.sq (.bl (.sq .lf (.cd (.sq .lf .lf) (.sq .lf (.cd (.sq .lf .lf) .lf))))) (.sq .lf .lf)))
set_option maxRecDepth 100000 in
theorem eq23 (hk : Hook) (l_0 : AV) (w : AW) (K : AV → AW → Prop) : fnS Tryz.prog hk Tryz.f23 adv23 [l_0] w K = F23 hk l_0 w K := by kernel_rfl
theorem in23 {hk : Hook} {l_0 : AV} {w : AW} {K : AV → AW → Prop} (hn : hk 23 [l_0] w = none) (h : F23 hk l_0 w K) : Cl Tryz.prog hk 23 [l_0] w K :=
 fnS_ok Tryz.func23 hn (by rw [eq23]; exact h)
def F24 (hk : Hook) (l_0 : AV) (w : AW) (K : AV → AW → Prop) : Prop :=
 Cl Tryz.prog hk 51 [l_0] w fun r_1 w_2 =>
 ∃ x_3 : Bool, r_1 = (.bool x_3) ∧
 ifT x_3 (K (.int .i64 0) w_2)
 (Cl Tryz.prog hk 46 [l_0] w_2 fun r_4 w_5 =>
 ∃ x_6 : Int, ∃ x_7 : AV, ∃ x_8 : Bool, r_4 = .tup [(.agg [(.int .i64 x_6), x_7]), (.bool x_8)] ∧
 new w_5 [(.int .i64 0), .nilptr] fun b_9 w_10 =>
 gd (List.all [(.int .i64 x_6), x_7] okCell) (
 onM (AW.putCells w_10 b_9 0 [(.int .i64 x_6), x_7]) fun w_11 =>
 ifT x_8 (∃ x_12 : Int, ld w_11 b_9 (0 + 0) = some (.int .i64 x_12) ∧
  onM (ld w_11 b_9 (0 + 1)) fun x_13 =>
  Cl Tryz.prog hk 58 [x_13] w_11 fun r_14 w_15 =>
  ∃ x_16 : Int, r_14 = (.int .i64 x_16) ∧
  ld w_15 b_9 (0 + 0) = some (.int .i64 x_12) ∧
  K (.int .i64 (wi ((wi (x_12 + x_16)) - 1))) w_15)
 (onP l_0 fun b_17 o_18 =>
 ∃ x_19 : Int, ld w_11 b_17 (o_18 + 4) = some (.int .i64 x_19) ∧
 K (.int .i64 (wi (x_19 - 1))) w_11)))
def adv24 : Adv := (.sq .lf (.sq (.sq .lf (.cd (.sq .lf .lf) .lf)) (.sq (.sq .lf (.sq .lf (.cd (.sq .lf .lf) .lf))) (.sq .lf .lf))))
set_option maxRecDepth 100000 in
theorem eq24 (hk : Hook) (l_0 : AV) (w : AW) (K : AV → AW → Prop) : fnS Tryz.prog hk Tryz.f24 adv24 [l_0] w K = F24 hk l_0 w K := by kernel_rfl
theorem in24 {hk : Hook} {l_0 : AV} {w : AW} {K : AV → AW → Prop} (hn : hk 24 [l_0] w = none) (h : F24 hk l_0 w K) : Cl Tryz.prog hk 24 [l_0] w K :=
 fnS_ok Tryz.func24 hn (by rw [eq24]; exact h)
def F29 (hk : Hook) (d_0 : AV) (name_1 : List UInt8) (at_2 : Int) (data_3 : AV) (w : AW) (K : AV → AW → Prop) : Prop :=
 Cl Tryz.prog hk 59 [d_0, (.str name_1)] w fun r_4 w_5 =>
 ∃ x_6 : Int, ∃ x_7 : Int, r_4 = .tup [(.int .i64 x_6), (.int .i64 x_7)] ∧
 join (fun l_8 w_9 => l_8 = [] ∧ ∀ _ : Nat → AV,
  atP (s2p 64 data_3) fun b_11 o_12 =>
  onM (ldN 64 w_9 b_11 o_12) fun x_13 =>
  onA x_13 fun cs_14 =>
  gd (Nat.beq cs_14.length 64 && Nat.ble 67 69) (
  new w_9 (stepC (.int .i64 0) (.int .i64 0) (.int .i64 0) z64 (.str []) (.str [])) fun b_15 w_16 =>
  gd (List.all (listPut (stepC (.int .i64 1) (.int .i64 x_6) (.int .i64 at_2) z64 (.str []) (.str [])) 3 cs_14) okCell) (
  gd (Nat.beq (listPut (stepC (.int .i64 1) (.int .i64 x_6) (.int .i64 at_2) z64 (.str []) (.str [])) 3 cs_14).length 69) (onM (AW.putCells w_16 b_15 0 (listPut (stepC (.int .i64 1) (.int .i64 x_6) (.int .i64 at_2) z64 (.str []) (.str [])) 3 cs_14)) fun w_17 =>
  ifT (decide (x_7 = 0)) (onM (ldN 69 w_17 b_15 0) fun x_18 =>
  onA x_18 fun cs_19 => gd (List.all cs_19 okCell) (
  gd (Nat.beq cs_19.length 69 && Nat.ble 69 69) (
  new w_17 (listPut (stepC (.int .i64 0) (.int .i64 0) (.int .i64 0) z64 (.str []) (.str [])) 0 cs_19) fun b_20 w_21 =>
  Cl Tryz.prog hk 61 [d_0, (.slice b_20 0 1 1 none)] w_21 fun r_22 w_23 =>
  ∃ x_24 : Int, r_22 = (.int .i64 x_24) ∧
  K (.int .i64 x_24) w_23)))
  (onP d_0 fun b_25 o_26 =>
  ∃ x_27 : Int, ld w_17 b_25 (o_26 + 6) = some (.int .i64 x_27) ∧
  onM (AW.putCells w_17 b_15 (0 + 1) [(.int .i64 (wi (x_27 + 1)))]) fun w_28 =>
  ∃ x_29 : Int, ld w_28 b_15 (0 + 1) = some (.int .i64 x_29) ∧
  onM (ldN 69 w_28 b_15 0) fun x_30 =>
  onA x_30 fun cs_31 => gd (List.all cs_31 okCell) (
  gd (Nat.beq cs_31.length 69 && Nat.ble 138 138) (
  new w_28 (listPut ((stepC (.int .i64 0) (.int .i64 x_29) (.int .i64 0) z64 (.str name_1) (.str [])) ++ (stepC (.int .i64 0) (.int .i64 0) (.int .i64 0) z64 (.str []) (.str []))) 69 cs_31) fun b_32 w_33 =>
  Cl Tryz.prog hk 61 [d_0, (.slice b_32 0 2 2 none)] w_33 fun r_34 w_35 =>
  ∃ e_36 : Int, r_34 = (.int .i64 e_36) ∧
  ifT (!decide (e_36 = 0)) (K (.int .i64 e_36) w_35)
  (onP d_0 fun b_37 o_38 =>
  ∃ x_39 : Int, ld w_35 b_37 (o_38 + 6) = some (.int .i64 x_39) ∧
  onP d_0 fun b_40 o_41 =>
  onM (AW.putCells w_35 b_40 (o_41 + 6) [(.int .i64 (wi (x_39 + 1)))]) fun w_42 =>
  K (.int .i64 0) w_42)))))))) fun J_10 =>
 ifT (decide (x_7 = 1)) (K (.int .i64 x_7) w_5)
 (join (fun l_43 w_44 => ∃ x_46 : Bool, l_43 = [(.bool x_46)] ∧ ∀ _ : Nat → AV,
  ifT x_46 (K (.int .i64 2) w_44)
  (ifT (decide (at_2 = 4096)) (K (.int .i64 5) w_44)
   (ifT (decide (x_7 = 70)) (onP d_0 fun b_47 o_48 =>
   onM (ld w_44 b_47 ((o_48 + 3) + 0)) fun x_49 =>
   ∃ x_50 : Int, lenM w_44 x_49 = some (.int .i64 x_50) ∧
   ifT (decide (256 ≤ x_50)) (K (.int .i64 5) w_44)
   (J_10 [] w_44))
   (J_10 [] w_44)))) fun J_45 =>
  Cl Tryz.prog hk 60 [(.str name_1)] w_5 fun r_51 w_52 =>
  ∃ x_53 : Bool, r_51 = (.bool x_53) ∧
  ifT (!x_53) (J_45 [(.bool true)] w_52)
  (∃ x_54 : Int, lenS data_3 = some (.int .i64 x_54) ∧
  ifT (!decide (x_54 = 64)) (J_45 [(.bool true)] w_52)
  (ifT (decide (at_2 < 0)) (J_45 [(.bool true)] w_52)
  (onP d_0 fun b_55 o_56 =>
  onM (ld w_52 b_55 ((o_56 + 3) + 1)) fun x_57 =>
  onM (lookS .nilslice false w_52 x_57 (.int .i64 x_6)) fun x_58 =>
  ∃ x_59 : Int, lenS x_58 = some (.int .i64 x_59) ∧
  ifT (decide (x_59 < at_2)) (J_45 [(.bool true)] w_52)
  (ifT (decide (x_7 = 70)) (J_45 [(.bool (decide (0 < at_2)))] w_52)
  (J_45 [(.bool false)] w_52))))))
def adv29 : Adv := (.sq .lf (.sq .lf (.sj [] (.bl (.sq .lf (.cd (.sq .lf .lf) (.sj [(23, .sc (.bool))] .lf (.cd (.sq .lf .lf) (.sq .lf (.cd (.sq .lf .lf) .lf))))))) (.sq .lf (.sq (.sq .lf (.cd (.sq .lf .lf) .lf)) (.sq .lf (.sq (.sq .lf (.sq .lf (.cd (.sq .lf .lf) .lf))) (.sq .lf (.sq .lf .lf)))))))))
set_option maxRecDepth 100000 in
theorem eq29 (hk : Hook) (d_0 : AV) (name_1 : List UInt8) (at_2 : Int) (data_3 : AV) (w : AW) (K : AV → AW → Prop) : fnS Tryz.prog hk Tryz.f29 adv29 [d_0, (.str name_1), (.int .i64 at_2), data_3] w K = F29 hk d_0 name_1 at_2 data_3 w K := by kernel_rfl
theorem in29 {hk : Hook} {d_0 : AV} {name_1 : List UInt8} {at_2 : Int} {data_3 : AV} {w : AW} {K : AV → AW → Prop} (hn : hk 29 [d_0, (.str name_1), (.int .i64 at_2), data_3] w = none) (h : F29 hk d_0 name_1 at_2 data_3 w K) : Cl Tryz.prog hk 29 [d_0, (.str name_1), (.int .i64 at_2), data_3] w K :=
 fnS_ok Tryz.func29 hn (by rw [eq29]; exact h)
def F36 (hk : Hook)  (w : AW) (K : AV → AW → Prop) : Prop :=
 new w [.nilmap, .nilmap] fun b_0 w_1 =>
 newMap w_1 fun m_2 w_3 =>
 newMap w_3 fun m_4 w_5 =>
 onM (AW.putCells w_5 b_0 0 [(.map m_2), (.map m_4)]) fun w_6 =>
 ∃ res_7 : AV, ∃ res_8 : AV, ldN 2 w_6 b_0 0 = some (.agg [res_7, res_8]) ∧
 K (.agg [res_7, res_8]) w_6
def adv36 : Adv := (.sq .lf (.sq .lf .lf))
set_option maxRecDepth 100000 in
theorem eq36 (hk : Hook)  (w : AW) (K : AV → AW → Prop) : fnS Tryz.prog hk Tryz.f36 adv36 [] w K = F36 hk  w K := by kernel_rfl
theorem in36 {hk : Hook} {w : AW} {K : AV → AW → Prop} (hn : hk 36 [] w = none) (h : F36 hk  w K) : Cl Tryz.prog hk 36 [] w K :=
 fnS_ok Tryz.func36 hn (by rw [eq36]; exact h)
def F37 (hk : Hook) (d_0 : AV) (name_1 : List UInt8) (w : AW) (K : AV → AW → Prop) : Prop :=
 Cl Tryz.prog hk 59 [d_0, (.str name_1)] w fun r_2 w_3 =>
 ∃ x_4 : Int, ∃ x_5 : Int, r_2 = .tup [(.int .i64 x_4), (.int .i64 x_5)] ∧
 new w_3 [(.int .i64 0)] fun b_6 w_7 =>
 onM (AW.putCells w_7 b_6 0 [(.int .i64 x_4)]) fun w_8 =>
 ifT (!decide (x_5 = 0)) (K (.int .i64 x_5) w_8)
 (onP d_0 fun b_9 o_10 =>
 onM (ld w_8 b_9 (o_10 + 5)) fun x_11 =>
 Cl Tryz.prog hk 66 [x_11, (.func 67 [] [(.ptr b_6 0)])] w_8 fun r_12 w_13 =>
 ∃ x_14 : Int, r_12 = (.int .i64 x_14) ∧
 new w_13 [(.int .i64 0)] fun b_15 w_16 =>
 onM (AW.putCells w_16 b_15 0 [(.int .i64 x_14)]) fun w_17 =>
 Cl Tryz.prog hk 68 [d_0, (.func 69 [] [(.ptr b_6 0), (.ptr b_15 0)])] w_17 fun r_18 w_19 =>
 ∃ x_20 : Int, r_18 = (.int .i64 x_20) ∧
 K (.int .i64 x_20) w_19)
def adv37 : Adv := (.sq .lf (.sq .lf (.sq (.sq .lf (.cd (.sq .lf .lf) .lf)) (.sq .lf (.sq .lf .lf)))))
set_option maxRecDepth 100000 in
theorem eq37 (hk : Hook) (d_0 : AV) (name_1 : List UInt8) (w : AW) (K : AV → AW → Prop) : fnS Tryz.prog hk Tryz.f37 adv37 [d_0, (.str name_1)] w K = F37 hk d_0 name_1 w K := by kernel_rfl
theorem in37 {hk : Hook} {d_0 : AV} {name_1 : List UInt8} {w : AW} {K : AV → AW → Prop} (hn : hk 37 [d_0, (.str name_1)] w = none) (h : F37 hk d_0 name_1 w K) : Cl Tryz.prog hk 37 [d_0, (.str name_1)] w K :=
 fnS_ok Tryz.func37 hn (by rw [eq37]; exact h)
def F41 (hk : Hook) (d_0 : AV) (w : AW) (K : AV → AW → Prop) : Prop :=
 Cl Tryz.prog hk 62 [d_0] w fun r_1 w_2 =>
 ∃ x_3 : Bool, r_1 = (.bool x_3) ∧
 ifT x_3 (K .nilslice w_2)
 (onP d_0 fun b_4 o_5 =>
 onM (ld w_2 b_4 ((o_5 + 3) + 0)) fun x_6 =>
 Cl Tryz.prog hk 74 [x_6] w_2 fun r_7 w_8 =>
 Cl Tryz.prog hk 73 [r_7] w_8 fun r_9 w_10 =>
 K r_9 w_10)
def adv41 : Adv := (.sq .lf (.sq (.sq .lf (.cd (.sq .lf .lf) .lf)) (.sq .lf .lf)))
set_option maxRecDepth 100000 in
theorem eq41 (hk : Hook) (d_0 : AV) (w : AW) (K : AV → AW → Prop) : fnS Tryz.prog hk Tryz.f41 adv41 [d_0] w K = F41 hk d_0 w K := by kernel_rfl
theorem in41 {hk : Hook} {d_0 : AV} {w : AW} {K : AV → AW → Prop} (hn : hk 41 [d_0] w = none) (h : F41 hk d_0 w K) : Cl Tryz.prog hk 41 [d_0] w K :=
 fnS_ok Tryz.func41 hn (by rw [eq41]; exact h)
def F43 (hk : Hook) (d_0 : AV) (name_1 : List UInt8) (w : AW) (K : AV → AW → Prop) : Prop :=
 Cl Tryz.prog hk 77 [d_0, (.str name_1)] w fun r_2 w_3 =>
 ∃ x_4 : AV, ∃ x_5 : Int, r_2 = .tup [x_4, (.int .i64 x_5)] ∧
 join (fun l_6 w_7 => l_6 = [] ∧ ∀ _ : Nat → AV,
  gd (okCell d_0) (
  gd (List.all [d_0, (.str name_1), .nilslice, .nilslice, (.bool false)] okCell) (
  new w_7 [d_0, (.str name_1), .nilslice, .nilslice, (.bool false)] fun b_9 w_10 =>
  Cl Tryz.prog hk 78 [x_4] w_10 fun r_11 w_12 =>
  join (fun l_13 w_14 => l_13 = [] ∧ ∀ _ : Nat → AV,
  Cl Tryz.prog hk 47 [(.ptr b_9 0)] w_14 fun r_16 w_17 =>
  ∃ x_18 : Int, r_16 = (.int .i64 x_18) ∧
  onM (slS 1 r_11 none (some (.int .i64 x_18)) none) fun x_19 =>
  gd (okCell x_19) (
  onM (AW.putCells w_17 b_9 (0 + 2) [x_19]) fun w_20 =>
  join (fun l_21 w_22 => ∃ e_24 : Int, l_21 = [(.int .i64 e_24)] ∧ ∀ _ : Nat → AV,
   ifT (!decide (e_24 = 0)) (K (.tup [.nilptr, (.int .i64 e_24)]) w_22)
   (K (.tup [(.ptr b_9 0), (.int .i64 0)]) w_22)) fun J_23 =>
  onM (ld w_20 b_9 (0 + 2)) fun x_25 =>
  Cl Tryz.prog hk 80 [x_25] w_20 fun r_26 w_27 =>
  Cl Tryz.prog hk 79 [r_26, x_4] w_27 fun r_28 w_29 =>
  ∃ x_30 : Bool, r_28 = (.bool x_30) ∧
  ifT (!x_30) (Cl Tryz.prog hk 81 [(.ptr b_9 0)] w_29 fun r_31 w_32 =>
   ∃ e_33 : Int, r_31 = (.int .i64 e_33) ∧
   J_23 [(.int .i64 e_33)] w_32)
  (J_23 [(.int .i64 0)] w_29))) fun J_15 =>
  loopP [(.int .i64 0)] w_12 fun R_34 l_35 w_36 => ∃ at_37 : Int, l_35 = [(.int .i64 at_37)] ∧ ∀ _ : Nat → AV,
  ∃ x_38 : Int, lenS r_11 = some (.int .i64 x_38) ∧
  ifT (decide ((wi (at_37 + 4)) ≤ x_38)) (atP (idxS 1 r_11 (.int .i64 at_37)) fun b_39 o_40 =>
  ∃ x_41 : Int, ld w_36 b_39 o_40 = some (.int .u8 x_41) ∧
  atP (idxS 1 r_11 (.int .i64 (wi (at_37 + 1)))) fun b_42 o_43 =>
  ∃ x_44 : Int, ld w_36 b_42 o_43 = some (.int .u8 x_44) ∧
  be (bOr .i64 (shlI .i64 (wi x_41) 24) (shlI .i64 (wi x_44) 16)) fun x_45 =>
  atP (idxS 1 r_11 (.int .i64 (wi (at_37 + 2)))) fun b_46 o_47 =>
  ∃ x_48 : Int, ld w_36 b_46 o_47 = some (.int .u8 x_48) ∧
  be (bOr .i64 x_45 (shlI .i64 (wi x_48) 8)) fun x_49 =>
  atP (idxS 1 r_11 (.int .i64 (wi (at_37 + 3)))) fun b_50 o_51 =>
  ∃ x_52 : Int, ld w_36 b_50 o_51 = some (.int .u8 x_52) ∧
  ifT (decide (65536 < (bOr .i64 x_49 (wi x_52)))) (J_15 [] w_36)
  (be (wi ((wi (at_37 + 4)) + (bOr .i64 x_49 (wi x_52)))) fun x_53 =>
  ∃ x_54 : Int, lenS r_11 = some (.int .i64 x_54) ∧
  ifT (decide (x_54 < x_53)) (J_15 [] w_36)
  (be (wi (4 + (bOr .i64 x_49 (wi x_52)))) fun x_55 =>
  onM (ld w_36 b_9 (0 + 3)) fun x_56 =>
  new w_36 [(.int .i64 (wi (at_37 + x_55)))] fun b_57 w_58 =>
  onE (appS 1 8 w_58 x_56 (.slice b_57 0 1 1 none)) fun x_59 w_60 =>
  gd (okCell x_59) (
  onM (AW.putCells w_60 b_9 (0 + 3) [x_59]) fun w_61 =>
  R_34 [(.int .i64 (wi (at_37 + x_55)))] w_61))))
  (J_15 [] w_36)))) fun J_8 =>
 ifT (!decide (x_5 = 0)) (ifT (!decide (x_5 = 70)) (K (.tup [.nilptr, (.int .i64 x_5)]) w_3)
 (J_8 [] w_3))
 (J_8 [] w_3)
def adv43 : Adv := (.sq .lf (.sq .lf (.sj [] (.sq .lf (.cd (.sq .lf .lf) .lf)) (.sq .lf (.sq .lf (.sj [] (.sq .lf (.bl (.lp [(10, .sc (.int .i64))] (.sq (.sq .lf (.cd .lf .lf)) (.bl (.sq .lf (.sq (.sq .lf (.cd .lf .lf)) (.sq .lf .lf)))))))) (.sq .lf (.sj [(7, .sc (.int .i64))] (.sq .lf (.cd .lf .lf)) (.sq (.sq .lf (.cd (.sq .lf .lf) .lf)) (.sq .lf .lf))))))))))
set_option maxRecDepth 100000 in
theorem eq43 (hk : Hook) (d_0 : AV) (name_1 : List UInt8) (w : AW) (K : AV → AW → Prop) : fnS Tryz.prog hk Tryz.f43 adv43 [d_0, (.str name_1)] w K = F43 hk d_0 name_1 w K := by kernel_rfl
theorem in43 {hk : Hook} {d_0 : AV} {name_1 : List UInt8} {w : AW} {K : AV → AW → Prop} (hn : hk 43 [d_0, (.str name_1)] w = none) (h : F43 hk d_0 name_1 w K) : Cl Tryz.prog hk 43 [d_0, (.str name_1)] w K :=
 fnS_ok Tryz.func43 hn (by rw [eq43]; exact h)
def F44 (hk : Hook) (l_0 : AV) (first_1 : Int) (w : AW) (K : AV → AW → Prop) : Prop :=
 onP l_0 fun b_2 o_3 =>
 ∃ x_4 : List UInt8, ld w b_2 (o_3 + 1) = some (.str x_4) ∧
 ∃ x_5 : List UInt8, strOp .add x_4 [45] = some (.str x_5) ∧
 Cl Tryz.prog hk 82 [(.int .i64 first_1)] w fun r_6 w_7 =>
 ∃ x_8 : List UInt8, r_6 = (.str x_8) ∧
 ld w_7 b_2 (o_3 + 1) = some (.str x_4) ∧
 ∃ x_9 : List UInt8, strOp .add x_5 x_8 = some (.str x_9) ∧
 K (.str x_9) w_7
def adv44 : Adv := (.sq .lf (.sq .lf .lf))
set_option maxRecDepth 100000 in
theorem eq44 (hk : Hook) (l_0 : AV) (first_1 : Int) (w : AW) (K : AV → AW → Prop) : fnS Tryz.prog hk Tryz.f44 adv44 [l_0, (.int .i64 first_1)] w K = F44 hk l_0 first_1 w K := by kernel_rfl
theorem in44 {hk : Hook} {l_0 : AV} {first_1 : Int} {w : AW} {K : AV → AW → Prop} (hn : hk 44 [l_0, (.int .i64 first_1)] w = none) (h : F44 hk l_0 first_1 w K) : Cl Tryz.prog hk 44 [l_0, (.int .i64 first_1)] w K :=
 fnS_ok Tryz.func44 hn (by rw [eq44]; exact h)
def F45 (hk : Hook) (l_0 : AV) (w : AW) (K : AV → AW → Prop) : Prop :=
 Cl Tryz.prog hk 51 [l_0] w fun r_1 w_2 =>
 ∃ x_3 : Bool, r_1 = (.bool x_3) ∧
 ifT x_3 (K (.int .i64 1) w_2)
 (onP l_0 fun b_4 o_5 =>
  ∃ x_6 : Bool, ld w_2 b_4 (o_5 + 6) = some (.bool x_6) ∧
  ifT x_6 (K (.int .i64 4) w_2)
  (K (.int .i64 0) w_2))
def adv45 : Adv := (.sq .lf (.sq (.bl (.sq .lf (.cd (.sq .lf .lf) (.sq .lf (.cd (.sq .lf .lf) .lf))))) (.sq .lf .lf)))
set_option maxRecDepth 100000 in
theorem eq45 (hk : Hook) (l_0 : AV) (w : AW) (K : AV → AW → Prop) : fnS Tryz.prog hk Tryz.f45 adv45 [l_0] w K = F45 hk l_0 w K := by kernel_rfl
theorem in45 {hk : Hook} {l_0 : AV} {w : AW} {K : AV → AW → Prop} (hn : hk 45 [l_0] w = none) (h : F45 hk l_0 w K) : Cl Tryz.prog hk 45 [l_0] w K :=
 fnS_ok Tryz.func45 hn (by rw [eq45]; exact h)
def F46 (hk : Hook) (l_0 : AV) (w : AW) (K : AV → AW → Prop) : Prop :=
 new w [(.int .i64 0), .nilptr] fun b_1 w_2 =>
 onP l_0 fun b_3 o_4 =>
 onM (ld w_2 b_3 (o_4 + 3)) fun x_5 =>
 ∃ x_6 : Int, lenS x_5 = some (.int .i64 x_6) ∧
 ifT (decide (x_6 = 0)) (onM (AW.putCells w_2 b_1 0 [(.int .i64 0), .nilptr]) fun w_7 =>
  ∃ res_8 : Int, ∃ res_9 : AV, ldN 2 w_7 b_1 0 = some (.agg [(.int .i64 res_8), res_9]) ∧
 K (.tup [(.agg [(.int .i64 res_8), res_9]), (.bool false)]) w_7)
 (onP l_0 fun b_10 o_11 =>
 onM (ld w_2 b_10 (o_11 + 3)) fun x_12 =>
 onP l_0 fun b_13 o_14 =>
 onM (ld w_2 b_13 (o_14 + 3)) fun x_15 =>
 ∃ x_16 : Int, lenS x_15 = some (.int .i64 x_16) ∧
 atP (idxS 2 x_12 (.int .i64 (wi (x_16 - 1)))) fun b_17 o_18 =>
 ∃ x_19 : Int, ∃ x_20 : AV, ldN 2 w_2 b_17 o_18 = some (.agg [(.int .i64 x_19), x_20]) ∧
 gd (List.all [(.int .i64 x_19), x_20] okCell) (
 onM (AW.putCells w_2 b_1 0 [(.int .i64 x_19), x_20]) fun w_21 =>
 ∃ res_22 : Int, ∃ res_23 : AV, ldN 2 w_21 b_1 0 = some (.agg [(.int .i64 res_22), res_23]) ∧
 K (.tup [(.agg [(.int .i64 res_22), res_23]), (.bool true)]) w_21))
def adv46 : Adv := (.sq .lf (.sq (.sq .lf (.cd (.sq .lf .lf) .lf)) (.sq .lf .lf)))
set_option maxRecDepth 100000 in
theorem eq46 (hk : Hook) (l_0 : AV) (w : AW) (K : AV → AW → Prop) : fnS Tryz.prog hk Tryz.f46 adv46 [l_0] w K = F46 hk l_0 w K := by kernel_rfl
theorem in46 {hk : Hook} {l_0 : AV} {w : AW} {K : AV → AW → Prop} (hn : hk 46 [l_0] w = none) (h : F46 hk l_0 w K) : Cl Tryz.prog hk 46 [l_0] w K :=
 fnS_ok Tryz.func46 hn (by rw [eq46]; exact h)
def F47 (hk : Hook) (s_0 : AV) (w : AW) (K : AV → AW → Prop) : Prop :=
 ∃ x_1 : Bool, binOpA Tryz.prog .eql 85 true s_0 .nilptr = some (.bool x_1) ∧
 ifT x_1 (K (.int .i64 0) w)
 (onP s_0 fun b_2 o_3 =>
 onM (ld w b_2 (o_3 + 3)) fun x_4 =>
 ∃ x_5 : Int, lenS x_4 = some (.int .i64 x_5) ∧
 ifT (decide (x_5 = 0)) (K (.int .i64 0) w)
 (onP s_0 fun b_6 o_7 =>
 onM (ld w b_6 (o_7 + 3)) fun x_8 =>
 onP s_0 fun b_9 o_10 =>
 onM (ld w b_9 (o_10 + 3)) fun x_11 =>
 ∃ x_12 : Int, lenS x_11 = some (.int .i64 x_12) ∧
 atP (idxS 1 x_8 (.int .i64 (wi (x_12 - 1)))) fun b_13 o_14 =>
 ∃ x_15 : Int, ld w b_13 o_14 = some (.int .i64 x_15) ∧
 K (.int .i64 x_15) w))
def adv47 : Adv := (.sq .lf (.sq (.sq .lf (.cd (.sq .lf .lf) .lf)) (.sq .lf .lf)))
set_option maxRecDepth 100000 in
theorem eq47 (hk : Hook) (s_0 : AV) (w : AW) (K : AV → AW → Prop) : fnS Tryz.prog hk Tryz.f47 adv47 [s_0] w K = F47 hk s_0 w K := by kernel_rfl
theorem in47 {hk : Hook} {s_0 : AV} {w : AW} {K : AV → AW → Prop} (hn : hk 47 [s_0] w = none) (h : F47 hk s_0 w K) : Cl Tryz.prog hk 47 [s_0] w K :=
 fnS_ok Tryz.func47 hn (by rw [eq47]; exact h)
def F48 (hk : Hook) (l_0 : AV) (e_1 : Int) (w : AW) (K : AV → AW → Prop) : Prop :=
 onP l_0 fun b_2 o_3 =>
 ∃ x_4 : Bool, ld w b_2 (o_3 + 6) = some (.bool x_4) ∧
 ifT x_4 (onP l_0 fun b_5 o_6 =>
 onM (AW.putCells w b_5 (o_6 + 6) [(.bool true)]) fun w_7 =>
 K (.int .i64 e_1) w_7)
 (onP l_0 fun b_8 o_9 =>
 onM (AW.putCells w b_8 (o_9 + 6) [(.bool (!decide (e_1 = 0)))]) fun w_10 =>
 K (.int .i64 e_1) w_10)
def adv48 : Adv := (.sq .lf (.sq .lf (.sq .lf .lf)))
set_option maxRecDepth 100000 in
theorem eq48 (hk : Hook) (l_0 : AV) (e_1 : Int) (w : AW) (K : AV → AW → Prop) : fnS Tryz.prog hk Tryz.f48 adv48 [l_0, (.int .i64 e_1)] w K = F48 hk l_0 e_1 w K := by kernel_rfl
theorem in48 {hk : Hook} {l_0 : AV} {e_1 : Int} {w : AW} {K : AV → AW → Prop} (hn : hk 48 [l_0, (.int .i64 e_1)] w = none) (h : F48 hk l_0 e_1 w K) : Cl Tryz.prog hk 48 [l_0, (.int .i64 e_1)] w K :=
 fnS_ok Tryz.func48 hn (by rw [eq48]; exact h)
def F50 (hk : Hook) (s_0 : AV) (body_1 : AV) (w : AW) (K : AV → AW → Prop) : Prop :=
 gd (okCell s_0) (
 new w [s_0] fun b_2 w_3 =>
 new w_3 [(.int .i64 0)] fun b_4 w_5 =>
 new w_5 [(.int .i64 0)] fun b_6 w_7 =>
 onM (ld w_7 b_2 0) fun x_8 =>
 Cl Tryz.prog hk 83 [x_8] w_7 fun r_9 w_10 =>
 ∃ e_11 : Int, r_9 = (.int .i64 e_11) ∧
 ifT (!decide (e_11 = 0)) (onM (AW.putCells w_10 b_4 0 [(.int .i64 0)]) fun w_12 =>
  onM (AW.putCells w_12 b_6 0 [(.int .i64 e_11)]) fun w_13 =>
  ∃ res_14 : Int, ld w_13 b_4 0 = some (.int .i64 res_14) ∧
 ∃ res_15 : Int, ld w_13 b_6 0 = some (.int .i64 res_15) ∧
 K (.tup [(.int .i64 res_14), (.int .i64 res_15)]) w_13)
 (Cl Tryz.prog hk 85 [body_1] w_10 fun r_16 w_17 =>
 ∃ x_18 : AV, ∃ x_19 : Int, r_16 = .tup [x_18, (.int .i64 x_19)] ∧
 ifT (!decide (x_19 = 0)) (onM (AW.putCells w_17 b_4 0 [(.int .i64 0)]) fun w_20 =>
  onM (AW.putCells w_20 b_6 0 [(.int .i64 x_19)]) fun w_21 =>
  ∃ res_22 : Int, ld w_21 b_4 0 = some (.int .i64 res_22) ∧
 ∃ res_23 : Int, ld w_21 b_6 0 = some (.int .i64 res_23) ∧
 K (.tup [(.int .i64 res_22), (.int .i64 res_23)]) w_21)
 (onM (ld w_17 b_2 0) fun x_24 =>
  onP x_24 fun b_25 o_26 =>
  onM (ld w_17 b_25 (o_26 + 2)) fun x_27 =>
  ∃ x_28 : Int, lenS x_27 = some (.int .i64 x_28) ∧
  ∃ x_29 : Int, lenS x_18 = some (.int .i64 x_29) ∧
  ifT (decide (253952 < (wi (x_28 + x_29)))) (onM (AW.putCells w_17 b_4 0 [(.int .i64 0)]) fun w_30 =>
  onM (AW.putCells w_30 b_6 0 [(.int .i64 5)]) fun w_31 =>
  ∃ res_32 : Int, ld w_31 b_4 0 = some (.int .i64 res_32) ∧
 ∃ res_33 : Int, ld w_31 b_6 0 = some (.int .i64 res_33) ∧
 K (.tup [(.int .i64 res_32), (.int .i64 res_33)]) w_31)
  (onM (ld w_17 b_2 0) fun x_34 =>
 onP x_34 fun b_35 o_36 =>
 onM (ld w_17 b_35 (o_36 + 2)) fun x_37 =>
 gd (okCell x_37) (
 gd (okCell x_18) (
 new w_17 [x_37, x_18] fun b_38 w_39 =>
 Cl Tryz.prog hk 86 [(.slice b_38 0 2 2 none)] w_39 fun r_40 w_41 =>
 onM (ld w_41 b_2 0) fun x_42 =>
 onP x_42 fun b_43 o_44 =>
 onM (ld w_41 b_43 (o_44 + 2)) fun x_45 =>
 ∃ x_46 : Int, lenS x_45 = some (.int .i64 x_46) ∧
 Cl Tryz.prog hk 87 [r_40, (.int .i64 (wi (Int.tdiv x_46 62)))] w_41 fun r_47 w_48 =>
 range2 Tryz.prog hk r_47 w_48 (fun R_49 x_50 y_51 w_52 B_53 => loopAt w_52 (w_48.size + 1) = some R_49 ∧ ∀ w_54 : AW, w_54 = w_52.set (w_48.size + 1) (busyOb R_49) →
  onM (ld w_54 b_2 0) fun x_55 =>
  onM (ld w_54 b_2 0) fun x_56 =>
  onP x_56 fun b_57 o_58 =>
  onM (ld w_54 b_57 (o_58 + 0)) fun x_59 =>
  onM (ld w_54 b_2 0) fun x_60 =>
  onP x_60 fun b_61 o_62 =>
  ∃ x_63 : List UInt8, ld w_54 b_61 (o_62 + 1) = some (.str x_63) ∧
  Cl Tryz.prog hk 29 [x_59, (.str x_63), x_50, y_51] w_54 fun r_64 w_65 =>
  ∃ x_66 : Int, r_64 = (.int .i64 x_66) ∧
  ld w_65 b_2 0 = some x_55 ∧
  Cl Tryz.prog hk 84 [x_55, (.int .i64 x_66)] w_65 fun r_67 w_68 =>
  ∃ x_69 : Int, r_67 = (.int .i64 x_69) ∧
  ifT (!decide (x_69 = 0)) (onM (AW.putCells w_68 b_4 0 [(.int .i64 0)]) fun w_70 =>
  onM (AW.putCells w_70 b_6 0 [(.int .i64 x_69)]) fun w_71 =>
  B_53 .ret w_71)
  (B_53 .normal w_68))
 (fun w_72 => onM (ld w_72 b_2 0) fun x_73 =>
 onM (ld w_72 b_2 0) fun x_74 =>
 onM (ld w_72 b_2 0) fun x_75 =>
 onP x_75 fun b_76 o_77 =>
 onM (ld w_72 b_76 (o_77 + 3)) fun x_78 =>
 ∃ x_79 : Int, lenS r_40 = some (.int .i64 x_79) ∧
 new w_72 [(.int .i64 x_79)] fun b_80 w_81 =>
 ld w_81 b_76 (o_77 + 3) = some x_78 ∧
 ld w_81 b_2 0 = some x_75 ∧
 ld w_81 b_2 0 = some x_74 ∧
 ld w_81 b_2 0 = some x_73 ∧
 onE (appS 1 8 w_81 x_78 (.slice b_80 0 1 1 none)) fun x_82 w_83 =>
 ld w_83 b_2 0 = some x_74 ∧
 ld w_83 b_2 0 = some x_73 ∧
 onP x_73 fun b_84 o_85 =>
 gd (okCell r_40) (
 onM (AW.putCells w_83 b_84 (o_85 + 2) [r_40]) fun w_86 =>
 ld w_86 b_2 0 = some x_74 ∧
 onP x_74 fun b_87 o_88 =>
 gd (okCell x_82) (
 onM (AW.putCells w_86 b_87 (o_88 + 3) [x_82]) fun w_89 =>
 onM (ld w_89 b_2 0) fun x_90 =>
 onP x_90 fun b_91 o_92 =>
 onM (ld w_89 b_91 (o_92 + 3)) fun x_93 =>
 ∃ x_94 : Int, lenS x_93 = some (.int .i64 x_94) ∧
 onM (AW.putCells w_89 b_4 0 [(.int .i64 (wi (x_94 - 1)))]) fun w_95 =>
 onM (AW.putCells w_95 b_6 0 [(.int .i64 0)]) fun w_96 =>
 onM (takeAll w_96 [w_48.size]) fun w_97 => ∃ res_98 : Int, ld w_97 b_4 0 = some (.int .i64 res_98) ∧
 ∃ res_99 : Int, ld w_97 b_6 0 = some (.int .i64 res_99) ∧
 K (.tup [(.int .i64 res_98), (.int .i64 res_99)]) w_97)))
 (fun w_72 => onM (takeAll w_72 [w_48.size]) fun w_100 => ∃ res_101 : Int, ld w_100 b_4 0 = some (.int .i64 res_101) ∧
 ∃ res_102 : Int, ld w_100 b_6 0 = some (.int .i64 res_102) ∧
 K (.tup [(.int .i64 res_101), (.int .i64 res_102)]) w_100)))))))
def adv50 : AdvR := (.sq (.of .lf) (.sq (.of (.sq .lf (.sq .lf (.cd (.sq .lf .lf) .lf)))) (.sq (.of .lf) (.sq (.of (.bl (.sq .lf (.cd (.sq .lf .lf) (.sq .lf (.cd (.sq .lf .lf) .lf)))))) (.sq (.of .lf) (.sq (.sq (.of .lf) (.bl (.rg (.sq .lf .lf) (.bl (.sq .lf (.sq .lf (.cd (.sq .lf .lf) .lf))))))) (.of (.sq .lf (.sq .lf .lf)))))))))
set_option maxRecDepth 100000 in
theorem eq50 (hk : Hook) (s_0 : AV) (body_1 : AV) (w : AW) (K : AV → AW → Prop) : fnR Tryz.prog hk Tryz.f50 adv50 [s_0, body_1] w K = F50 hk s_0 body_1 w K := by kernel_rfl
theorem in50 {hk : Hook} {s_0 : AV} {body_1 : AV} {w : AW} {K : AV → AW → Prop} (hn : hk 50 [s_0, body_1] w = none) (h : F50 hk s_0 body_1 w K) : Cl Tryz.prog hk 50 [s_0, body_1] w K :=
 fnR_ok Tryz.func50 hn (by rw [eq50]; exact h)
def F51 (hk : Hook) (l_0 : AV) (w : AW) (K : AV → AW → Prop) : Prop :=
 ∃ x_1 : Bool, binOpA Tryz.prog .eql 26 true l_0 .nilptr = some (.bool x_1) ∧
 ifT x_1 (K (.bool true) w)
 (onP l_0 fun b_2 o_3 =>
 onM (ld w b_2 (o_3 + 0)) fun x_4 =>
 ∃ x_5 : Bool, binOpA Tryz.prog .eql 24 true x_4 .nilptr = some (.bool x_5) ∧
 K (.bool x_5) w)
def adv51 : Adv := (.sq .lf (.sq .lf .lf))
set_option maxRecDepth 100000 in
theorem eq51 (hk : Hook) (l_0 : AV) (w : AW) (K : AV → AW → Prop) : fnS Tryz.prog hk Tryz.f51 adv51 [l_0] w K = F51 hk l_0 w K := by kernel_rfl
theorem in51 {hk : Hook} {l_0 : AV} {w : AW} {K : AV → AW → Prop} (hn : hk 51 [l_0] w = none) (h : F51 hk l_0 w K) : Cl Tryz.prog hk 51 [l_0] w K :=
 fnS_ok Tryz.func51 hn (by rw [eq51]; exact h)
def F52 (hk : Hook) (l_0 : AV) (n_1 : Int) (w : AW) (K : AV → AW → Prop) : Prop :=
 onP l_0 fun b_2 o_3 =>
 onM (ld w b_2 (o_3 + 3)) fun x_4 =>
 ∃ x_5 : Int, lenS x_4 = some (.int .i64 x_5) ∧
 loopP [.nilslice, (.int .i64 0)] w fun R_6 l_7 w_8 => ∃ all_9 : AV, ∃ x_10 : Int, l_7 = [all_9, (.int .i64 x_10)] ∧ ∀ _ : Nat → AV,
  ifT (decide (x_10 < x_5)) (atP (idxS 2 x_4 (.int .i64 x_10)) fun b_11 o_12 =>
  ∃ x_13 : Int, ∃ x_14 : AV, ldN 2 w_8 b_11 o_12 = some (.agg [(.int .i64 x_13), x_14]) ∧
  new w_8 [(.int .i64 0), .nilptr] fun b_15 w_16 =>
  gd (List.all [(.int .i64 x_13), x_14] okCell) (
  onM (AW.putCells w_16 b_15 0 [(.int .i64 x_13), x_14]) fun w_17 =>
  ∃ x_18 : Int, ld w_17 b_15 (0 + 0) = some (.int .i64 x_18) ∧
  onP l_0 fun b_19 o_20 =>
  onM (ld w_17 b_19 (o_20 + 3)) fun x_21 =>
  atP (idxS 2 x_21 (.int .i64 0)) fun b_22 o_23 =>
  ∃ x_24 : Int, ld w_17 b_22 (o_23 + 0) = some (.int .i64 x_24) ∧
  new w_17 [(.int .i64 (wi (x_18 - x_24))), (.int .i64 x_10)] fun b_25 w_26 =>
  ld w_26 b_22 (o_23 + 0) = some (.int .i64 x_24) ∧
  ld w_26 b_19 (o_20 + 3) = some x_21 ∧
  ld w_26 b_15 (0 + 0) = some (.int .i64 x_18) ∧
  onE (appS 2 16 w_26 all_9 (.slice b_25 0 1 1 none)) fun x_27 w_28 =>
  R_6 [x_27, (.int .i64 (wi (x_10 + 1)))] w_28))
  (Cl Tryz.prog hk 23 [l_0] w_8 fun r_29 w_30 =>
 ∃ x_31 : Int, r_29 = (.int .i64 x_31) ∧
 Cl Tryz.prog hk 88 [all_9, (.int .i64 (wi (n_1 - x_31)))] w_30 fun r_32 w_33 =>
 ∃ x_34 : Int, ∃ x_35 : Int, ∃ x_36 : Int, r_32 = .tup [(.agg [(.int .i64 x_34), (.int .i64 x_35)]), (.int .i64 x_36)] ∧
 new w_33 [(.int .i64 0), (.int .i64 0)] fun b_37 w_38 =>
 onM (AW.putCells w_38 b_37 0 [(.int .i64 x_34), (.int .i64 x_35)]) fun w_39 =>
 ∃ x_40 : Int, ld w_39 b_37 (0 + 1 * 1) = some (.int .i64 x_40) ∧
 K (.int .i64 x_40) w_39)
def adv52 : Adv := (.sq .lf (.sq .lf (.sq (.sq .lf (.bl (.lp [(5, .sc (.opq)), (15, .sc (.int .i64))] (.sq .lf (.sq (.cd .lf .lf) (.sq (.bl (.sq .lf .lf)) .lf)))))) (.sq .lf (.sq .lf .lf)))))
set_option maxRecDepth 100000 in
theorem eq52 (hk : Hook) (l_0 : AV) (n_1 : Int) (w : AW) (K : AV → AW → Prop) : fnS Tryz.prog hk Tryz.f52 adv52 [l_0, (.int .i64 n_1)] w K = F52 hk l_0 n_1 w K := by kernel_rfl
theorem in52 {hk : Hook} {l_0 : AV} {n_1 : Int} {w : AW} {K : AV → AW → Prop} (hn : hk 52 [l_0, (.int .i64 n_1)] w = none) (h : F52 hk l_0 n_1 w K) : Cl Tryz.prog hk 52 [l_0, (.int .i64 n_1)] w K :=
 fnS_ok Tryz.func52 hn (by rw [eq52]; exact h)
def F53 (hk : Hook) (s_0 : AV) (i_1 : Int) (w : AW) (K : AV → AW → Prop) : Prop :=
 Cl Tryz.prog hk 83 [s_0] w fun r_2 w_3 =>
 ∃ x_4 : Int, r_2 = (.int .i64 x_4) ∧
 ifT (decide (x_4 = 1)) (K (.tup [.nilslice, (.int .i64 1)]) w_3)
 (ifT (decide (i_1 < 0)) (K (.tup [.nilslice, (.int .i64 2)]) w_3)
  (onP s_0 fun b_5 o_6 =>
  onM (ld w_3 b_5 (o_6 + 3)) fun x_7 =>
  ∃ x_8 : Int, lenS x_7 = some (.int .i64 x_8) ∧
  ifT (decide (x_8 ≤ i_1)) (K (.tup [.nilslice, (.int .i64 2)]) w_3)
  (onP s_0 fun b_9 o_10 =>
 onM (ld w_3 b_9 (o_10 + 2)) fun x_11 =>
 onP s_0 fun b_12 o_13 =>
 onM (ld w_3 b_12 (o_13 + 3)) fun x_14 =>
 atP (idxS 1 x_14 (.int .i64 i_1)) fun b_15 o_16 =>
 ∃ x_17 : Int, ld w_3 b_15 o_16 = some (.int .i64 x_17) ∧
 Cl Tryz.prog hk 90 [s_0, (.int .i64 i_1)] w_3 fun r_18 w_19 =>
 ∃ x_20 : Int, r_18 = (.int .i64 x_20) ∧
 ld w_19 b_15 o_16 = some (.int .i64 x_17) ∧
 ld w_19 b_12 (o_13 + 3) = some x_14 ∧
 ld w_19 b_9 (o_10 + 2) = some x_11 ∧
 onM (slS 1 x_11 (some (.int .i64 (wi (x_20 + 4)))) (some (.int .i64 x_17)) none) fun x_21 =>
 Cl Tryz.prog hk 89 [x_21] w_19 fun r_22 w_23 =>
 K (.tup [r_22, (.int .i64 0)]) w_23)))
def adv53 : Adv := (.sq .lf (.sq (.bl (.sq .lf (.cd (.sq .lf .lf) (.sq .lf (.cd (.sq .lf .lf) .lf))))) (.sq .lf .lf)))
set_option maxRecDepth 100000 in
theorem eq53 (hk : Hook) (s_0 : AV) (i_1 : Int) (w : AW) (K : AV → AW → Prop) : fnS Tryz.prog hk Tryz.f53 adv53 [s_0, (.int .i64 i_1)] w K = F53 hk s_0 i_1 w K := by kernel_rfl
theorem in53 {hk : Hook} {s_0 : AV} {i_1 : Int} {w : AW} {K : AV → AW → Prop} (hn : hk 53 [s_0, (.int .i64 i_1)] w = none) (h : F53 hk s_0 i_1 w K) : Cl Tryz.prog hk 53 [s_0, (.int .i64 i_1)] w K :=
 fnS_ok Tryz.func53 hn (by rw [eq53]; exact h)
def F58 (hk : Hook) (s_0 : AV) (w : AW) (K : AV → AW → Prop) : Prop :=
 ∃ x_1 : Bool, binOpA Tryz.prog .eql 85 true s_0 .nilptr = some (.bool x_1) ∧
 ifT x_1 (K (.int .i64 0) w)
 (onP s_0 fun b_2 o_3 =>
 onM (ld w b_2 (o_3 + 3)) fun x_4 =>
 ∃ x_5 : Int, lenS x_4 = some (.int .i64 x_5) ∧
 K (.int .i64 x_5) w)
def adv58 : Adv := (.sq .lf (.sq (.sq .lf (.cd (.sq .lf .lf) .lf)) (.sq .lf .lf)))
set_option maxRecDepth 100000 in
theorem eq58 (hk : Hook) (s_0 : AV) (w : AW) (K : AV → AW → Prop) : fnS Tryz.prog hk Tryz.f58 adv58 [s_0] w K = F58 hk s_0 w K := by kernel_rfl
theorem in58 {hk : Hook} {s_0 : AV} {w : AW} {K : AV → AW → Prop} (hn : hk 58 [s_0] w = none) (h : F58 hk s_0 w K) : Cl Tryz.prog hk 58 [s_0] w K :=
 fnS_ok Tryz.func58 hn (by rw [eq58]; exact h)
def F59 (hk : Hook) (d_0 : AV) (name_1 : List UInt8) (w : AW) (K : AV → AW → Prop) : Prop :=
 Cl Tryz.prog hk 62 [d_0] w fun r_2 w_3 =>
 ∃ x_4 : Bool, r_2 = (.bool x_4) ∧
 ifT x_4 (K (.tup [(.int .i64 0), (.int .i64 1)]) w_3)
 (onP d_0 fun b_5 o_6 =>
 onM (ld w_3 b_5 ((o_6 + 3) + 0)) fun x_7 =>
 ∃ x_8 : Int, ∃ x_9 : Bool, lookS (.int .i64 0) true w_3 x_7 (.str name_1) = some (.tup [(.int .i64 x_8), (.bool x_9)]) ∧
 ifT (!x_9) (K (.tup [(.int .i64 0), (.int .i64 70)]) w_3)
 (K (.tup [(.int .i64 x_8), (.int .i64 0)]) w_3))
def adv59 : Adv := (.sq .lf (.sq (.sq .lf (.cd (.sq .lf .lf) .lf)) (.sq .lf (.sq (.sq .lf (.cd (.sq .lf .lf) .lf)) (.sq .lf .lf)))))
set_option maxRecDepth 100000 in
theorem eq59 (hk : Hook) (d_0 : AV) (name_1 : List UInt8) (w : AW) (K : AV → AW → Prop) : fnS Tryz.prog hk Tryz.f59 adv59 [d_0, (.str name_1)] w K = F59 hk d_0 name_1 w K := by kernel_rfl
theorem in59 {hk : Hook} {d_0 : AV} {name_1 : List UInt8} {w : AW} {K : AV → AW → Prop} (hn : hk 59 [d_0, (.str name_1)] w = none) (h : F59 hk d_0 name_1 w K) : Cl Tryz.prog hk 59 [d_0, (.str name_1)] w K :=
 fnS_ok Tryz.func59 hn (by rw [eq59]; exact h)
def F60 (hk : Hook) (s_0 : List UInt8) (w : AW) (K : AV → AW → Prop) : Prop :=
 ifT (decide (1 ≤ (Int.ofNat (List.length s_0)))) (K (.bool (decide ((Int.ofNat (List.length s_0)) ≤ 64))) w)
 (K (.bool false) w)
def adv60 : Adv := (.sq .lf (.sq .lf .lf))
set_option maxRecDepth 100000 in
theorem eq60 (hk : Hook) (s_0 : List UInt8) (w : AW) (K : AV → AW → Prop) : fnS Tryz.prog hk Tryz.f60 adv60 [(.str s_0)] w K = F60 hk s_0 w K := by kernel_rfl
theorem in60 {hk : Hook} {s_0 : List UInt8} {w : AW} {K : AV → AW → Prop} (hn : hk 60 [(.str s_0)] w = none) (h : F60 hk s_0 w K) : Cl Tryz.prog hk 60 [(.str s_0)] w K :=
 fnS_ok Tryz.func60 hn (by rw [eq60]; exact h)
def F61 (hk : Hook) (d_0 : AV) (l_1 : AV) (w : AW) (K : AV → AW → Prop) : Prop :=
 Cl Tryz.prog hk 95 [d_0] w fun r_2 w_3 =>
 ∃ e_4 : Int, r_2 = (.int .i64 e_4) ∧
 ifT (!decide (e_4 = 0)) (K (.int .i64 e_4) w_3)
 (∃ x_5 : Int, lenS l_1 = some (.int .i64 x_5) ∧
 loopP [(.int .i64 0)] w_3 fun R_6 l_7 w_8 => ∃ x_9 : Int, l_7 = [(.int .i64 x_9)] ∧ ∀ _ : Nat → AV,
  ifT (decide (x_9 < x_5)) (atP (idxS 69 l_1 (.int .i64 x_9)) fun b_10 o_11 =>
  onM (ldN 69 w_8 b_10 o_11) fun x_12 =>
  new w_8 (stepC (.int .i64 0) (.int .i64 0) (.int .i64 0) z64 (.str []) (.str [])) fun b_13 w_14 =>
  onA x_12 fun cs_15 => gd (List.all cs_15 okCell) (
  gd (Nat.beq cs_15.length 69) (onM (AW.putCells w_14 b_13 0 cs_15) fun w_16 =>
  onP d_0 fun b_17 o_18 =>
  onM (ld w_16 b_17 (o_18 + 5)) fun x_19 =>
  onM (ldN 69 w_16 b_13 0) fun x_20 =>
  onA x_20 fun cs_21 => gd (List.all cs_21 okCell) (
  gd (Nat.beq cs_21.length 69 && Nat.ble 69 69) (
  new w_16 (listPut (stepC (.int .i64 0) (.int .i64 0) (.int .i64 0) z64 (.str []) (.str [])) 0 cs_21) fun b_22 w_23 =>
  ldN 69 w_23 b_13 0 = some x_20 ∧
  ld w_23 b_17 (o_18 + 5) = some x_19 ∧
  onE (appS 69 120 w_23 x_19 (.slice b_22 0 1 1 none)) fun x_24 w_25 =>
  onP d_0 fun b_26 o_27 =>
  gd (okCell x_24) (
  onM (AW.putCells w_25 b_26 (o_27 + 5) [x_24]) fun w_28 =>
  onP d_0 fun b_29 o_30 =>
  ∃ x_31 : AV, ∃ x_32 : AV, ldN 2 w_28 b_29 (o_30 + 3) = some (.agg [x_31, x_32]) ∧
  onM (ldN 69 w_28 b_13 0) fun x_33 =>
  Cl Tryz.prog hk 64 [(.agg [x_31, x_32]), x_33] w_28 fun r_34 w_35 =>
  r_34 = .tup [] ∧
  R_6 [(.int .i64 (wi (x_9 + 1)))] w_35))))))
  (K (.int .i64 0) w_8))
def adv61 : Adv := (.sq .lf (.sq (.sq .lf (.sq .lf (.cd (.sq .lf .lf) .lf))) (.sq (.sq .lf (.bl (.lp [(15, .sc (.int .i64))] (.sq .lf (.sq (.cd .lf .lf) (.sq (.bl (.sq .lf (.sq .lf .lf))) .lf)))))) (.sq .lf .lf))))
set_option maxRecDepth 100000 in
theorem eq61 (hk : Hook) (d_0 : AV) (l_1 : AV) (w : AW) (K : AV → AW → Prop) : fnS Tryz.prog hk Tryz.f61 adv61 [d_0, l_1] w K = F61 hk d_0 l_1 w K := by kernel_rfl
theorem in61 {hk : Hook} {d_0 : AV} {l_1 : AV} {w : AW} {K : AV → AW → Prop} (hn : hk 61 [d_0, l_1] w = none) (h : F61 hk d_0 l_1 w K) : Cl Tryz.prog hk 61 [d_0, l_1] w K :=
 fnS_ok Tryz.func61 hn (by rw [eq61]; exact h)
def F62 (hk : Hook) (d_0 : AV) (w : AW) (K : AV → AW → Prop) : Prop :=
 ∃ x_1 : Bool, binOpA Tryz.prog .eql 24 true d_0 .nilptr = some (.bool x_1) ∧
 ifT x_1 (K (.bool true) w)
 (onP d_0 fun b_2 o_3 =>
 ∃ x_4 : Bool, ld w b_2 (o_3 + 0) = some (.bool x_4) ∧
 K (.bool (!x_4)) w)
def adv62 : Adv := (.sq .lf (.sq .lf .lf))
set_option maxRecDepth 100000 in
theorem eq62 (hk : Hook) (d_0 : AV) (w : AW) (K : AV → AW → Prop) : fnS Tryz.prog hk Tryz.f62 adv62 [d_0] w K = F62 hk d_0 w K := by kernel_rfl
theorem in62 {hk : Hook} {d_0 : AV} {w : AW} {K : AV → AW → Prop} (hn : hk 62 [d_0] w = none) (h : F62 hk d_0 w K) : Cl Tryz.prog hk 62 [d_0] w K :=
 fnS_ok Tryz.func62 hn (by rw [eq62]; exact h)
def F64 (hk : Hook) (s_0 : AV) (s_1 : AV) (x_2 : AV) (w : AW) (K : AV → AW → Prop) : Prop :=
 gd (List.all [s_0, s_1] okCell) (
 new w [s_0, s_1] fun b_3 w_4 =>
 onA x_2 fun cs_5 => gd (List.all cs_5 okCell) (
 new w_4 cs_5 fun b_6 w_7 =>
 onM (ld w_7 b_3 (0 + 0)) fun x_8 =>
 ∃ x_9 : List UInt8, ld w_7 b_6 (0 + 67) = some (.str x_9) ∧
 ∃ x_10 : Int, ∃ x_11 : Bool, lookS (.int .i64 0) true w_7 x_8 (.str x_9) = some (.tup [(.int .i64 x_10), (.bool x_11)]) ∧
 onM (ld w_7 b_3 (0 + 1)) fun x_12 =>
 ∃ x_13 : Int, ld w_7 b_6 (0 + 1) = some (.int .i64 x_13) ∧
 onM (lookS .nilslice false w_7 x_12 (.int .i64 x_13)) fun l_14 =>
 ∃ x_15 : Int, ld w_7 b_6 (0 + 0) = some (.int .i64 x_15) ∧
 ifT (decide (x_15 = 0)) (onM (ld w_7 b_3 (0 + 0)) fun x_16 =>
  ∃ x_17 : List UInt8, ld w_7 b_6 (0 + 67) = some (.str x_17) ∧
  ∃ x_18 : Int, ld w_7 b_6 (0 + 1) = some (.int .i64 x_18) ∧
  onE (kvSet w_7 x_16 (.str x_17) (.int .i64 x_18)) fun r_19 w_20 =>
  K (.tup []) w_20)
 (ifT (decide (x_15 = 1)) (Cl Tryz.prog hk 97 [l_14] w_7 fun r_21 w_22 =>
  loopP [r_21] w_22 fun R_23 l_24 w_25 => ∃ l_26 : AV, l_24 = [l_26] ∧ ∀ _ : Nat → AV,
   ∃ x_27 : Int, lenS l_26 = some (.int .i64 x_27) ∧
   ∃ x_28 : Int, ld w_25 b_6 (0 + 2) = some (.int .i64 x_28) ∧
   ifT (decide (x_27 ≤ x_28)) (new w_25 z64 fun b_29 w_30 =>
   onE (appS 64 64 w_30 l_26 (.slice b_29 0 1 1 none)) fun l_31 w_32 =>
   R_23 [l_31] w_32)
   (∃ x_33 : Int, ld w_25 b_6 (0 + 2) = some (.int .i64 x_33) ∧
  onM (ldN 64 w_25 b_6 (0 + 3)) fun x_34 =>
  atP (idxS 64 l_26 (.int .i64 x_33)) fun b_35 o_36 =>
  onA x_34 fun cs_37 => gd (List.all cs_37 okCell) (
  gd (Nat.beq cs_37.length 64) (onM (AW.putCells w_25 b_35 o_36 cs_37) fun w_38 =>
  onM (ld w_38 b_3 (0 + 1)) fun x_39 =>
  ∃ x_40 : Int, ld w_38 b_6 (0 + 1) = some (.int .i64 x_40) ∧
  onE (kvSet w_38 x_39 (.int .i64 x_40) l_26) fun r_41 w_42 =>
  K (.tup []) w_42))))
  (ifT (decide (x_15 = 2)) (onM (ld w_7 b_3 (0 + 1)) fun x_43 =>
   ∃ x_44 : Int, ld w_7 b_6 (0 + 1) = some (.int .i64 x_44) ∧
   ∃ x_45 : Int, lenS l_14 = some (.int .i64 x_45) ∧
   ∃ x_46 : Int, ld w_7 b_6 (0 + 2) = some (.int .i64 x_46) ∧
   onM (slS 64 l_14 none (some (.int .i64 (imin x_45 x_46))) none) fun x_47 =>
   Cl Tryz.prog hk 97 [x_47] w_7 fun r_48 w_49 =>
   ld w_49 b_6 (0 + 1) = some (.int .i64 x_44) ∧
   ld w_49 b_3 (0 + 1) = some x_43 ∧
   onE (kvSet w_49 x_43 (.int .i64 x_44) r_48) fun r_50 w_51 =>
   K (.tup []) w_51)
  (ifT (!x_11) (K (.tup []) w_7)
   (∃ x_52 : Int, ld w_7 b_6 (0 + 1) = some (.int .i64 x_52) ∧
   ifT (!decide (x_10 = x_52)) (K (.tup []) w_7)
   (onM (ld w_7 b_3 (0 + 0)) fun x_53 =>
   ∃ x_54 : List UInt8, ld w_7 b_6 (0 + 67) = some (.str x_54) ∧
   onE (kvDel w_7 x_53 (.str x_54)) fun r_55 w_56 =>
   ∃ x_57 : Int, ld w_56 b_6 (0 + 0) = some (.int .i64 x_57) ∧
   ifT (decide (x_57 = 3)) (onM (ld w_56 b_3 (0 + 0)) fun x_58 =>
   ∃ x_59 : List UInt8, ld w_56 b_6 (0 + 68) = some (.str x_59) ∧
   ∃ x_60 : Int, ld w_56 b_6 (0 + 1) = some (.int .i64 x_60) ∧
   onE (kvSet w_56 x_58 (.str x_59) (.int .i64 x_60)) fun r_61 w_62 =>
   K (.tup []) w_62)
   (K (.tup []) w_56))))))))
def adv64 : Adv := (.sq .lf (.sq .lf (.sq .lf (.sq .lf (.bl (.sq .lf (.cd .lf (.sq .lf (.cd (.sq .lf (.sq (.bl (.lp [(6, .sc (.opq))] (.sq (.sq .lf (.cd .lf .lf)) (.bl .lf)))) (.sq .lf .lf))) (.sq .lf (.cd .lf (.sq (.sq .lf (.cd .lf .lf)) (.sq .lf (.sq .lf (.cd .lf .lf)))))))))))))))
set_option maxRecDepth 100000 in
theorem eq64 (hk : Hook) (s_0 : AV) (s_1 : AV) (x_2 : AV) (w : AW) (K : AV → AW → Prop) : fnS Tryz.prog hk Tryz.f64 adv64 [(.agg [s_0, s_1]), x_2] w K = F64 hk s_0 s_1 x_2 w K := by kernel_rfl
theorem in64 {hk : Hook} {s_0 : AV} {s_1 : AV} {x_2 : AV} {w : AW} {K : AV → AW → Prop} (hn : hk 64 [(.agg [s_0, s_1]), x_2] w = none) (h : F64 hk s_0 s_1 x_2 w K) : Cl Tryz.prog hk 64 [(.agg [s_0, s_1]), x_2] w K :=
 fnS_ok Tryz.func64 hn (by rw [eq64]; exact h)
def F66 (hk : Hook) (s_0 : AV) (f_1 : AV) (w : AW) (K : AV → AW → Prop) : Prop :=
 ∃ x_2 : Int, lenS s_0 = some (.int .i64 x_2) ∧
 loopP [(.int .i64 0)] w fun R_3 l_4 w_5 => ∃ x_6 : Int, l_4 = [(.int .i64 x_6)] ∧ ∀ _ : Nat → AV,
  ifT (decide (x_6 < x_2)) (atP (idxS 69 s_0 (.int .i64 x_6)) fun b_7 o_8 =>
  onM (ldN 69 w_5 b_7 o_8) fun x_9 =>
  Cv Tryz.prog hk f_1 [x_9] w_5 fun r_10 w_11 =>
  ∃ x_12 : Bool, r_10 = (.bool x_12) ∧
  ifT x_12 (K (.int .i64 x_6) w_11)
  (R_3 [(.int .i64 (wi (x_6 + 1)))] w_11))
  (K (.int .i64 (-1)) w_5)
def adv66 : Adv := (.sq .lf (.sq (.sq .lf (.bl (.lp [(8, .sc (.int .i64))] (.sq .lf (.sq (.cd .lf .lf) (.sq (.bl (.sq .lf (.sq .lf (.cd (.sq .lf .lf) .lf)))) .lf)))))) (.sq .lf .lf)))
set_option maxRecDepth 100000 in
theorem eq66 (hk : Hook) (s_0 : AV) (f_1 : AV) (w : AW) (K : AV → AW → Prop) : fnS Tryz.prog hk Tryz.f66 adv66 [s_0, f_1] w K = F66 hk s_0 f_1 w K := by kernel_rfl
theorem in66 {hk : Hook} {s_0 : AV} {f_1 : AV} {w : AW} {K : AV → AW → Prop} (hn : hk 66 [s_0, f_1] w = none) (h : F66 hk s_0 f_1 w K) : Cl Tryz.prog hk 66 [s_0, f_1] w K :=
 fnS_ok Tryz.func66 hn (by rw [eq66]; exact h)
def F67 (hk : Hook) (x_0 : AV) (cap_1 : AV) (w : AW) (K : AV → AW → Prop) : Prop :=
 onA x_0 fun cs_2 => gd (List.all cs_2 okCell) (
 new w cs_2 fun b_3 w_4 =>
 ∃ x_5 : Int, ld w_4 b_3 (0 + 1) = some (.int .i64 x_5) ∧
 onP cap_1 fun b_6 o_7 =>
 ∃ x_8 : Int, ld w_4 b_6 o_7 = some (.int .i64 x_8) ∧
 ifT (decide (x_5 = x_8)) (∃ x_9 : Int, ld w_4 b_3 (0 + 0) = some (.int .i64 x_9) ∧
 K (.bool (decide (x_9 = 0))) w_4)
 (K (.bool false) w_4))
def adv67 : Adv := (.sq .lf (.sq .lf .lf))
set_option maxRecDepth 100000 in
theorem eq67 (hk : Hook) (x_0 : AV) (cap_1 : AV) (w : AW) (K : AV → AW → Prop) : fnS Tryz.prog hk Tryz.f67 adv67 [x_0, cap_1] w K = F67 hk x_0 cap_1 w K := by kernel_rfl
theorem in67 {hk : Hook} {x_0 : AV} {cap_1 : AV} {w : AW} {K : AV → AW → Prop} (hn : hk 67 [x_0, cap_1] w = none) (h : F67 hk x_0 cap_1 w K) : Cl Tryz.prog hk 67 [x_0, cap_1] w K :=
 fnS_ok Tryz.func67 hn (by rw [eq67]; exact h)
def F68 (hk : Hook) (d_0 : AV) (so_1 : AV) (w : AW) (K : AV → AW → Prop) : Prop :=
 Cl Tryz.prog hk 95 [d_0] w fun r_2 w_3 =>
 ∃ e_4 : Int, r_2 = (.int .i64 e_4) ∧
 ifT (!decide (e_4 = 0)) (K (.int .i64 e_4) w_3)
 (onP d_0 fun b_5 o_6 =>
 onM (ld w_3 b_5 (o_6 + 5)) fun x_7 =>
 ∃ x_8 : Int, lenS x_7 = some (.int .i64 x_8) ∧
 loopP [.nilslice, (.int .i64 0)] w_3 fun R_9 l_10 w_11 => ∃ left_12 : AV, ∃ x_13 : Int, l_10 = [left_12, (.int .i64 x_13)] ∧ ∀ _ : Nat → AV,
  ifT (decide (x_13 < x_8)) (atP (idxS 69 x_7 (.int .i64 x_13)) fun b_14 o_15 =>
  onM (ldN 69 w_11 b_14 o_15) fun x_16 =>
  new w_11 (stepC (.int .i64 0) (.int .i64 0) (.int .i64 0) z64 (.str []) (.str [])) fun b_17 w_18 =>
  onA x_16 fun cs_19 => gd (List.all cs_19 okCell) (
  gd (Nat.beq cs_19.length 69) (onM (AW.putCells w_18 b_17 0 cs_19) fun w_20 =>
  onM (ldN 69 w_20 b_17 0) fun x_21 =>
  Cv Tryz.prog hk so_1 [(.int .i64 x_13), x_21] w_20 fun r_22 w_23 =>
  ∃ x_24 : Bool, r_22 = (.bool x_24) ∧
  ifT x_24 (onP d_0 fun b_25 o_26 =>
  ∃ x_27 : AV, ∃ x_28 : AV, ldN 2 w_23 b_25 (o_26 + 1) = some (.agg [x_27, x_28]) ∧
  onM (ldN 69 w_23 b_17 0) fun x_29 =>
  Cl Tryz.prog hk 64 [(.agg [x_27, x_28]), x_29] w_23 fun r_30 w_31 =>
  r_30 = .tup [] ∧
  R_9 [left_12, (.int .i64 (wi (x_13 + 1)))] w_31)
  (onM (ldN 69 w_23 b_17 0) fun x_32 =>
  onA x_32 fun cs_33 => gd (List.all cs_33 okCell) (
  gd (Nat.beq cs_33.length 69 && Nat.ble 69 69) (
  new w_23 (listPut (stepC (.int .i64 0) (.int .i64 0) (.int .i64 0) z64 (.str []) (.str [])) 0 cs_33) fun b_34 w_35 =>
  onE (appS 69 120 w_35 left_12 (.slice b_34 0 1 1 none)) fun left_36 w_37 =>
  R_9 [left_36, (.int .i64 (wi (x_13 + 1)))] w_37))))))
  (onP d_0 fun b_38 o_39 =>
 gd (okCell left_12) (
 onM (AW.putCells w_11 b_38 (o_39 + 5) [left_12]) fun w_40 =>
 K (.int .i64 0) w_40)))
def adv68 : Adv := (.sq .lf (.sq (.sq .lf (.sq .lf (.cd (.sq .lf .lf) .lf))) (.sq .lf (.sq (.sq .lf (.bl (.lp [(6, .sc (.opq)), (19, .sc (.int .i64))] (.sq .lf (.sq (.cd .lf .lf) (.sq (.bl (.sq .lf (.sq .lf (.cd .lf .lf)))) .lf)))))) (.sq .lf (.sq .lf .lf))))))
set_option maxRecDepth 100000 in
theorem eq68 (hk : Hook) (d_0 : AV) (so_1 : AV) (w : AW) (K : AV → AW → Prop) : fnS Tryz.prog hk Tryz.f68 adv68 [d_0, so_1] w K = F68 hk d_0 so_1 w K := by kernel_rfl
theorem in68 {hk : Hook} {d_0 : AV} {so_1 : AV} {w : AW} {K : AV → AW → Prop} (hn : hk 68 [d_0, so_1] w = none) (h : F68 hk d_0 so_1 w K) : Cl Tryz.prog hk 68 [d_0, so_1] w K :=
 fnS_ok Tryz.func68 hn (by rw [eq68]; exact h)
def F69 (hk : Hook) (i_0 : Int) (x_1 : AV) (cap_2 : AV) (cap_3 : AV) (w : AW) (K : AV → AW → Prop) : Prop :=
 onA x_1 fun cs_4 => gd (List.all cs_4 okCell) (
 new w cs_4 fun b_5 w_6 =>
 ∃ x_7 : Int, ld w_6 b_5 (0 + 0) = some (.int .i64 x_7) ∧
 ifT (decide (x_7 = 1)) (∃ x_8 : Int, ld w_6 b_5 (0 + 1) = some (.int .i64 x_8) ∧
 onP cap_2 fun b_9 o_10 =>
 ∃ x_11 : Int, ld w_6 b_9 o_10 = some (.int .i64 x_11) ∧
 K (.bool (decide (x_8 = x_11))) w_6)
 (∃ x_12 : Int, ld w_6 b_5 (0 + 0) = some (.int .i64 x_12) ∧
 ifT (decide (x_12 = 2)) (∃ x_13 : Int, ld w_6 b_5 (0 + 1) = some (.int .i64 x_13) ∧
  onP cap_2 fun b_14 o_15 =>
  ∃ x_16 : Int, ld w_6 b_14 o_15 = some (.int .i64 x_16) ∧
  K (.bool (decide (x_13 = x_16))) w_6)
 (onP cap_3 fun b_17 o_18 =>
 ∃ x_19 : Int, ld w_6 b_17 o_18 = some (.int .i64 x_19) ∧
 K (.bool (decide (i_0 ≤ x_19))) w_6)))
def adv69 : Adv := (.sq .lf (.sq (.sq .lf (.cd (.sq .lf .lf) .lf)) (.sq .lf .lf)))
set_option maxRecDepth 100000 in
theorem eq69 (hk : Hook) (i_0 : Int) (x_1 : AV) (cap_2 : AV) (cap_3 : AV) (w : AW) (K : AV → AW → Prop) : fnS Tryz.prog hk Tryz.f69 adv69 [(.int .i64 i_0), x_1, cap_2, cap_3] w K = F69 hk i_0 x_1 cap_2 cap_3 w K := by kernel_rfl
theorem in69 {hk : Hook} {i_0 : Int} {x_1 : AV} {cap_2 : AV} {cap_3 : AV} {w : AW} {K : AV → AW → Prop} (hn : hk 69 [(.int .i64 i_0), x_1, cap_2, cap_3] w = none) (h : F69 hk i_0 x_1 cap_2 cap_3 w K) : Cl Tryz.prog hk 69 [(.int .i64 i_0), x_1, cap_2, cap_3] w K :=
 fnS_ok Tryz.func69 hn (by rw [eq69]; exact h)
def F74 (hk : Hook) (m_0 : AV) (w : AW) (K : AV → AW → Prop) : Prop :=
 gd (okCell m_0) (
 new w [m_0] fun b_1 w_2 =>
 K (.func 112 [] [(.ptr b_1 0)]) w_2)
def adv74 : Adv := (.sq .lf (.sq .lf .lf))
set_option maxRecDepth 100000 in
theorem eq74 (hk : Hook) (m_0 : AV) (w : AW) (K : AV → AW → Prop) : fnS Tryz.prog hk Tryz.f74 adv74 [m_0] w K = F74 hk m_0 w K := by kernel_rfl
theorem in74 {hk : Hook} {m_0 : AV} {w : AW} {K : AV → AW → Prop} (hn : hk 74 [m_0] w = none) (h : F74 hk m_0 w K) : Cl Tryz.prog hk 74 [m_0] w K :=
 fnS_ok Tryz.func74 hn (by rw [eq74]; exact h)
def F77 (hk : Hook) (d_0 : AV) (name_1 : List UInt8) (w : AW) (K : AV → AW → Prop) : Prop :=
 Cl Tryz.prog hk 59 [d_0, (.str name_1)] w fun r_2 w_3 =>
 ∃ x_4 : Int, ∃ x_5 : Int, r_2 = .tup [(.int .i64 x_4), (.int .i64 x_5)] ∧
 ifT (!decide (x_5 = 0)) (K (.tup [.nilslice, (.int .i64 x_5)]) w_3)
 (onP d_0 fun b_6 o_7 =>
  ∃ x_8 : Bool, ld w_3 b_6 (o_7 + 7) = some (.bool x_8) ∧
  ifT x_8 (K (.tup [.nilslice, (.int .i64 6)]) w_3)
  (onP d_0 fun b_9 o_10 =>
 onM (ld w_3 b_9 ((o_10 + 3) + 1)) fun x_11 =>
 onM (lookS .nilslice false w_3 x_11 (.int .i64 x_4)) fun x_12 =>
 ∃ x_13 : Int, lenS x_12 = some (.int .i64 x_13) ∧
 loopP [.nilslice, (.int .i64 0)] w_3 fun R_14 l_15 w_16 => ∃ out_17 : AV, ∃ x_18 : Int, l_15 = [out_17, (.int .i64 x_18)] ∧ ∀ _ : Nat → AV,
  ifT (decide (x_18 < x_13)) (atP (idxS 64 x_12 (.int .i64 x_18)) fun b_19 o_20 =>
  onM (ldN 64 w_16 b_19 o_20) fun x_21 =>
  new w_16 z64 fun b_22 w_23 =>
  onA x_21 fun cs_24 => gd (List.all cs_24 okCell) (
  gd (Nat.beq cs_24.length 64) (onM (AW.putCells w_23 b_22 0 cs_24) fun w_25 =>
  onM (slP 64 1 b_22 0 none none none) fun x_26 =>
  onE (appS 1 1 w_25 out_17 x_26) fun out_27 w_28 =>
  R_14 [out_27, (.int .i64 (wi (x_18 + 1)))] w_28)))
  (K (.tup [out_17, (.int .i64 0)]) w_16)))
def adv77 : Adv := (.sq .lf (.sq .lf (.sq (.bl (.sq .lf (.cd (.sq .lf .lf) (.sq .lf (.cd (.sq .lf .lf) .lf))))) (.sq .lf (.sq (.sq .lf (.bl (.lp [(8, .sc (.opq)), (34, .sc (.int .i64))] (.sq .lf (.sq (.cd .lf .lf) (.sq (.bl (.sq .lf .lf)) .lf)))))) (.sq .lf .lf))))))
set_option maxRecDepth 100000 in
theorem eq77 (hk : Hook) (d_0 : AV) (name_1 : List UInt8) (w : AW) (K : AV → AW → Prop) : fnS Tryz.prog hk Tryz.f77 adv77 [d_0, (.str name_1)] w K = F77 hk d_0 name_1 w K := by kernel_rfl
theorem in77 {hk : Hook} {d_0 : AV} {name_1 : List UInt8} {w : AW} {K : AV → AW → Prop} (hn : hk 77 [d_0, (.str name_1)] w = none) (h : F77 hk d_0 name_1 w K) : Cl Tryz.prog hk 77 [d_0, (.str name_1)] w K :=
 fnS_ok Tryz.func77 hn (by rw [eq77]; exact h)
def F78 (hk : Hook) (b_0 : AV) (w : AW) (K : AV → AW → Prop) : Prop :=
 loopP [.nilslice, (.int .i64 0)] w fun R_1 l_2 w_3 => ∃ out_4 : AV, ∃ at_5 : Int, l_2 = [out_4, (.int .i64 at_5)] ∧ ∀ _ : Nat → AV,
  ∃ x_6 : Int, lenS b_0 = some (.int .i64 x_6) ∧
  ifT (decide ((wi (at_5 + 64)) ≤ x_6)) (atP (idxS 1 b_0 (.int .i64 at_5)) fun b_7 o_8 =>
  ∃ x_9 : Int, ld w_3 b_7 o_8 = some (.int .u8 x_9) ∧
  join (fun l_10 w_11 => ∃ n_13 : Int, l_10 = [(.int .i64 n_13)] ∧ ∀ _ : Nat → AV,
  onM (slS 1 b_0 (some (.int .i64 (wi (at_5 + 2)))) (some (.int .i64 (wi ((wi (at_5 + 2)) + n_13)))) none) fun x_14 =>
  onE (appS 1 1 w_11 out_4 x_14) fun out_15 w_16 =>
  ifT (decide (n_13 < 62)) (K out_15 w_16)
  (R_1 [out_15, (.int .i64 (wi (at_5 + 64)))] w_16)) fun J_12 =>
  ifT (decide (62 < (wi x_9))) (J_12 [(.int .i64 0)] w_3)
  (J_12 [(.int .i64 (wi x_9))] w_3))
  (K out_4 w_3)
def adv78 : Adv := (.sq .lf (.sq .lf (.sq (.sq .lf (.bl (.lp [(3, .sc (.opq)), (4, .sc (.int .i64))] (.sq (.sq .lf (.cd .lf .lf)) (.sq (.bl (.sq .lf (.sj [(5, .sc (.int .i64))] (.sq .lf (.cd .lf .lf)) (.sq .lf (.sq .lf (.cd .lf .lf)))))) .lf))))) (.sq .lf .lf))))
set_option maxRecDepth 100000 in
theorem eq78 (hk : Hook) (b_0 : AV) (w : AW) (K : AV → AW → Prop) : fnS Tryz.prog hk Tryz.f78 adv78 [b_0] w K = F78 hk b_0 w K := by kernel_rfl
theorem in78 {hk : Hook} {b_0 : AV} {w : AW} {K : AV → AW → Prop} (hn : hk 78 [b_0] w = none) (h : F78 hk b_0 w K) : Cl Tryz.prog hk 78 [b_0] w K :=
 fnS_ok Tryz.func78 hn (by rw [eq78]; exact h)
def F79 (hk : Hook) (s1_0 : AV) (s2_1 : AV) (w : AW) (K : AV → AW → Prop) : Prop :=
 ∃ x_2 : Int, lenS s1_0 = some (.int .i64 x_2) ∧
 ∃ x_3 : Int, lenS s2_1 = some (.int .i64 x_3) ∧
 ifT (!decide (x_2 = x_3)) (K (.bool false) w)
 (∃ x_4 : Int, lenS s1_0 = some (.int .i64 x_4) ∧
 loopP [(.int .i64 0)] w fun R_5 l_6 w_7 => ∃ x_8 : Int, l_6 = [(.int .i64 x_8)] ∧ ∀ _ : Nat → AV,
  ifT (decide (x_8 < x_4)) (atP (idxS 1 s1_0 (.int .i64 x_8)) fun b_9 o_10 =>
  ∃ x_11 : Int, ld w_7 b_9 o_10 = some (.int .u8 x_11) ∧
  atP (idxS 1 s2_1 (.int .i64 x_8)) fun b_12 o_13 =>
  ∃ x_14 : Int, ld w_7 b_12 o_13 = some (.int .u8 x_14) ∧
  ifT (!decide (x_11 = x_14)) (K (.bool false) w_7)
  (R_5 [(.int .i64 (wi (x_8 + 1)))] w_7))
  (K (.bool true) w_7))
def adv79 : Adv := (.sq .lf (.sq (.sq .lf (.cd (.sq .lf .lf) .lf)) (.sq (.sq .lf (.bl (.lp [(13, .sc (.int .i64))] (.sq .lf (.sq (.cd .lf .lf) (.sq (.bl (.sq .lf (.sq .lf (.cd (.sq .lf .lf) .lf)))) .lf)))))) (.sq .lf .lf))))
set_option maxRecDepth 100000 in
theorem eq79 (hk : Hook) (s1_0 : AV) (s2_1 : AV) (w : AW) (K : AV → AW → Prop) : fnS Tryz.prog hk Tryz.f79 adv79 [s1_0, s2_1] w K = F79 hk s1_0 s2_1 w K := by kernel_rfl
theorem in79 {hk : Hook} {s1_0 : AV} {s2_1 : AV} {w : AW} {K : AV → AW → Prop} (hn : hk 79 [s1_0, s2_1] w = none) (h : F79 hk s1_0 s2_1 w K) : Cl Tryz.prog hk 79 [s1_0, s2_1] w K :=
 fnS_ok Tryz.func79 hn (by rw [eq79]; exact h)
def F80 (hk : Hook) (b_0 : AV) (w : AW) (K : AV → AW → Prop) : Prop :=
 new w [.nilslice] fun b_1 w_2 =>
 Cl Tryz.prog hk 87 [b_0, (.int .i64 0)] w_2 fun r_3 w_4 =>
 range2 Tryz.prog hk r_3 w_4 (fun R_5 x_6 y_7 w_8 B_9 => loopAt w_8 (w_4.size + 1) = some R_5 ∧ ∀ w_10 : AW, w_10 = w_8.set (w_4.size + 1) (busyOb R_5) →
  onM (ld w_10 b_1 0) fun x_11 =>
  onE (appS 1 1 w_10 x_11 y_7) fun x_12 w_13 =>
  gd (okCell x_12) (
  onM (AW.putCells w_13 b_1 0 [x_12]) fun w_14 =>
  B_9 .normal w_14))
 (fun w_15 => onM (ld w_15 b_1 0) fun x_16 =>
 onM (takeAll w_15 [w_4.size]) fun w_17 => K x_16 w_17)
 (fun w_15 => onM (takeAll w_15 [w_4.size]) fun w_18 => K .nilslice w_18)
def adv80 : AdvR := (.sq (.of .lf) (.sq (.of .lf) (.sq (.sq (.of .lf) (.bl (.rg .lf (.bl .lf)))) (.of (.sq .lf .lf)))))
set_option maxRecDepth 100000 in
theorem eq80 (hk : Hook) (b_0 : AV) (w : AW) (K : AV → AW → Prop) : fnR Tryz.prog hk Tryz.f80 adv80 [b_0] w K = F80 hk b_0 w K := by kernel_rfl
theorem in80 {hk : Hook} {b_0 : AV} {w : AW} {K : AV → AW → Prop} (hn : hk 80 [b_0] w = none) (h : F80 hk b_0 w K) : Cl Tryz.prog hk 80 [b_0] w K :=
 fnR_ok Tryz.func80 hn (by rw [eq80]; exact h)
def F81 (hk : Hook) (s_0 : AV) (w : AW) (K : AV → AW → Prop) : Prop :=
 gd (okCell s_0) (
 new w [s_0] fun b_1 w_2 =>
 new w_2 [(.int .i64 0)] fun b_3 w_4 =>
 onM (ld w_4 b_1 0) fun x_5 =>
 onP x_5 fun b_6 o_7 =>
 onM (ld w_4 b_6 (o_7 + 2)) fun x_8 =>
 ∃ x_9 : Int, lenS x_8 = some (.int .i64 x_9) ∧
 new w_4 [(.int .i64 0)] fun b_10 w_11 =>
 onM (AW.putCells w_11 b_10 0 [(.int .i64 (wi (Int.tdiv x_9 62)))]) fun w_12 =>
 onM (ld w_12 b_1 0) fun x_13 =>
 onP x_13 fun b_14 o_15 =>
 onM (ld w_12 b_14 (o_15 + 2)) fun x_16 =>
 Cl Tryz.prog hk 87 [x_16, (.int .i64 (wi (Int.tdiv x_9 62)))] w_12 fun r_17 w_18 =>
 range2 Tryz.prog hk r_17 w_18 (fun R_19 x_20 y_21 w_22 B_23 => loopAt w_22 (w_18.size + 1) = some R_19 ∧ ∀ w_24 : AW, w_24 = w_22.set (w_18.size + 1) (busyOb R_19) →
  onM (ld w_24 b_1 0) fun x_25 =>
  onM (ld w_24 b_1 0) fun x_26 =>
  onP x_26 fun b_27 o_28 =>
  onM (ld w_24 b_27 (o_28 + 0)) fun x_29 =>
  onM (ld w_24 b_1 0) fun x_30 =>
  onP x_30 fun b_31 o_32 =>
  ∃ x_33 : List UInt8, ld w_24 b_31 (o_32 + 1) = some (.str x_33) ∧
  Cl Tryz.prog hk 29 [x_29, (.str x_33), x_20, y_21] w_24 fun r_34 w_35 =>
  ∃ x_36 : Int, r_34 = (.int .i64 x_36) ∧
  ld w_35 b_1 0 = some x_25 ∧
  Cl Tryz.prog hk 84 [x_25, (.int .i64 x_36)] w_35 fun r_37 w_38 =>
  ∃ x_39 : Int, r_37 = (.int .i64 x_39) ∧
  ifT (!decide (x_39 = 0)) (onM (AW.putCells w_38 b_3 0 [(.int .i64 x_39)]) fun w_40 =>
  B_23 .ret w_40)
  (∃ x_41 : Int, ld w_38 b_10 0 = some (.int .i64 x_41) ∧
  onM (AW.putCells w_38 b_10 0 [(.int .i64 (wi (x_41 + 1)))]) fun w_42 =>
  B_23 .normal w_42))
 (fun w_43 => onM (ld w_43 b_1 0) fun x_44 =>
 onM (ld w_43 b_1 0) fun x_45 =>
 onP x_45 fun b_46 o_47 =>
 onM (ld w_43 b_46 (o_47 + 0)) fun x_48 =>
 onM (ld w_43 b_1 0) fun x_49 =>
 onP x_49 fun b_50 o_51 =>
 ∃ x_52 : List UInt8, ld w_43 b_50 (o_51 + 1) = some (.str x_52) ∧
 ∃ x_53 : Int, ld w_43 b_10 0 = some (.int .i64 x_53) ∧
 Cl Tryz.prog hk 124 [x_48, (.str x_52), (.int .i64 x_53)] w_43 fun r_54 w_55 =>
 ∃ x_56 : Int, r_54 = (.int .i64 x_56) ∧
 ld w_55 b_1 0 = some x_44 ∧
 Cl Tryz.prog hk 84 [x_44, (.int .i64 x_56)] w_55 fun r_57 w_58 =>
 ∃ x_59 : Int, r_57 = (.int .i64 x_59) ∧
 ifT (!decide (x_59 = 0)) (onM (AW.putCells w_58 b_3 0 [(.int .i64 x_59)]) fun w_60 =>
  onM (takeAll w_60 [w_18.size]) fun w_61 => ∃ res_62 : Int, ld w_61 b_3 0 = some (.int .i64 res_62) ∧
 K (.int .i64 res_62) w_61)
 (onM (ld w_58 b_1 0) fun x_63 =>
 onM (ld w_58 b_1 0) fun x_64 =>
 onP x_64 fun b_65 o_66 =>
 onM (ld w_58 b_65 (o_66 + 0)) fun x_67 =>
 onM (ld w_58 b_1 0) fun x_68 =>
 onP x_68 fun b_69 o_70 =>
 ∃ x_71 : List UInt8, ld w_58 b_69 (o_70 + 1) = some (.str x_71) ∧
 Cl Tryz.prog hk 37 [x_67, (.str x_71)] w_58 fun r_72 w_73 =>
 ∃ x_74 : Int, r_72 = (.int .i64 x_74) ∧
 ld w_73 b_1 0 = some x_63 ∧
 Cl Tryz.prog hk 84 [x_63, (.int .i64 x_74)] w_73 fun r_75 w_76 =>
 ∃ x_77 : Int, r_75 = (.int .i64 x_77) ∧
 onM (AW.putCells w_76 b_3 0 [(.int .i64 x_77)]) fun w_78 =>
 onM (takeAll w_78 [w_18.size]) fun w_79 => ∃ res_80 : Int, ld w_79 b_3 0 = some (.int .i64 res_80) ∧
 K (.int .i64 res_80) w_79))
 (fun w_43 => onM (takeAll w_43 [w_18.size]) fun w_81 => ∃ res_82 : Int, ld w_81 b_3 0 = some (.int .i64 res_82) ∧
 K (.int .i64 res_82) w_81))
def adv81 : AdvR := (.sq (.of .lf) (.sq (.of .lf) (.sq (.of .lf) (.sq (.sq (.of .lf) (.bl (.rg (.sq .lf .lf) (.bl (.sq (.sq .lf (.sq .lf (.cd (.sq .lf .lf) .lf))) .lf))))) (.of (.sq (.sq .lf (.sq .lf (.cd (.sq .lf .lf) .lf))) (.sq .lf .lf)))))))
set_option maxRecDepth 100000 in
theorem eq81 (hk : Hook) (s_0 : AV) (w : AW) (K : AV → AW → Prop) : fnR Tryz.prog hk Tryz.f81 adv81 [s_0] w K = F81 hk s_0 w K := by kernel_rfl
theorem in81 {hk : Hook} {s_0 : AV} {w : AW} {K : AV → AW → Prop} (hn : hk 81 [s_0] w = none) (h : F81 hk s_0 w K) : Cl Tryz.prog hk 81 [s_0] w K :=
 fnR_ok Tryz.func81 hn (by rw [eq81]; exact h)
def F82 (hk : Hook) (i_0 : Int) (w : AW) (K : AV → AW → Prop) : Prop :=
 Cl Tryz.prog hk 125 [(.int .i64 i_0)] w fun r_1 w_2 =>
 ∃ x_3 : List UInt8, r_1 = (.str x_3) ∧
 K (.str x_3) w_2
def adv82 : Adv := (.sq .lf (.sq .lf .lf))
set_option maxRecDepth 100000 in
theorem eq82 (hk : Hook) (i_0 : Int) (w : AW) (K : AV → AW → Prop) : fnS Tryz.prog hk Tryz.f82 adv82 [(.int .i64 i_0)] w K = F82 hk i_0 w K := by kernel_rfl
theorem in82 {hk : Hook} {i_0 : Int} {w : AW} {K : AV → AW → Prop} (hn : hk 82 [(.int .i64 i_0)] w = none) (h : F82 hk i_0 w K) : Cl Tryz.prog hk 82 [(.int .i64 i_0)] w K :=
 fnS_ok Tryz.func82 hn (by rw [eq82]; exact h)
def F83 (hk : Hook) (s_0 : AV) (w : AW) (K : AV → AW → Prop) : Prop :=
 ∃ x_1 : Bool, binOpA Tryz.prog .eql 85 true s_0 .nilptr = some (.bool x_1) ∧
 ifT x_1 (K (.int .i64 1) w)
 (onP s_0 fun b_2 o_3 =>
 onM (ld w b_2 (o_3 + 0)) fun x_4 =>
 ∃ x_5 : Bool, binOpA Tryz.prog .eql 24 true x_4 .nilptr = some (.bool x_5) ∧
 ifT x_5 (K (.int .i64 1) w)
 (onP s_0 fun b_6 o_7 =>
  ∃ x_8 : Bool, ld w b_6 (o_7 + 4) = some (.bool x_8) ∧
  ifT x_8 (K (.int .i64 4) w)
  (K (.int .i64 0) w)))
def adv83 : Adv := (.sq .lf (.sq (.bl (.sq .lf (.cd (.sq .lf .lf) (.sq .lf (.cd (.sq .lf .lf) .lf))))) (.sq .lf .lf)))
set_option maxRecDepth 100000 in
theorem eq83 (hk : Hook) (s_0 : AV) (w : AW) (K : AV → AW → Prop) : fnS Tryz.prog hk Tryz.f83 adv83 [s_0] w K = F83 hk s_0 w K := by kernel_rfl
theorem in83 {hk : Hook} {s_0 : AV} {w : AW} {K : AV → AW → Prop} (hn : hk 83 [s_0] w = none) (h : F83 hk s_0 w K) : Cl Tryz.prog hk 83 [s_0] w K :=
 fnS_ok Tryz.func83 hn (by rw [eq83]; exact h)
def F84 (hk : Hook) (s_0 : AV) (e_1 : Int) (w : AW) (K : AV → AW → Prop) : Prop :=
 ifT (!decide (e_1 = 0)) (onP s_0 fun b_2 o_3 =>
  onM (AW.putCells w b_2 (o_3 + 4) [(.bool true)]) fun w_4 =>
  K (.int .i64 e_1) w_4)
 (K (.int .i64 e_1) w)
def adv84 : Adv := (.sq .lf (.sq (.sq .lf (.cd .lf .lf)) (.sq .lf .lf)))
set_option maxRecDepth 100000 in
theorem eq84 (hk : Hook) (s_0 : AV) (e_1 : Int) (w : AW) (K : AV → AW → Prop) : fnS Tryz.prog hk Tryz.f84 adv84 [s_0, (.int .i64 e_1)] w K = F84 hk s_0 e_1 w K := by kernel_rfl
theorem in84 {hk : Hook} {s_0 : AV} {e_1 : Int} {w : AW} {K : AV → AW → Prop} (hn : hk 84 [s_0, (.int .i64 e_1)] w = none) (h : F84 hk s_0 e_1 w K) : Cl Tryz.prog hk 84 [s_0, (.int .i64 e_1)] w K :=
 fnS_ok Tryz.func84 hn (by rw [eq84]; exact h)
def F85 (hk : Hook) (body_0 : AV) (w : AW) (K : AV → AW → Prop) : Prop :=
 ∃ x_1 : Int, lenS body_0 = some (.int .i64 x_1) ∧
 ifT (decide (65536 < x_1)) (K (.tup [.nilslice, (.int .i64 3)]) w)
 (∃ x_2 : Int, lenS body_0 = some (.int .i64 x_2) ∧
 Cl Tryz.prog hk 126 [.nilslice, (.int .u32 (IntKind.wrap .u32 x_2))] w fun r_3 w_4 =>
 onE (appS 1 1 w_4 r_3 body_0) fun x_5 w_6 =>
 K (.tup [x_5, (.int .i64 0)]) w_6)
def adv85 : Adv := (.sq .lf (.sq (.sq .lf (.cd (.sq .lf .lf) .lf)) (.sq .lf .lf)))
set_option maxRecDepth 100000 in
theorem eq85 (hk : Hook) (body_0 : AV) (w : AW) (K : AV → AW → Prop) : fnS Tryz.prog hk Tryz.f85 adv85 [body_0] w K = F85 hk body_0 w K := by kernel_rfl
theorem in85 {hk : Hook} {body_0 : AV} {w : AW} {K : AV → AW → Prop} (hn : hk 85 [body_0] w = none) (h : F85 hk body_0 w K) : Cl Tryz.prog hk 85 [body_0] w K :=
 fnS_ok Tryz.func85 hn (by rw [eq85]; exact h)
def F86 (hk : Hook) (slices_0 : AV) (w : AW) (K : AV → AW → Prop) : Prop :=
 ∃ x_1 : Int, lenS slices_0 = some (.int .i64 x_1) ∧
 loopP [(.int .i64 0), (.int .i64 0)] w fun R_2 l_3 w_4 => ∃ size_5 : Int, ∃ x_6 : Int, l_3 = [(.int .i64 size_5), (.int .i64 x_6)] ∧ ∀ _ : Nat → AV,
  ifT (decide (x_6 < x_1)) (atP (idxS 1 slices_0 (.int .i64 x_6)) fun b_7 o_8 =>
  onM (ld w_4 b_7 o_8) fun s_9 =>
  ∃ x_10 : Int, lenS s_9 = some (.int .i64 x_10) ∧
  ifT (decide ((wi (size_5 + x_10)) < 0)) (False)
  (R_2 [(.int .i64 (wi (size_5 + x_10))), (.int .i64 (wi (x_6 + 1)))] w_4))
  (Cl Tryz.prog hk 127 [.nilslice, (.int .i64 size_5)] w_4 fun r_11 w_12 =>
 ∃ x_13 : Int, lenS slices_0 = some (.int .i64 x_13) ∧
 loopP [r_11, (.int .i64 0)] w_12 fun R_14 l_15 w_16 => ∃ newslice_17 : AV, ∃ x_18 : Int, l_15 = [newslice_17, (.int .i64 x_18)] ∧ ∀ _ : Nat → AV,
  ifT (decide (x_18 < x_13)) (atP (idxS 1 slices_0 (.int .i64 x_18)) fun b_19 o_20 =>
  onM (ld w_16 b_19 o_20) fun s_21 =>
  onE (appS 1 1 w_16 newslice_17 s_21) fun newslice_22 w_23 =>
  R_14 [newslice_22, (.int .i64 (wi (x_18 + 1)))] w_23)
  (K newslice_17 w_16))
def adv86 : Adv := (.sq .lf (.sq .lf (.sq (.sq .lf (.bl (.lp [(3, .sc (.int .i64)), (11, .sc (.int .i64))] (.sq .lf (.sq (.cd .lf .lf) (.sq (.bl (.sq .lf (.sq .lf (.sq .lf (.cd .lf .lf))))) .lf)))))) (.sq .lf (.sq (.sq .lf (.bl (.lp [(6, .sc (.opq)), (27, .sc (.int .i64))] (.sq .lf (.sq (.cd .lf .lf) (.sq (.bl (.sq .lf .lf)) .lf)))))) (.sq .lf .lf))))))
set_option maxRecDepth 100000 in
theorem eq86 (hk : Hook) (slices_0 : AV) (w : AW) (K : AV → AW → Prop) : fnS Tryz.prog hk Tryz.f86 adv86 [slices_0] w K = F86 hk slices_0 w K := by kernel_rfl
theorem in86 {hk : Hook} {slices_0 : AV} {w : AW} {K : AV → AW → Prop} (hn : hk 86 [slices_0] w = none) (h : F86 hk slices_0 w K) : Cl Tryz.prog hk 86 [slices_0] w K :=
 fnS_ok Tryz.func86 hn (by rw [eq86]; exact h)
def F87 (hk : Hook) (b_0 : AV) (from_1 : Int) (w : AW) (K : AV → AW → Prop) : Prop :=
 gd (okCell b_0) (
 new w [b_0] fun b_2 w_3 =>
 new w_3 [(.int .i64 from_1)] fun b_4 w_5 =>
 K (.func 128 [] [(.ptr b_4 0), (.ptr b_2 0)]) w_5)
def adv87 : Adv := (.sq .lf (.sq .lf .lf))
set_option maxRecDepth 100000 in
theorem eq87 (hk : Hook) (b_0 : AV) (from_1 : Int) (w : AW) (K : AV → AW → Prop) : fnS Tryz.prog hk Tryz.f87 adv87 [b_0, (.int .i64 from_1)] w K = F87 hk b_0 from_1 w K := by kernel_rfl
theorem in87 {hk : Hook} {b_0 : AV} {from_1 : Int} {w : AW} {K : AV → AW → Prop} (hn : hk 87 [b_0, (.int .i64 from_1)] w = none) (h : F87 hk b_0 from_1 w K) : Cl Tryz.prog hk 87 [b_0, (.int .i64 from_1)] w K :=
 fnS_ok Tryz.func87 hn (by rw [eq87]; exact h)
def F88 (hk : Hook) (l_0 : AV) (n_1 : Int) (w : AW) (K : AV → AW → Prop) : Prop :=
 new w [(.int .i64 n_1)] fun b_2 w_3 =>
 new w_3 [(.int .i64 0), (.int .i64 0)] fun b_4 w_5 =>
 Cl Tryz.prog hk 129 [l_0] w_5 fun r_6 w_7 =>
 ∃ x_8 : Bool, r_6 = (.bool x_8) ∧
 ifT (!x_8) (onM (AW.putCells w_7 b_4 0 [(.int .i64 0), (.int .i64 0)]) fun w_9 =>
 ∃ res_10 : Int, ∃ res_11 : Int, ldN 2 w_9 b_4 0 = some (.agg [(.int .i64 res_10), (.int .i64 res_11)]) ∧
 K (.tup [(.agg [(.int .i64 res_10), (.int .i64 res_11)]), (.int .i64 2)]) w_9)
 (∃ x_12 : Int, ld w_7 b_2 0 = some (.int .i64 x_12) ∧
 ifT (decide (x_12 < 0)) (onM (AW.putCells w_7 b_4 0 [(.int .i64 0), (.int .i64 0)]) fun w_13 =>
  ∃ res_14 : Int, ∃ res_15 : Int, ldN 2 w_13 b_4 0 = some (.agg [(.int .i64 res_14), (.int .i64 res_15)]) ∧
 K (.tup [(.agg [(.int .i64 res_14), (.int .i64 res_15)]), (.int .i64 2)]) w_13)
 (Cl Tryz.prog hk 130 [l_0, (.func 131 [] [(.ptr b_2 0)])] w_7 fun r_16 w_17 =>
 ∃ i_18 : Int, r_16 = (.int .i64 i_18) ∧
 join (fun l_19 w_20 => ∃ i_22 : Int, l_19 = [(.int .i64 i_22)] ∧ ∀ _ : Nat → AV,
  atP (idxS 2 l_0 (.int .i64 (wi (i_22 - 1)))) fun b_23 o_24 =>
  ∃ x_25 : Int, ∃ x_26 : Int, ldN 2 w_20 b_23 o_24 = some (.agg [(.int .i64 x_25), (.int .i64 x_26)]) ∧
  onM (AW.putCells w_20 b_4 0 [(.int .i64 x_25), (.int .i64 x_26)]) fun w_27 =>
  ∃ res_28 : Int, ∃ res_29 : Int, ldN 2 w_27 b_4 0 = some (.agg [(.int .i64 res_28), (.int .i64 res_29)]) ∧
 K (.tup [(.agg [(.int .i64 res_28), (.int .i64 res_29)]), (.int .i64 0)]) w_27) fun J_21 =>
 ifT (decide (i_18 < 0)) (∃ i_30 : Int, lenS l_0 = some (.int .i64 i_30) ∧
  J_21 [(.int .i64 i_30)] w_17)
 (J_21 [(.int .i64 i_18)] w_17)))
def adv88 : Adv := (.sq .lf (.sq (.sq .lf (.cd (.sq .lf .lf) .lf)) (.sq .lf (.sj [(6, .sc (.int .i64))] (.sq .lf (.cd .lf .lf)) (.sq .lf .lf)))))
set_option maxRecDepth 100000 in
theorem eq88 (hk : Hook) (l_0 : AV) (n_1 : Int) (w : AW) (K : AV → AW → Prop) : fnS Tryz.prog hk Tryz.f88 adv88 [l_0, (.int .i64 n_1)] w K = F88 hk l_0 n_1 w K := by kernel_rfl
theorem in88 {hk : Hook} {l_0 : AV} {n_1 : Int} {w : AW} {K : AV → AW → Prop} (hn : hk 88 [l_0, (.int .i64 n_1)] w = none) (h : F88 hk l_0 n_1 w K) : Cl Tryz.prog hk 88 [l_0, (.int .i64 n_1)] w K :=
 fnS_ok Tryz.func88 hn (by rw [eq88]; exact h)
def F89 (hk : Hook) (s_0 : AV) (w : AW) (K : AV → AW → Prop) : Prop :=
 ∃ x_1 : Bool, binOpA Tryz.prog .eql 30 true s_0 .nilslice = some (.bool x_1) ∧
 ifT x_1 (K .nilslice w)
 (new w [] fun b_2 w_3 =>
 onE (appS 1 1 w_3 (.slice b_2 0 0 0 none) s_0) fun x_4 w_5 =>
 K x_4 w_5)
def adv89 : Adv := (.sq .lf (.sq (.sq .lf (.cd (.sq .lf .lf) .lf)) (.sq .lf .lf)))
set_option maxRecDepth 100000 in
theorem eq89 (hk : Hook) (s_0 : AV) (w : AW) (K : AV → AW → Prop) : fnS Tryz.prog hk Tryz.f89 adv89 [s_0] w K = F89 hk s_0 w K := by kernel_rfl
theorem in89 {hk : Hook} {s_0 : AV} {w : AW} {K : AV → AW → Prop} (hn : hk 89 [s_0] w = none) (h : F89 hk s_0 w K) : Cl Tryz.prog hk 89 [s_0] w K :=
 fnS_ok Tryz.func89 hn (by rw [eq89]; exact h)
def F90 (hk : Hook) (s_0 : AV) (i_1 : Int) (w : AW) (K : AV → AW → Prop) : Prop :=
 ifT (decide (i_1 = 0)) (K (.int .i64 0) w)
 (onP s_0 fun b_2 o_3 =>
 onM (ld w b_2 (o_3 + 3)) fun x_4 =>
 atP (idxS 1 x_4 (.int .i64 (wi (i_1 - 1)))) fun b_5 o_6 =>
 ∃ x_7 : Int, ld w b_5 o_6 = some (.int .i64 x_7) ∧
 K (.int .i64 x_7) w)
def adv90 : Adv := (.sq .lf (.sq (.sq .lf (.cd (.sq .lf .lf) .lf)) (.sq .lf .lf)))
set_option maxRecDepth 100000 in
theorem eq90 (hk : Hook) (s_0 : AV) (i_1 : Int) (w : AW) (K : AV → AW → Prop) : fnS Tryz.prog hk Tryz.f90 adv90 [s_0, (.int .i64 i_1)] w K = F90 hk s_0 i_1 w K := by kernel_rfl
theorem in90 {hk : Hook} {s_0 : AV} {i_1 : Int} {w : AW} {K : AV → AW → Prop} (hn : hk 90 [s_0, (.int .i64 i_1)] w = none) (h : F90 hk s_0 i_1 w K) : Cl Tryz.prog hk 90 [s_0, (.int .i64 i_1)] w K :=
 fnS_ok Tryz.func90 hn (by rw [eq90]; exact h)
def F95 (hk : Hook) (d_0 : AV) (w : AW) (K : AV → AW → Prop) : Prop :=
 onP d_0 fun b_1 o_2 =>
 ∃ x_3 : Bool, ld w b_1 (o_2 + 7) = some (.bool x_3) ∧
 ifT x_3 (K (.int .i64 6) w)
 (onP d_0 fun b_4 o_5 =>
 onP d_0 fun b_6 o_7 =>
 Cl Tryz.prog hk 133 [(.ptr b_4 (o_5 + 9))] w fun r_8 w_9 =>
 ∃ x_10 : Bool, r_8 = (.bool x_10) ∧
 Cl Tryz.prog hk 133 [(.ptr b_6 (o_7 + 8))] w_9 fun r_11 w_12 =>
 ∃ x_13 : Bool, r_11 = (.bool x_13) ∧
 ifT x_13 (onP d_0 fun b_14 o_15 =>
  onM (AW.putCells w_12 b_14 (o_15 + 7) [(.bool true)]) fun w_16 =>
  K (.int .i64 6) w_16)
 (ifT x_10 (onP d_0 fun b_17 o_18 =>
  ∃ x_19 : Int, ld w_12 b_17 (o_18 + 10) = some (.int .i64 x_19) ∧
  K (.int .i64 x_19) w_12)
  (K (.int .i64 0) w_12)))
def adv95 : Adv := (.sq .lf (.sq (.sq .lf (.cd (.sq .lf .lf) .lf)) (.sq .lf (.sq (.bl (.sq .lf (.cd (.sq .lf (.sq .lf .lf)) (.sq .lf (.cd (.sq .lf .lf) .lf))))) (.sq .lf .lf)))))
set_option maxRecDepth 100000 in
theorem eq95 (hk : Hook) (d_0 : AV) (w : AW) (K : AV → AW → Prop) : fnS Tryz.prog hk Tryz.f95 adv95 [d_0] w K = F95 hk d_0 w K := by kernel_rfl
theorem in95 {hk : Hook} {d_0 : AV} {w : AW} {K : AV → AW → Prop} (hn : hk 95 [d_0] w = none) (h : F95 hk d_0 w K) : Cl Tryz.prog hk 95 [d_0] w K :=
 fnS_ok Tryz.func95 hn (by rw [eq95]; exact h)
def F97 (hk : Hook) (s_0 : AV) (w : AW) (K : AV → AW → Prop) : Prop :=
 ∃ x_1 : Bool, binOpA Tryz.prog .eql 103 true s_0 .nilslice = some (.bool x_1) ∧
 ifT x_1 (K .nilslice w)
 (new w [] fun b_2 w_3 =>
 onE (appS 64 64 w_3 (.slice b_2 0 0 0 none) s_0) fun x_4 w_5 =>
 K x_4 w_5)
def adv97 : Adv := (.sq .lf (.sq (.sq .lf (.cd (.sq .lf .lf) .lf)) (.sq .lf .lf)))
set_option maxRecDepth 100000 in
theorem eq97 (hk : Hook) (s_0 : AV) (w : AW) (K : AV → AW → Prop) : fnS Tryz.prog hk Tryz.f97 adv97 [s_0] w K = F97 hk s_0 w K := by kernel_rfl
theorem in97 {hk : Hook} {s_0 : AV} {w : AW} {K : AV → AW → Prop} (hn : hk 97 [s_0] w = none) (h : F97 hk s_0 w K) : Cl Tryz.prog hk 97 [s_0] w K :=
 fnS_ok Tryz.func97 hn (by rw [eq97]; exact h)
def F124 (hk : Hook) (d_0 : AV) (name_1 : List UInt8) (sectors_2 : Int) (w : AW) (K : AV → AW → Prop) : Prop :=
 Cl Tryz.prog hk 59 [d_0, (.str name_1)] w fun r_3 w_4 =>
 ∃ x_5 : Int, ∃ x_6 : Int, r_3 = .tup [(.int .i64 x_5), (.int .i64 x_6)] ∧
 ifT (!decide (x_6 = 0)) (K (.int .i64 x_6) w_4)
 (ifT (decide (sectors_2 < 0)) (K (.int .i64 2) w_4)
  (onP d_0 fun b_7 o_8 =>
  onM (ld w_4 b_7 ((o_8 + 3) + 1)) fun x_9 =>
  onM (lookS .nilslice false w_4 x_9 (.int .i64 x_5)) fun x_10 =>
  ∃ x_11 : Int, lenS x_10 = some (.int .i64 x_11) ∧
  ifT (decide (x_11 < sectors_2)) (K (.int .i64 2) w_4)
  (new w_4 (stepC (.int .i64 2) (.int .i64 x_5) (.int .i64 sectors_2) z64 (.str []) (.str [])) fun b_12 w_13 =>
 Cl Tryz.prog hk 61 [d_0, (.slice b_12 0 1 1 none)] w_13 fun r_14 w_15 =>
 ∃ x_16 : Int, r_14 = (.int .i64 x_16) ∧
 K (.int .i64 x_16) w_15)))
def adv124 : Adv := (.sq .lf (.sq .lf (.sq (.bl (.sq .lf (.cd (.sq .lf .lf) (.sq .lf (.cd (.sq .lf .lf) .lf))))) (.sq .lf .lf))))
set_option maxRecDepth 100000 in
theorem eq124 (hk : Hook) (d_0 : AV) (name_1 : List UInt8) (sectors_2 : Int) (w : AW) (K : AV → AW → Prop) : fnS Tryz.prog hk Tryz.f124 adv124 [d_0, (.str name_1), (.int .i64 sectors_2)] w K = F124 hk d_0 name_1 sectors_2 w K := by kernel_rfl
theorem in124 {hk : Hook} {d_0 : AV} {name_1 : List UInt8} {sectors_2 : Int} {w : AW} {K : AV → AW → Prop} (hn : hk 124 [d_0, (.str name_1), (.int .i64 sectors_2)] w = none) (h : F124 hk d_0 name_1 sectors_2 w K) : Cl Tryz.prog hk 124 [d_0, (.str name_1), (.int .i64 sectors_2)] w K :=
 fnS_ok Tryz.func124 hn (by rw [eq124]; exact h)
def F125 (hk : Hook) (i_0 : Int) (w : AW) (K : AV → AW → Prop) : Prop :=
 Cl Tryz.prog hk 152 [(.int .i64 i_0), (.int .i64 10)] w fun r_1 w_2 =>
 ∃ x_3 : List UInt8, r_1 = (.str x_3) ∧
 K (.str x_3) w_2
def adv125 : Adv := (.sq .lf (.sq .lf .lf))
set_option maxRecDepth 100000 in
theorem eq125 (hk : Hook) (i_0 : Int) (w : AW) (K : AV → AW → Prop) : fnS Tryz.prog hk Tryz.f125 adv125 [(.int .i64 i_0)] w K = F125 hk i_0 w K := by kernel_rfl
theorem in125 {hk : Hook} {i_0 : Int} {w : AW} {K : AV → AW → Prop} (hn : hk 125 [(.int .i64 i_0)] w = none) (h : F125 hk i_0 w K) : Cl Tryz.prog hk 125 [(.int .i64 i_0)] w K :=
 fnS_ok Tryz.func125 hn (by rw [eq125]; exact h)
def F126 (hk : Hook) (b_0 : AV) (v_1 : Int) (w : AW) (K : AV → AW → Prop) : Prop :=
 Cl Tryz.prog hk 153 [b_0, (.int .u64 (IntKind.wrap .u64 v_1)), (.int .i64 4)] w fun r_2 w_3 =>
 K r_2 w_3
def adv126 : Adv := (.sq .lf (.sq .lf .lf))
set_option maxRecDepth 100000 in
theorem eq126 (hk : Hook) (b_0 : AV) (v_1 : Int) (w : AW) (K : AV → AW → Prop) : fnS Tryz.prog hk Tryz.f126 adv126 [b_0, (.int .u32 v_1)] w K = F126 hk b_0 v_1 w K := by kernel_rfl
theorem in126 {hk : Hook} {b_0 : AV} {v_1 : Int} {w : AW} {K : AV → AW → Prop} (hn : hk 126 [b_0, (.int .u32 v_1)] w = none) (h : F126 hk b_0 v_1 w K) : Cl Tryz.prog hk 126 [b_0, (.int .u32 v_1)] w K :=
 fnS_ok Tryz.func126 hn (by rw [eq126]; exact h)
def F127 (hk : Hook) (s_0 : AV) (n_1 : Int) (w : AW) (K : AV → AW → Prop) : Prop :=
 ifT (decide (n_1 < 0)) (False)
 (∃ x_2 : Int, capA Tryz.prog 30 s_0 = some (.int .i64 x_2) ∧
 ∃ x_3 : Int, lenS s_0 = some (.int .i64 x_3) ∧
 ifT (decide (0 < (wi (n_1 - (wi (x_2 - x_3)))))) (∃ x_4 : Int, capA Tryz.prog 30 s_0 = some (.int .i64 x_4) ∧
  onM (slS 1 s_0 none (some (.int .i64 x_4)) none) fun x_5 =>
  onE (appendA Tryz.prog w 30 (some 3) x_5 (.int .i64 (wi (n_1 - (wi (x_2 - x_3)))))) fun x_6 w_7 =>
  ∃ x_8 : Int, lenS s_0 = some (.int .i64 x_8) ∧
  onM (slS 1 x_6 none (some (.int .i64 x_8)) none) fun s_9 =>
  K s_9 w_7)
 (K s_0 w))
def adv127 : Adv := (.sq .lf (.sq (.sq .lf (.cd .lf .lf)) (.sq (.sq .lf (.sq .lf (.cd .lf .lf))) (.sq .lf .lf))))
set_option maxRecDepth 100000 in
theorem eq127 (hk : Hook) (s_0 : AV) (n_1 : Int) (w : AW) (K : AV → AW → Prop) : fnS Tryz.prog hk Tryz.f127 adv127 [s_0, (.int .i64 n_1)] w K = F127 hk s_0 n_1 w K := by kernel_rfl
theorem in127 {hk : Hook} {s_0 : AV} {n_1 : Int} {w : AW} {K : AV → AW → Prop} (hn : hk 127 [s_0, (.int .i64 n_1)] w = none) (h : F127 hk s_0 n_1 w K) : Cl Tryz.prog hk 127 [s_0, (.int .i64 n_1)] w K :=
 fnS_ok Tryz.func127 hn (by rw [eq127]; exact h)
def F128 (hk : Hook) (yield_0 : AV) (cap_1 : AV) (cap_2 : AV) (w : AW) (K : AV → AW → Prop) : Prop :=
 onP cap_1 fun b_3 o_4 =>
 ∃ i_5 : Int, ld w b_3 o_4 = some (.int .i64 i_5) ∧
 loopP [(.int .i64 i_5)] w fun R_6 l_7 w_8 => ∃ i_9 : Int, l_7 = [(.int .i64 i_9)] ∧ ∀ _ : Nat → AV,
  onP cap_2 fun b_10 o_11 =>
  onM (ld w_8 b_10 o_11) fun x_12 =>
  ∃ x_13 : Int, lenS x_12 = some (.int .i64 x_13) ∧
  ifT (decide ((wi (i_9 * 62)) < x_13)) (onP cap_2 fun b_14 o_15 =>
  onM (ld w_8 b_14 o_15) fun x_16 =>
  onP cap_2 fun b_17 o_18 =>
  onM (ld w_8 b_17 o_18) fun x_19 =>
  ∃ x_20 : Int, lenS x_19 = some (.int .i64 x_20) ∧
  onM (slS 1 x_16 (some (.int .i64 (wi (i_9 * 62)))) (some (.int .i64 (imin x_20 (wi ((wi (i_9 + 1)) * 62))))) none) fun part_21 =>
  ∃ x_22 : Int, lenS part_21 = some (.int .i64 x_22) ∧
  new w_8 [(.int .u8 (IntKind.wrap .u8 x_22)), (.int .u8 0)] fun b_23 w_24 =>
  onE (appS 1 1 w_24 (.slice b_23 0 2 2 none) part_21) fun s_25 w_26 =>
  ∃ x_27 : Int, lenS s_25 = some (.int .i64 x_27) ∧
  onE (appendA Tryz.prog w_26 30 (some 3) s_25 (.int .i64 (wi (64 - x_27)))) fun x_28 w_29 =>
  Cv Tryz.prog hk yield_0 [(.int .i64 i_9), x_28] w_29 fun r_30 w_31 =>
  ∃ x_32 : Bool, r_30 = (.bool x_32) ∧
  ifT (!x_32) (K (.tup []) w_31)
  (R_6 [(.int .i64 (wi (i_9 + 1)))] w_31))
  (K (.tup []) w_8)
def adv128 : Adv := (.sq .lf (.bl (.lp [(4, .sc (.int .i64))] (.sq (.sq .lf (.cd .lf .lf)) (.sq (.bl (.sq .lf (.sq .lf (.sq .lf (.cd .lf .lf))))) .lf)))))
set_option maxRecDepth 100000 in
theorem eq128 (hk : Hook) (yield_0 : AV) (cap_1 : AV) (cap_2 : AV) (w : AW) (K : AV → AW → Prop) : fnS Tryz.prog hk Tryz.f128 adv128 [yield_0, cap_1, cap_2] w K = F128 hk yield_0 cap_1 cap_2 w K := by kernel_rfl
theorem in128 {hk : Hook} {yield_0 : AV} {cap_1 : AV} {cap_2 : AV} {w : AW} {K : AV → AW → Prop} (hn : hk 128 [yield_0, cap_1, cap_2] w = none) (h : F128 hk yield_0 cap_1 cap_2 w K) : Cl Tryz.prog hk 128 [yield_0, cap_1, cap_2] w K :=
 fnS_ok Tryz.func128 hn (by rw [eq128]; exact h)
def F129 (hk : Hook) (l_0 : AV) (w : AW) (K : AV → AW → Prop) : Prop :=
 ∃ x_1 : Int, lenS l_0 = some (.int .i64 x_1) ∧
 ifT (decide (x_1 = 0)) (K (.bool false) w)
 (atP (idxS 2 l_0 (.int .i64 0)) fun b_2 o_3 =>
 ∃ x_4 : Int, ∃ x_5 : Int, ldN 2 w b_2 o_3 = some (.agg [(.int .i64 x_4), (.int .i64 x_5)]) ∧
 ∃ x_6 : Bool, binOpA Tryz.prog .neq 135 false (.agg [(.int .i64 x_4), (.int .i64 x_5)]) (.agg [(.int .i64 0), (.int .i64 0)]) = some (.bool x_6) ∧
 ifT x_6 (K (.bool false) w)
 (loopP [(.int .i64 1)] w fun R_7 l_8 w_9 => ∃ i_10 : Int, l_8 = [(.int .i64 i_10)] ∧ ∀ _ : Nat → AV,
  ∃ x_11 : Int, lenS l_0 = some (.int .i64 x_11) ∧
  ifT (decide (i_10 < x_11)) (atP (idxS 2 l_0 (.int .i64 i_10)) fun b_12 o_13 =>
  ∃ x_14 : Int, ld w_9 b_12 (o_13 + 0 * 1) = some (.int .i64 x_14) ∧
  atP (idxS 2 l_0 (.int .i64 (wi (i_10 - 1)))) fun b_15 o_16 =>
  ∃ x_17 : Int, ld w_9 b_15 (o_16 + 0 * 1) = some (.int .i64 x_17) ∧
  ifT (decide (x_14 ≤ x_17)) (K (.bool false) w_9)
  (atP (idxS 2 l_0 (.int .i64 i_10)) fun b_18 o_19 =>
  ∃ x_20 : Int, ld w_9 b_18 (o_19 + 1 * 1) = some (.int .i64 x_20) ∧
  atP (idxS 2 l_0 (.int .i64 (wi (i_10 - 1)))) fun b_21 o_22 =>
  ∃ x_23 : Int, ld w_9 b_21 (o_22 + 1 * 1) = some (.int .i64 x_23) ∧
  ifT (decide (x_20 < x_23)) (K (.bool false) w_9)
  (atP (idxS 2 l_0 (.int .i64 i_10)) fun b_24 o_25 =>
  ∃ x_26 : Int, ld w_9 b_24 (o_25 + 0 * 1) = some (.int .i64 x_26) ∧
  ifT (decide (4611686018427387904 < x_26)) (K (.bool false) w_9)
  (atP (idxS 2 l_0 (.int .i64 i_10)) fun b_27 o_28 =>
  ∃ x_29 : Int, ld w_9 b_27 (o_28 + 1 * 1) = some (.int .i64 x_29) ∧
  ifT (decide (4611686018427387904 < x_29)) (K (.bool false) w_9)
  (R_7 [(.int .i64 (wi (i_10 + 1)))] w_9)))))
  (K (.bool true) w_9)))
def adv129 : Adv := (.sq .lf (.sq (.sq .lf (.cd (.sq .lf .lf) .lf)) (.sq (.sq .lf (.bl (.lp [(3, .sc (.int .i64))] (.sq (.sq .lf (.cd .lf .lf)) (.sq (.bl (.sq .lf (.cd (.sq .lf .lf) .lf))) .lf))))) (.sq .lf .lf))))
set_option maxRecDepth 100000 in
theorem eq129 (hk : Hook) (l_0 : AV) (w : AW) (K : AV → AW → Prop) : fnS Tryz.prog hk Tryz.f129 adv129 [l_0] w K = F129 hk l_0 w K := by kernel_rfl
theorem in129 {hk : Hook} {l_0 : AV} {w : AW} {K : AV → AW → Prop} (hn : hk 129 [l_0] w = none) (h : F129 hk l_0 w K) : Cl Tryz.prog hk 129 [l_0] w K :=
 fnS_ok Tryz.func129 hn (by rw [eq129]; exact h)
def F130 (hk : Hook) (s_0 : AV) (f_1 : AV) (w : AW) (K : AV → AW → Prop) : Prop :=
 ∃ x_2 : Int, lenS s_0 = some (.int .i64 x_2) ∧
 loopP [(.int .i64 0)] w fun R_3 l_4 w_5 => ∃ x_6 : Int, l_4 = [(.int .i64 x_6)] ∧ ∀ _ : Nat → AV,
  ifT (decide (x_6 < x_2)) (atP (idxS 2 s_0 (.int .i64 x_6)) fun b_7 o_8 =>
  ∃ x_9 : Int, ∃ x_10 : Int, ldN 2 w_5 b_7 o_8 = some (.agg [(.int .i64 x_9), (.int .i64 x_10)]) ∧
  Cv Tryz.prog hk f_1 [(.agg [(.int .i64 x_9), (.int .i64 x_10)])] w_5 fun r_11 w_12 =>
  ∃ x_13 : Bool, r_11 = (.bool x_13) ∧
  ifT x_13 (K (.int .i64 x_6) w_12)
  (R_3 [(.int .i64 (wi (x_6 + 1)))] w_12))
  (K (.int .i64 (-1)) w_5)
def adv130 : Adv := (.sq .lf (.sq (.sq .lf (.bl (.lp [(8, .sc (.int .i64))] (.sq .lf (.sq (.cd .lf .lf) (.sq (.bl (.sq .lf (.sq .lf (.cd (.sq .lf .lf) .lf)))) .lf)))))) (.sq .lf .lf)))
set_option maxRecDepth 100000 in
theorem eq130 (hk : Hook) (s_0 : AV) (f_1 : AV) (w : AW) (K : AV → AW → Prop) : fnS Tryz.prog hk Tryz.f130 adv130 [s_0, f_1] w K = F130 hk s_0 f_1 w K := by kernel_rfl
theorem in130 {hk : Hook} {s_0 : AV} {f_1 : AV} {w : AW} {K : AV → AW → Prop} (hn : hk 130 [s_0, f_1] w = none) (h : F130 hk s_0 f_1 w K) : Cl Tryz.prog hk 130 [s_0, f_1] w K :=
 fnS_ok Tryz.func130 hn (by rw [eq130]; exact h)
def F131 (hk : Hook) (p_0 : Int) (p_1 : Int) (cap_2 : AV) (w : AW) (K : AV → AW → Prop) : Prop :=
 new w [(.int .i64 p_0), (.int .i64 p_1)] fun b_3 w_4 =>
 ∃ x_5 : Int, ld w_4 b_3 (0 + 0 * 1) = some (.int .i64 x_5) ∧
 onP cap_2 fun b_6 o_7 =>
 ∃ x_8 : Int, ld w_4 b_6 o_7 = some (.int .i64 x_8) ∧
 K (.bool (decide (x_8 < x_5))) w_4
def adv131 : Adv := (.sq .lf (.sq .lf .lf))
set_option maxRecDepth 100000 in
theorem eq131 (hk : Hook) (p_0 : Int) (p_1 : Int) (cap_2 : AV) (w : AW) (K : AV → AW → Prop) : fnS Tryz.prog hk Tryz.f131 adv131 [(.agg [(.int .i64 p_0), (.int .i64 p_1)]), cap_2] w K = F131 hk p_0 p_1 cap_2 w K := by kernel_rfl
theorem in131 {hk : Hook} {p_0 : Int} {p_1 : Int} {cap_2 : AV} {w : AW} {K : AV → AW → Prop} (hn : hk 131 [(.agg [(.int .i64 p_0), (.int .i64 p_1)]), cap_2] w = none) (h : F131 hk p_0 p_1 cap_2 w K) : Cl Tryz.prog hk 131 [(.agg [(.int .i64 p_0), (.int .i64 p_1)]), cap_2] w K :=
 fnS_ok Tryz.func131 hn (by rw [eq131]; exact h)
def F133 (hk : Hook) (n_0 : AV) (w : AW) (K : AV → AW → Prop) : Prop :=
 Cl Tryz.prog hk 154 [n_0] w fun r_1 w_2 =>
 ∃ x_3 : Int, r_1 = (.int .i64 x_3) ∧
 ifT (decide (x_3 = 0)) (K (.bool false) w_2)
 (Cl Tryz.prog hk 155 [n_0, (.int .i64 (-1))] w_2 fun r_4 w_5 =>
 ∃ x_6 : Int, r_4 = (.int .i64 x_6) ∧
 K (.bool (decide (x_6 = 0))) w_5)
def adv133 : Adv := (.sq .lf (.sq (.sq .lf (.cd (.sq .lf .lf) .lf)) (.sq .lf .lf)))
set_option maxRecDepth 100000 in
theorem eq133 (hk : Hook) (n_0 : AV) (w : AW) (K : AV → AW → Prop) : fnS Tryz.prog hk Tryz.f133 adv133 [n_0] w K = F133 hk n_0 w K := by kernel_rfl
theorem in133 {hk : Hook} {n_0 : AV} {w : AW} {K : AV → AW → Prop} (hn : hk 133 [n_0] w = none) (h : F133 hk n_0 w K) : Cl Tryz.prog hk 133 [n_0] w K :=
 fnS_ok Tryz.func133 hn (by rw [eq133]; exact h)
def F152 (hk : Hook) (i_0 : Int) (base_1 : Int) (w : AW) (K : AV → AW → Prop) : Prop :=
 ifT (decide (base_1 = 10)) (join (fun l_2 w_3 => l_2 = [] ∧ ∀ _ : Nat → AV,
  new w_3 [(.int .u8 0), (.int .u8 0), (.int .u8 0), (.int .u8 0), (.int .u8 0), (.int .u8 0), (.int .u8 0), (.int .u8 0), (.int .u8 0), (.int .u8 0), (.int .u8 0), (.int .u8 0), (.int .u8 0), (.int .u8 0), (.int .u8 0), (.int .u8 0), (.int .u8 0), (.int .u8 0), (.int .u8 0), (.int .u8 0), (.int .u8 0), (.int .u8 0), (.int .u8 0), (.int .u8 0)] fun b_5 w_6 =>
  join (fun l_7 w_8 => ∃ u_10 : Int, l_7 = [(.int .u64 u_10)] ∧ ∀ _ : Nat → AV,
   Cl Tryz.prog hk 173 [(.int .u64 u_10)] w_8 fun r_11 w_12 =>
   ∃ nd_13 : Int, r_11 = (.int .i64 nd_13) ∧
   onM (slP 24 1 b_5 0 (some (.int .i64 1)) (some (.int .i64 (wi (1 + nd_13)))) none) fun x_14 =>
   Cl Tryz.prog hk 174 [x_14, (.int .u64 u_10)] w_12 fun r_15 w_16 =>
   r_15 = .tup [] ∧
   ifT (decide (i_0 < 0)) (onM (AW.putCells w_16 b_5 (0 + 0 * 1) [(.int .u8 45)]) fun w_17 =>
   onM (slP 24 1 b_5 0 none (some (.int .i64 (wi (1 + nd_13)))) none) fun x_18 =>
   ∃ x_19 : List UInt8, b2s w_17 x_18 = some (.str x_19) ∧
   K (.str x_19) w_17)
   (onM (slP 24 1 b_5 0 (some (.int .i64 1)) (some (.int .i64 (wi (1 + nd_13)))) none) fun x_20 =>
   ∃ x_21 : List UInt8, b2s w_16 x_20 = some (.str x_21) ∧
   K (.str x_21) w_16)) fun J_9 =>
  ifT (decide (i_0 < 0)) (be (IntKind.wrap .u64 (0 - (IntKind.wrap .u64 i_0))) fun u_22 =>
   J_9 [(.int .u64 u_22)] w_6)
  (J_9 [(.int .u64 (IntKind.wrap .u64 i_0))] w_6)) fun J_4 =>
  ifT (decide (0 ≤ i_0)) (ifT (decide (i_0 < 100)) (Cl Tryz.prog hk 172 [(.int .i64 i_0)] w fun r_23 w_24 =>
  ∃ x_25 : List UInt8, r_23 = (.str x_25) ∧
  K (.str x_25) w_24)
  (J_4 [] w))
  (J_4 [] w))
 (Cl Tryz.prog hk 175 [.nilslice, (.int .u64 (IntKind.wrap .u64 i_0)), (.int .i64 base_1), (.bool (decide (i_0 < 0))), (.bool false)] w fun r_26 w_27 =>
 ∃ x_28 : AV, ∃ x_29 : List UInt8, r_26 = .tup [x_28, (.str x_29)] ∧
 K (.str x_29) w_27)
def adv152 : Adv := (.sq .lf (.sq (.sq .lf (.cd (.sj [] (.sq .lf (.cd (.sq .lf .lf) .lf)) (.sq .lf (.sq .lf (.sj [(6, .sc (.int .u64))] (.sq .lf (.cd .lf .lf)) (.sq .lf (.sq .lf (.sq (.sq .lf (.cd (.sq .lf (.sq .lf .lf)) .lf)) (.sq .lf .lf)))))))) .lf)) (.sq .lf (.sq .lf .lf))))
set_option maxRecDepth 100000 in
theorem eq152 (hk : Hook) (i_0 : Int) (base_1 : Int) (w : AW) (K : AV → AW → Prop) : fnS Tryz.prog hk Tryz.f152 adv152 [(.int .i64 i_0), (.int .i64 base_1)] w K = F152 hk i_0 base_1 w K := by kernel_rfl
theorem in152 {hk : Hook} {i_0 : Int} {base_1 : Int} {w : AW} {K : AV → AW → Prop} (hn : hk 152 [(.int .i64 i_0), (.int .i64 base_1)] w = none) (h : F152 hk i_0 base_1 w K) : Cl Tryz.prog hk 152 [(.int .i64 i_0), (.int .i64 base_1)] w K :=
 fnS_ok Tryz.func152 hn (by rw [eq152]; exact h)
def F153 (hk : Hook) (b_0 : AV) (v_1 : Int) (n_2 : Int) (w : AW) (K : AV → AW → Prop) : Prop :=
 ∃ x_3 : Int, lenS b_0 = some (.int .i64 x_3) ∧
 ∃ x_4 : Int, lenS b_0 = some (.int .i64 x_4) ∧
 onM (asN (.int .i64 x_3)) fun n_5 =>
 onM (asN (.int .i64 (wi (x_4 + n_2)))) fun n_6 =>
 gd (Nat.ble n_5 n_6 && Nat.ble (n_6 * 1) (2 ^ 47) && Nat.blt n_6 (2 ^ 63) && true) (new w (repl n_6 [(.int .u8 0)]) fun b_7 w_8 =>
 onE (copyA Tryz.prog w_8 30 (.slice b_7 0 n_5 n_6 none) b_0) fun x_9 w_10 =>
 loopP [(.slice b_7 0 n_5 n_6 none), (.int .i64 0)] w_10 fun R_11 l_12 w_13 => ∃ out_14 : AV, ∃ x_15 : Int, l_12 = [out_14, (.int .i64 x_15)] ∧ ∀ _ : Nat → AV,
  ifT (decide (x_15 < n_2)) (be (wi (8 * (wi ((wi (n_2 - 1)) - x_15)))) fun x_16 =>
  ∃ x_17 : Int, shiftA .shr .u64 v_1 x_16 = some (.int .u64 x_17) ∧
  new w_13 [(.int .u8 (IntKind.wrap .u8 x_17))] fun b_18 w_19 =>
  onE (appS 1 1 w_19 out_14 (.slice b_18 0 1 1 none)) fun out_20 w_21 =>
  R_11 [out_20, (.int .i64 (wi (x_15 + 1)))] w_21)
  (K out_14 w_13))
def adv153 : Adv := (.sq .lf (.sq .lf (.sq .lf (.sq (.sq .lf (.bl (.lp [(7, .sc (.opq)), (20, .sc (.int .i64))] (.sq .lf (.sq (.cd .lf .lf) (.sq (.bl (.sq .lf .lf)) .lf)))))) (.sq .lf .lf)))))
set_option maxRecDepth 100000 in
theorem eq153 (hk : Hook) (b_0 : AV) (v_1 : Int) (n_2 : Int) (w : AW) (K : AV → AW → Prop) : fnS Tryz.prog hk Tryz.f153 adv153 [b_0, (.int .u64 v_1), (.int .i64 n_2)] w K = F153 hk b_0 v_1 n_2 w K := by kernel_rfl
theorem in153 {hk : Hook} {b_0 : AV} {v_1 : Int} {n_2 : Int} {w : AW} {K : AV → AW → Prop} (hn : hk 153 [b_0, (.int .u64 v_1), (.int .i64 n_2)] w = none) (h : F153 hk b_0 v_1 n_2 w K) : Cl Tryz.prog hk 153 [b_0, (.int .u64 v_1), (.int .i64 n_2)] w K :=
 fnS_ok Tryz.func153 hn (by rw [eq153]; exact h)
def F154 (hk : Hook) (x_0 : AV) (w : AW) (K : AV → AW → Prop) : Prop :=
 onP x_0 fun b_1 o_2 =>
 Cl Tryz.prog hk 176 [(.ptr b_1 (o_2 + 0))] w fun r_3 w_4 =>
 ∃ x_5 : Int, r_3 = (.int .i64 x_5) ∧
 K (.int .i64 x_5) w_4
def adv154 : Adv := (.sq .lf (.sq .lf .lf))
set_option maxRecDepth 100000 in
theorem eq154 (hk : Hook) (x_0 : AV) (w : AW) (K : AV → AW → Prop) : fnS Tryz.prog hk Tryz.f154 adv154 [x_0] w K = F154 hk x_0 w K := by kernel_rfl
theorem in154 {hk : Hook} {x_0 : AV} {w : AW} {K : AV → AW → Prop} (hn : hk 154 [x_0] w = none) (h : F154 hk x_0 w K) : Cl Tryz.prog hk 154 [x_0] w K :=
 fnS_ok Tryz.func154 hn (by rw [eq154]; exact h)
def F155 (hk : Hook) (x_0 : AV) (delta_1 : Int) (w : AW) (K : AV → AW → Prop) : Prop :=
 onP x_0 fun b_2 o_3 =>
 Cl Tryz.prog hk 177 [(.ptr b_2 (o_3 + 0)), (.int .i64 delta_1)] w fun r_4 w_5 =>
 ∃ new_6 : Int, r_4 = (.int .i64 new_6) ∧
 K (.int .i64 new_6) w_5
def adv155 : Adv := (.sq .lf (.sq .lf .lf))
set_option maxRecDepth 100000 in
theorem eq155 (hk : Hook) (x_0 : AV) (delta_1 : Int) (w : AW) (K : AV → AW → Prop) : fnS Tryz.prog hk Tryz.f155 adv155 [x_0, (.int .i64 delta_1)] w K = F155 hk x_0 delta_1 w K := by kernel_rfl
theorem in155 {hk : Hook} {x_0 : AV} {delta_1 : Int} {w : AW} {K : AV → AW → Prop} (hn : hk 155 [x_0, (.int .i64 delta_1)] w = none) (h : F155 hk x_0 delta_1 w K) : Cl Tryz.prog hk 155 [x_0, (.int .i64 delta_1)] w K :=
 fnS_ok Tryz.func155 hn (by rw [eq155]; exact h)
def F172 (hk : Hook) (i_0 : Int) (w : AW) (K : AV → AW → Prop) : Prop :=
 ifT (decide (i_0 < 10)) (∃ x_1 : List UInt8, slStr [48, 49, 50, 51, 52, 53, 54, 55, 56, 57, 97, 98, 99, 100, 101, 102, 103, 104, 105, 106, 107, 108, 109, 110, 111, 112, 113, 114, 115, 116, 117, 118, 119, 120, 121, 122] (some (.int .i64 i_0)) (some (.int .i64 (wi (i_0 + 1)))) = some (.str x_1) ∧
  K (.str x_1) w)
 (∃ x_2 : List UInt8, slStr [48, 48, 48, 49, 48, 50, 48, 51, 48, 52, 48, 53, 48, 54, 48, 55, 48, 56, 48, 57, 49, 48, 49, 49, 49, 50, 49, 51, 49, 52, 49, 53, 49, 54, 49, 55, 49, 56, 49, 57, 50, 48, 50, 49, 50, 50, 50, 51, 50, 52, 50, 53, 50, 54, 50, 55, 50, 56, 50, 57, 51, 48, 51, 49, 51, 50, 51, 51, 51, 52, 51, 53, 51, 54, 51, 55, 51, 56, 51, 57, 52, 48, 52, 49, 52, 50, 52, 51, 52, 52, 52, 53, 52, 54, 52, 55, 52, 56, 52, 57, 53, 48, 53, 49, 53, 50, 53, 51, 53, 52, 53, 53, 53, 54, 53, 55, 53, 56, 53, 57, 54, 48, 54, 49, 54, 50, 54, 51, 54, 52, 54, 53, 54, 54, 54, 55, 54, 56, 54, 57, 55, 48, 55, 49, 55, 50, 55, 51, 55, 52, 55, 53, 55, 54, 55, 55, 55, 56, 55, 57, 56, 48, 56, 49, 56, 50, 56, 51, 56, 52, 56, 53, 56, 54, 56, 55, 56, 56, 56, 57, 57, 48, 57, 49, 57, 50, 57, 51, 57, 52, 57, 53, 57, 54, 57, 55, 57, 56, 57, 57] (some (.int .i64 (wi (i_0 * 2)))) (some (.int .i64 (wi ((wi (i_0 * 2)) + 2)))) = some (.str x_2) ∧
 K (.str x_2) w)
def adv172 : Adv := (.sq .lf (.sq (.sq .lf (.cd (.sq .lf .lf) .lf)) (.sq .lf .lf)))
set_option maxRecDepth 100000 in
theorem eq172 (hk : Hook) (i_0 : Int) (w : AW) (K : AV → AW → Prop) : fnS Tryz.prog hk Tryz.f172 adv172 [(.int .i64 i_0)] w K = F172 hk i_0 w K := by kernel_rfl
theorem in172 {hk : Hook} {i_0 : Int} {w : AW} {K : AV → AW → Prop} (hn : hk 172 [(.int .i64 i_0)] w = none) (h : F172 hk i_0 w K) : Cl Tryz.prog hk 172 [(.int .i64 i_0)] w K :=
 fnS_ok Tryz.func172 hn (by rw [eq172]; exact h)
end Go.Proofs.YthpjoogmmjikmaaGreatDoor
