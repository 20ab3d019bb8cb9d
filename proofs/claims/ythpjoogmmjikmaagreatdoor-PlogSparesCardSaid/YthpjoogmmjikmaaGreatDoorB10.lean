/-
  Bytes put together and cloned, and sectors told one after the other, over memory.
  No condition beyond those that each theorem names.
-/
import Derived.Test.YthpjoogmmjikmaaGreatDoorA10
import Derived.Test.YthpjoogmmjikmaaGreatDoorSxu
set_option linter.unusedSimpArgs false
open Go.Sx
set_option linter.unusedVariables false
set_option linter.unusedSimpArgs false
namespace Go.Proofs.YthpjoogmmjikmaaGreatDoor
section
variable {hk : Hook} {A B : Nat → Prop} {I : List Nat} {w0 w w' : AW} {D : Nat} {i i' : DI} {d d' : Dsk} {k k' : Nat} {L L' : Obs} {K : AV → AW → Prop}
theorem s86 {c : Nat} {v1 v2 : AV} {s1 s2 : Byts} (hh : HK hk) (pv : Pv A w) (hc : Box w c [v1, v2]) (h1 : RsB w v1 s1) (h2 : RsB w v2 s2) (hs : 0 < s2.length) (hl : s1.length + s2.length < 2 ^ 30)
    (hK : ∀ w', Fr w.size w w' → Box w' w.size (cellsOfBytes (s1 ++ s2)) → K (.slice w.size 0 (s1 ++ s2).length (s1 ++ s2).length (some 1)) w') : Cl Tryz.prog hk 86 [.slice c 0 2 2 none] w K := by
  apply in86 (hh.no _ _ _ (by decide) (by decide))
  unfold F86
  refine ⟨2, rfl, ?_⟩
  intro R hR
  have hcl := hc.lt pv.mem
  have g0 : ld w c 0 = some v1 := by rw [hc.ld]; rfl
  have g1 : ld w c 1 = some v2 := by rw [hc.ld]; rfl
  refine hR _ _ ⟨_, _, rfl, fun _ => ifT_d (fun _ => idx0 (k := 0) (by decide) (onM_s g0 ⟨_, h1.len, ?_⟩)) fun hc => absurd hc (by decide)⟩
  have e1 : wi (0 + ((s1.length : Nat) : Int)) = ((s1.length : Nat) : Int) := by rw [wi_eq (by omega) (by omega)]; omega
  rw [e1]
  refine ifT_d (fun hx => absurd hx (by omega)) fun _ => ?_
  refine hR _ _ ⟨_, _, rfl, fun _ => ifT_d (fun _ => idx0 (k := 1) (by decide) (onM_s g1 ⟨_, h2.len, ?_⟩)) fun hc => absurd hc (by decide)⟩
  have e2 : wi (((s1.length : Nat) : Int) + ((s2.length : Nat) : Int)) = ((s1.length + s2.length : Nat) : Int) := by rw [wi_eq (by omega) (by omega)]; omega
  rw [e2]
  refine ifT_d (fun hx => absurd hx (by omega)) fun _ => ?_
  refine hR _ _ ⟨_, _, rfl, fun _ => ifT_d (fun hc => absurd hc (by decide)) fun _ => ?_⟩
  refine s127 hh pv (by omega) (by omega) fun w12 st12 => ⟨2, rfl, ?_⟩
  have f12 := st12.fr
  intro R2 hR2
  have hb12 := hc.fr f12 hcl
  have g0 : ld w12 c 0 = some v1 := by rw [hb12.ld]; rfl
  have r1 : Rs w12 1 s1.length v1 (cellsOfBytes s1) := Rs.fr h1 pv.mem f12 (Nat.le_refl _)
  refine hR2 _ _ ⟨_, _, rfl, fun _ => ifT_d (fun _ => idx0 (k := 0) (by decide) (onM_s g0 ?_)) fun hc => absurd hc (by decide)⟩
  refine st12.appIn 0 rfl r1.src (by omega) (by rw [cellsOfBytes_length, List.length_replicate]) fun w23 st23 x23 => ?_
  have f23 := st23.fr
  have hb23 := hc.fr f23 hcl
  have g1 : ld w23 c 1 = some v2 := by rw [hb23.ld]; rfl
  have r2 : Rs w23 1 s2.length v2 (cellsOfBytes s2) := Rs.fr h2 pv.mem f23 (Nat.le_refl _)
  refine hR2 _ _ ⟨_, _, rfl, fun _ => ifT_d (fun _ => idx0 (k := 1) (by decide) (onM_s g1 ?_)) fun hc => absurd hc (by decide)⟩
  refine st23.appIn 0 rfl r2.src (by omega) (by simp [listPut, cellsOfBytes]) fun w33 st33 x33 => ?_
  refine hR2 _ _ ⟨_, _, rfl, fun _ => ifT_d (fun hc => absurd hc (by decide)) fun _ => ?_⟩
  have hb : Box w33 w.size _ := (st33.box _ List.mem_cons_self rfl).1
  have e3 : listPut (listPut (cellsOfBytes (List.replicate (s1.length + s2.length) 0)) 0 (cellsOfBytes s1)) (0 + s1.length) (cellsOfBytes s2) = cellsOfBytes (s1 ++ s2) := by
    have hz : cellsOfBytes (List.replicate (s1.length + s2.length) 0) = cellsOfBytes (List.replicate s1.length 0) ++ cellsOfBytes (List.replicate s2.length 0) := by unfold cellsOfBytes; rw [← List.replicate_append_replicate, List.map_append]
    have l1 : (cellsOfBytes s1).length = s1.length := cellsOfBytes_length _
    have l2 : (cellsOfBytes s2).length = s2.length := cellsOfBytes_length _
    have hp : listPut (cellsOfBytes (List.replicate (s1.length + s2.length) 0)) 0 (cellsOfBytes s1) = cellsOfBytes s1 ++ cellsOfBytes (List.replicate s2.length 0) := by
      rw [hz]
      simp only [listPut, List.take_zero, List.nil_append, Nat.zero_add, l1]
      rw [List.drop_left' (by rw [cellsOfBytes_length, List.length_replicate])]
    rw [hp]
    simp only [listPut, Nat.zero_add, l2]
    rw [List.take_left' l1, List.drop_of_length_le (by rw [List.length_append, l1, cellsOfBytes_length, List.length_replicate]; omega), List.append_nil]
    simp [cellsOfBytes]
  have hb : Box w33 w.size (cellsOfBytes (s1 ++ s2)) := by rw [← e3]; exact hb
  have := hK w33 st33.fr hb
  rw [List.length_append] at this
  have e4 : (0 + s1.length + s2.length) = s1.length + s2.length := by omega
  rw [e4]
  exact this
theorem s16 {v : AV} {s : Byts} (hh : HK hk) (pv : Pv A w) (h : RsB w v s) (hs : s.length < 2 ^ 47) (hK : ∀ v' w', Fr w.size w w' → (s = [] ∧ v' = .nilslice ∨ Box w' w.size (cellsOfBytes s) ∧ v' = .slice w.size 0 s.length s.length (some 1)) → K v' w') : Cl Tryz.prog hk 16 [v] w K := by
  apply in16 (hh.no _ _ _ (by decide) (by decide))
  unfold F16
  have hx := h.src
  by_cases hn : s.length = 0
  · have : s = [] := by simpa using hn
    subst this
    refine onE_s (v := .nilslice) (w := w) ?_ (hK _ _ (Fr.refl pv.mem) (.inl ⟨rfl, rfl⟩))
    simp only [appS, hx.read, Option.bind_some]; rfl
  · have f1 : Fr w.size w (newCells w (cellsOfBytes s)) := Fr.push pv.mem fun cs' f own d e => by cases e; exact Nat.le_refl _
    have b1 : Box (newCells w (cellsOfBytes s)) w.size (cellsOfBytes s) := by simp [Box, newCells, cellsAO]
    refine onE_s (v := .slice w.size 0 s.length s.length (some 1)) (w := newCells w (cellsOfBytes s)) ?_ (hK _ _ f1 (.inr ⟨b1, rfl⟩))
    have e1 : Nat.ble (s.length * 1) Sx.room = true := by rw [Nat.ble_eq]; unfold Sx.room; omega
    have e2 : Nat.blt s.length (2 ^ 62) = true := by rw [Nat.blt_eq]; omega
    simp only [appS, hx.read, Option.bind_some, beq_ff hn, cond_false, hx.ok, guardO, e1, e2, Bool.and_self, cond_true]
    rfl
theorem s128 {y bv : AV} {c1 c2 : Nat} {b : Byts} {fr : Nat} (hh : HK hk) (P : Nat → AW → Prop)
    (hP : ∀ j w, P j w → Mem w ∧ 0 < w.size ∧ Box w c2 [bv] ∧ (rL rU).rd (fun _ => True) w [bv] b) (hc1 : Box w c1 [.int .i64 (fr : Int)]) (h0 : P fr w) (hl : b.length < 2 ^ 30) (hfr : fr < 2 ^ 30)
    (hstep : ∀ j w w' xv, P j w → j * 62 < b.length → Fr w.size w w' → Ga rU (fun c => w.size ≤ c) w w' xv (sector b j) → Cv Tryz.prog hk y [.int .i64 (j : Int), xv] w' fun r w2 => r = .bool true ∧ P (j + 1) w2 ∨ r = .bool false ∧ K (.tup []) w2)
    (hend : ∀ j w, P j w → b.length ≤ j * 62 → (j = fr ∨ (j - 1) * 62 < b.length) → K (.tup []) w) : Cl Tryz.prog hk 128 [y, .ptr c1 0, .ptr c2 0] w K := by
  apply in128 (hh.no _ _ _ (by decide) (by decide))
  unfold F128
  simp only [onP]
  refine ⟨(fr : Int), by rw [hc1.ld]; rfl, ?_⟩
  refine loopP_ind (fun m l w8 => ∃ j : Nat, m = b.length + fr + 1 - j ∧ j ≤ b.length + fr ∧ fr ≤ j ∧ l = [.int .i64 j] ∧ P j w8 ∧ (j = fr ∨ (j - 1) * 62 < b.length)) ?_ ⟨fr, rfl, by omega, Nat.le_refl _, rfl, h0, .inl rfl⟩
  rintro m l w8 ⟨j, rfl, hj, hjf, rfl, hp, hjj⟩ R ih
  obtain ⟨hm, hpos, hb2, hrd⟩ := hP j w8 hp
  have pv : Pv (fun c => w8.size ≤ c) w8 := ⟨hm, hpos, fun _ h => h⟩
  have hld : ld w8 c2 0 = some bv := by rw [hb2.ld]; rfl
  refine ⟨_, rfl, fun _ => onM_s hld ⟨_, hrd.len', ?_⟩⟩
  have hj2 : j < 2 ^ 31 := by omega
  rw [show wi ((j : Int) * 62) = ((j * 62 : Nat) : Int) by rw [wi_eq (by omega) (by omega)]; push_cast; rfl]
  refine ifT_d (fun hc => ?_) fun hc => hend j w8 hp (by omega) hjj
  have hc : j * 62 < b.length := by omega
  refine onM_s hld (onM_s hld ⟨_, hrd.len', ?_⟩)
  have emin : imin ((b.length : Nat) : Int) (wi (wi ((j : Int) + 1) * 62)) = ((min b.length ((j + 1) * 62) : Nat) : Int) := by
    rw [wi_eq (x := (j : Int) + 1) (by omega) (by omega), wi_eq (by omega) (by omega)]
    unfold imin
    split <;> omega
  rw [emin]
  obtain ⟨part, hsl, hpart⟩ := hrd.cut (i := j * 62) (j := min b.length ((j + 1) * 62)) (by omega) (by omega) (.inl rfl) (.inl rfl)
  have epart : (b.take (min b.length ((j + 1) * 62))).drop (j * 62) = (b.drop (j * 62)).take 62 := by
    rw [List.drop_take]
    by_cases h : b.length ≤ (j + 1) * 62
    · rw [Nat.min_eq_left h, List.take_of_length_le (by simp), List.take_of_length_le (by simp; omega)]
    · rw [Nat.min_eq_right (by omega)]; congr 1; omega
  rw [epart] at hpart
  generalize hpt : (b.drop (j * 62)).take 62 = pt at hpart
  have hptl : pt.length ≤ 62 := by rw [← hpt]; simp; omega
  refine onM_s hsl ⟨_, hpart.len', ?_⟩
  rw [u8_cell]
  refine pv.st.new' fun b23 w24 st24 x24 => ?_
  have hb23 : Box w24 b23 (cellsOfBytes [UInt8.ofNat pt.length, 0]) := (st24.box _ List.mem_cons_self rfl).1
  have hge : w8.size ≤ b23 := by
    rcases (st24.box _ List.mem_cons_self rfl).2.1 with h | h
    · exact h
    · cases h
  obtain ⟨st25, x25, _⟩ := st24.drop
  have hg : Ga rU (fz (fun c => w8.size ≤ c) []) w8 w24 (.slice b23 0 2 2 none) [UInt8.ofNat pt.length, 0] := (boxGa hb23 rfl hge hge (by omega)).inn
  have hsz24 := st24.fr.size
  have hpart24 : RsB w24 part pt := RsB.fr hpart.rsB hm st24.fr (Nat.le_refl _)
  refine Ow.appSrc (r := rU) (l' := pt) st25 hg (Rs.src hpart24) (Chk.bytes.2 rfl) (by decide) (fun c hc => by have := st25.fr.size; omega) (by simp; omega) (by simp; omega) fun s77 w26 st26 x26 hg26 => ?_
  have hr26 := hg26.rd (by decide)
  refine ⟨_, hr26.len', ?_⟩
  have e64 : wi (64 - (([UInt8.ofNat pt.length, 0] ++ pt).length : Int)) = ((62 - pt.length : Nat) : Int) := by
    rw [wi_eq (by simp; omega) (by simp; omega)]; simp; omega
  rw [e64, appendA_eq (by omega)]
  have hbs := Bhd.str w26 (List.replicate (62 - pt.length) 0)
  refine Ow.appSrc (r := rU) (l' := List.replicate (62 - pt.length) 0) st26 hg26 hbs (Chk.bytes.2 rfl) (by decide) (fun c hc => by have := st26.fr.size; omega) (by simp; omega) (by simp; omega) fun x28 w29 st29 x29 hg29 => ?_
  have esec : [UInt8.ofNat pt.length, 0] ++ pt ++ List.replicate (62 - pt.length) 0 = sector b j := by
    unfold sector; rw [hpt]; simp
  rw [esec] at hg29
  refine Cv_mono (fun r w2 h => ?_) (hstep j w8 w29 x28 hp hc st29.fr hg29.out)
  rcases h with ⟨rfl, h⟩ | ⟨rfl, h⟩
  · exact ⟨true, rfl, ifT_f (ih (b.length + fr + 1 - (j + 1)) (by omega) _ _ ⟨j + 1, rfl, by omega, by omega, by rw [wi_eq (by omega) (by omega)]; rfl, h, .inr (by simpa using hc)⟩)⟩
  · exact ⟨false, rfl, ifT_t h⟩
end
end Go.Proofs.YthpjoogmmjikmaaGreatDoor
