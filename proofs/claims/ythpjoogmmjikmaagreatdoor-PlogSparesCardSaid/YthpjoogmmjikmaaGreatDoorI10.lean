/-
  Put and New of the disk, over memory, with its own blocks.
  No condition beyond those that each theorem names.
-/
import Derived.Test.YthpjoogmmjikmaaGreatDoorE10
set_option linter.unusedSimpArgs false
open Go.Sx
set_option linter.unusedVariables false
namespace Go.Proofs.YthpjoogmmjikmaaGreatDoor
theorem listPut_step (a b c n t : AV) {cs : List AV} (h : cs.length = 64) : listPut (stepC a b c z64 n t) 3 cs = stepC a b c cs n t := by
  have hz : z64.length = 64 := by rw [z64_eq, cellsOfBytes_length]; simp [zsec]
  show listPut (a :: b :: c :: (z64 ++ [n, t])) 3 cs = a :: b :: c :: (cs ++ [n, t])
  simp only [listPut, List.take_succ_cons, List.take_zero, List.cons_append, List.nil_append]
  rw [h, show 3 + 64 = 64 + 1 + 1 + 1 by omega]
  simp only [List.drop_succ_cons]
  rw [List.drop_left' hz]
section
variable {hk : Hook} {A B : Nat → Prop} {I : List Nat} {w0 w w' : AW} {D : Nat} {i i' : DI} {d d' : Dsk} {k k' : Nat} {L L' : Obs} {K : AV → AW → Prop}
theorem s36 (hh : HK hk) (st : Ow A I w0 w L) (hK : ∀ m1 m2 w', Ow A I w0 w' ((m2, .map []) :: (m1, .map []) :: L) → Xt (ids L) w (m2 :: m1 :: ids L) w' → K (.agg [.map m1, .map m2]) w') : Cl Tryz.prog hk 36 [] w K := by
  apply in36 (hh.no _ _ _ (by decide) (by decide))
  unfold F36
  refine st.new' fun b w1 st1 x1 => st1.newMap' fun m1 w3 st3 x3 => st3.newMap' fun m2 w5 st5 x5 => st5.put 2 rfl (by simp) fun w6 st6 x6 => ⟨_, _, st6.ldN 2 rfl rfl rfl, ?_⟩
  obtain ⟨st7, x7⟩ := st6.front 2 rfl
  obtain ⟨st8, x8, _⟩ := st7.drop
  exact hK m1 m2 w6 st8 (((((x1.trans x3).trans x5).trans x6).trans x7).trans x8)
theorem s9 (hh : HK hk) (st : Ow A I w0 w L) (hK : ∀ D i w', Dk A I w0 w' D i Dsk.none 0 L → Xt (ids L) w (dkU D i L) w' → K (.ptr D 0) w') : Cl Tryz.prog hk 9 [] w K := by
  apply in9 (hh.no _ _ _ (by decide) (by decide))
  unfold F9
  refine s36 hh st fun n1 f1 w1 st1 x1 => ⟨_, _, rfl, ?_⟩
  refine s36 hh st1 fun n2 f2 w5 st5 x5 => ⟨_, _, rfl, gd_t rfl (st5.new' fun D w9 st9 x9 => ?_)⟩
  obtain ⟨st11, x11⟩ := st9.room.front 2 rfl
  obtain ⟨st12, x12⟩ := st11.front 3 rfl
  obtain ⟨st13, x13⟩ := st12.front 4 rfl
  obtain ⟨st14, x14⟩ := st13.front 5 rfl
  obtain ⟨st15, x15⟩ := st14.front 5 rfl
  let i : DI := ⟨n1, f1, n2, f2, 0, .none, .nilslice, [], []⟩
  have xx : Xt (ids L) w (dkU D i L) w9 := (((((((x1.trans x5).trans x9).trans x11).trans x12).trans x13).trans x14).trans x15)
  exact hK D i w9 ⟨st15, Sv.nil, FEn.none, FEn.none, Dsk.V.none, by decide⟩ xx
theorem s29 {a data : Byts} {at_ : Int} {dv : AV} (hh : HK hk) (h : Dk A I w0 w D i d k L) (hkk : k + 2 < 2 ^ 27) (hd : RsB w dv data) (hK : Od A I w0 w D i L (d.put a at_ data) (k + 2) K) : Cl Tryz.prog hk 29 [.ptr D 0, .str a, .int .i64 at_, dv] w K := by
  apply in29 (hh.no _ _ _ (by decide) (by decide))
  unfold F29
  refine s59 hh h ⟨_, _, rfl, ?_⟩
  unfold Dsk.put at hK
  have hnowl := fun f => (h.V.now f).1
  -- the steps
  refine join_of (fun lv w9 => lv = [] ∧ w9 = w ∧ data.length = 64 ∧ 0 ≤ at_ ∧ at_ < 4096 ∧ Od A I w0 w D i L (match nget d.now.names a with
      | some f => d.more [⟨1, f, at_, data, [], []⟩]
      | Option.none => if (d.more [⟨0, d.last + 1, 0, zsec, a, []⟩, ⟨1, d.last + 1, at_, data, [], []⟩]).2 ≠ 0 then d.more [⟨0, d.last + 1, 0, zsec, a, []⟩, ⟨1, d.last + 1, at_, data, [], []⟩] else ({ (d.more [⟨0, d.last + 1, 0, zsec, a, []⟩, ⟨1, d.last + 1, at_, data, [], []⟩]).1 with last := d.last + 1 }, 0)) (k + 2) K) ?_ ?_
  · rintro lv w9 ⟨rfl, rfl, hdl, ha0, ha1, hK⟩
    refine ⟨rfl, fun _ => ?_⟩
    have hs2p : ∃ b o, s2p 64 dv = some (.ptr b o) ∧ ldN 64 w9 b o = some (.agg (cellsOfBytes data)) := by
      rcases hd with ⟨rfl, h2, _⟩ | ⟨b, o, cap, ex, all, rfl, h2, h3, h4⟩
      · omega
      · refine ⟨b, o, ?_, ?_⟩
        · simp only [s2p, hdl]; rfl
        · simp only [ldN, h2, Option.bind_some]
          rw [takeCells_some (by omega), h4, hdl]; rfl
    obtain ⟨b, o, h1, h2⟩ := hs2p
    rw [atP_iff]
    refine ⟨b, o, h1, onM_s h2 ?_⟩
    simp only [onA, onP]
    have hcl : (cellsOfBytes data).length = 64 := by rw [cellsOfBytes_length, hdl]
    refine gd_t (by rw [hcl]; rfl) (h.new' fun b15 w16 h16 x16 => ?_)
    rw [listPut_step _ _ _ _ _ hcl]
    have hst : stepC (.int .i64 1) (.int .i64 ((nget d.now.names a).getD 0)) (.int .i64 at_) (cellsOfBytes data) (.str []) (.str []) = Stp.cells ⟨1, (nget d.now.names a).getD 0, at_, data, [], []⟩ := rfl
    rw [hst]
    have h69 : (Stp.cells ⟨1, (nget d.now.names a).getD 0, at_, data, [], []⟩).length = 69 := Stp.length hdl
    refine gd_t (Stp.all _) (gd_t (by rw [h69]; rfl) (h16.wr 0 rfl (by rw [zstep_length, h69]; omega) fun w17 h17 x17 => ?_))
    rw [listPut_all (by rw [zstep_length, h69])] at h17
    have h17 : Dk A I w0 w17 D i d k ((b15, .row (Stp.cells ⟨1, (nget d.now.names a).getD 0, at_, data, [], []⟩)) :: L) := h17
    cases hg : nget d.now.names a with
    | some f =>
      rw [hg] at hK h17 h69
      refine ifT_d (fun _ => ?_) fun h => absurd rfl h
      simp only [Option.getD_some] at hK h17 h69 ⊢
      refine onM_s (h17.ow.ldN 6 rfl (by rw [h69]; rfl) (by rw [List.drop_zero, List.take_of_length_le (by omega)])) ?_
      simp only []
      refine gd_t (Stp.all _) (gd_t (by rw [h69]; rfl) (h17.new' fun b20 w21 h21 x21 => ?_))
      rw [listPut_all (by rw [zstep_length, h69])] at h21
      obtain ⟨h22, x22, hA22, hb22⟩ := h21.drop
      obtain ⟨h23, x23, _⟩ := h22.drop
      have hb22 : Box w21 b20 (Stp.cells ⟨1, f, at_, data, [], []⟩) := hb22
      have hone : (rL rStp).rd (fz A (dkU D i L)) w21 [.slice b20 0 1 1 none] [⟨1, f, at_, data, [], []⟩] := (Box.rd1 (r := rStp) (y := ⟨1, f, at_, data, [], []⟩) hb22 hA22 ⟨rfl, hdl⟩).x x23
      refine s61 (l := [⟨1, f, at_, data, [], []⟩]) hh h23 (fun x hx => ?_) (by simp; omega) hone fun i' w' h' x' => ⟨_, rfl, hK i' w' (h'.le (by simp) hkk) (((((x16.trans x17).trans x21).trans x22).trans x23).trans x')⟩
      simp at hx; subst hx
      exact ⟨hdl, ha0, by show at_ ≤ 4096; omega, fun _ => ha1⟩
    | none =>
      rw [hg] at hK h17 h69
      refine ifT_d (fun h => by cases h) fun _ => ?_
      simp only [Option.getD_none] at hK h17 h69 ⊢
      have hlast := h.V.last
      refine ⟨d.last, h17.ow.ld 0 rfl rfl, ?_⟩
      rw [wi_eq (show -9223372036854775808 ≤ d.last + 1 by omega) (by omega)]
      have hput : listPut (Stp.cells ⟨1, 0, at_, data, [], []⟩) (0 + 1) [.int .i64 (d.last + 1)] = Stp.cells ⟨1, d.last + 1, at_, data, [], []⟩ := rfl
      have h69' : (Stp.cells ⟨1, d.last + 1, at_, data, [], []⟩).length = 69 := Stp.length hdl
      refine h17.wr 0 rfl (by rw [h69]; simp) fun w28 h28 x28 => ?_
      rw [hput] at h28
      have h28 : Dk A I w0 w28 D i d k ((b15, .row (Stp.cells ⟨1, d.last + 1, at_, data, [], []⟩)) :: L) := h28
      refine ⟨d.last + 1, h28.ow.ld 6 rfl rfl, onM_s (h28.ow.ldN 6 rfl (by rw [h69']; rfl) (by rw [List.drop_zero, List.take_of_length_le (by omega)])) ?_⟩
      simp only []
      refine gd_t (Stp.all _) (gd_t (by rw [h69']; rfl) (h28.new' fun b32 w33 h33 x33 => ?_))
      have e33 : listPut (stepC (.int .i64 0) (.int .i64 (d.last + 1)) (.int .i64 0) z64 (.str a) (.str []) ++ stepC (.int .i64 0) (.int .i64 0) (.int .i64 0) z64 (.str []) (.str [])) 69 (Stp.cells ⟨1, d.last + 1, at_, data, [], []⟩) = stpsC [⟨0, d.last + 1, 0, zsec, a, []⟩, ⟨1, d.last + 1, at_, data, [], []⟩] := by
        have e1 : stepC (.int .i64 0) (.int .i64 (d.last + 1)) (.int .i64 0) z64 (.str a) (.str []) = Stp.cells ⟨0, d.last + 1, 0, zsec, a, []⟩ := by rw [z64_eq]; rfl
        have l1 : (Stp.cells ⟨0, d.last + 1, 0, zsec, a, []⟩).length = 69 := Stp.length (by simp [zsec])
        rw [e1]
        simp only [listPut]
        rw [List.take_left' l1, List.drop_eq_nil_of_le (by rw [List.length_append, l1, zstep_length, h69']; omega), List.append_nil]
        simp [stpsC]
      rw [e33] at h33
      obtain ⟨h34, x34, hA34, hb34⟩ := h33.drop
      obtain ⟨h35, x35, _⟩ := h34.drop
      have hb34 : Box w33 b32 (stpsC [⟨0, d.last + 1, 0, zsec, a, []⟩, ⟨1, d.last + 1, at_, data, [], []⟩]) := hb34
      have htwo : (rL rStp).rd (fz A (dkU D i L)) w33 [.slice b32 0 2 2 none] [⟨0, d.last + 1, 0, zsec, a, []⟩, ⟨1, d.last + 1, at_, data, [], []⟩] :=
        (Box.sl (r := rStp) (n := 2) (cap := 2) hb34 hA34 rfl (hcap := Nat.le_refl 2) (hc := Chk.stps.2 ⟨rfl, fun x hx => by simp at hx; rcases hx with rfl | rfl <;> simp [zsec, hdl]⟩)).x x35
      have x335 := (((((x16.trans x17).trans x28).trans x33).trans x34).trans x35)
      refine s61 (l := [⟨0, d.last + 1, 0, zsec, a, []⟩, ⟨1, d.last + 1, at_, data, [], []⟩]) hh h35 (fun x hx => ?_) (by simp; omega) htwo fun i' w' h' x' => ⟨_, rfl, ?_⟩
      · simp at hx
        rcases hx with rfl | rfl
        · exact ⟨by simp [zsec], Int.le_refl 0, by show (0 : Int) ≤ 4096; omega, fun e => by cases e⟩
        · exact ⟨hdl, ha0, by show at_ ≤ 4096; omega, fun _ => ha1⟩
      · have xall := x335.trans x'
        by_cases he : (d.more [⟨0, d.last + 1, 0, zsec, a, []⟩, ⟨1, d.last + 1, at_, data, [], []⟩]).2 = 0
        · rw [if_neg (by simpa using he)] at hK
          refine ifT_nd (fun h => absurd he h) fun _ => ?_
          have hml : (d.more [⟨0, d.last + 1, 0, zsec, a, []⟩, ⟨1, d.last + 1, at_, data, [], []⟩]).1.last = d.last := by
            unfold Dsk.more
            have := (stopped_same d).2.2.2.1
            split <;> exact this
          refine ⟨(d.more [⟨0, d.last + 1, 0, zsec, a, []⟩, ⟨1, d.last + 1, at_, data, [], []⟩]).1.last, h'.ow.ld 0 rfl rfl, ?_⟩
          rw [hml, wi_eq (show -9223372036854775808 ≤ d.last + 1 by omega) (by omega)]
          refine h'.put (d' := { (d.more [⟨0, d.last + 1, 0, zsec, a, []⟩, ⟨1, d.last + 1, at_, data, [], []⟩]).1 with last := d.last + 1 }) (by simp) rfl rfl rfl rfl ⟨h'.V.steps, h'.V.sv, h'.V.safe, h'.V.now, by simp only [List.length_cons, List.length_nil]; omega⟩ h'.k27 fun w42 h42 x42 => ?_
          exact hK i' w42 h42 (xall.trans x42)
        · rw [if_pos (by simpa using he)] at hK
          exact ifT_nd (fun _ => hK i' w' h' xall) fun h => absurd h he
  · intro J hJ
    have same : ∀ {e : Int}, Od A I w0 w D i L (d, e) (k + 2) K → K (.int .i64 e) w := fun {e} hK => Od.now h hK (by omega) hkk
    refine ifT_d (fun e => by split at e <;> cases e) fun _ => ?_
    -- what is wrong
    refine join_of (fun lv w44 => w44 = w ∧ ∃ b : Bool, lv = [.bool b] ∧ (b = true ↔ ((!named a) = true ∨ data.length ≠ 64 ∨ at_ < 0 ∨ ((d.now.files ((nget d.now.names a).getD 0)).length : Int) < at_ ∨ (nget d.now.names a = Option.none ∧ 0 < at_)))) ?_ ?_
    · rintro lv w44 ⟨rfl, b, rfl, hb⟩
      refine ⟨b, rfl, fun _ => ?_⟩
      cases b with
      | true => rw [if_pos (hb.1 rfl)] at hK; exact ifT_t (same hK)
      | false =>
        have hb' := mt hb.2 (by simp)
        rw [if_neg hb'] at hK
        have m1 : data.length = 64 := Classical.byContradiction fun h => hb' (.inr (.inl h))
        have m2 : 0 ≤ at_ := Classical.byContradiction fun h => hb' (.inr (.inr (.inl (by omega))))
        have m3 : at_ ≤ ((d.now.files ((nget d.now.names a).getD 0)).length : Int) := Classical.byContradiction fun h => hb' (.inr (.inr (.inr (.inl (by omega)))))
        have hl := hnowl ((nget d.now.names a).getD 0)
        refine ifT_f (ifT_d (fun e => ?_) fun e => ?_)
        · rw [if_pos (.inl e)] at hK; exact same hK
        cases hg : nget d.now.names a with
        | some f =>
          rw [hg] at hK
          rw [if_neg (by simp [e])] at hK
          refine ifT_d (fun h => by cases h) fun _ => hJ _ _ ⟨rfl, rfl, m1, m2, by omega, by rw [hg]; exact hK⟩
        | none =>
          rw [hg] at hK
          refine ifT_d (fun _ => ?_) fun h => absurd rfl h
          simp only [onP]
          have hnl : (nEnts d.now.names).length = d.now.names.length := by simp [nEnts]
          refine onM_s (h.ow.ld 0 rfl rfl) ⟨_, h.ow.len 3 rfl, ifT_d (fun h2 => ?_) fun h2 => ?_⟩
          · rw [if_pos (.inr ⟨rfl, by omega⟩)] at hK; exact same hK
          · rw [if_neg (by intro h; rcases h with h | ⟨_, h⟩; exact e h; omega)] at hK
            exact hJ _ _ ⟨rfl, rfl, m1, m2, by omega, by rw [hg]; exact hK⟩
    · intro J2 hJ2
      refine s60 hh ⟨_, rfl, ?_⟩
      cases hn : named a with
      | false => exact ifT_t (hJ2 _ _ ⟨rfl, true, rfl, fun _ => .inl (by rw [hn]; rfl), fun _ => rfl⟩)
      | true =>
        refine ifT_f ⟨_, hd.len, ifT_nd (fun h64 => hJ2 _ _ ⟨rfl, true, rfl, fun _ => .inr (.inl fun e => h64 (by omega)), fun _ => rfl⟩) fun h64 => ?_⟩
        have h64' : data.length = 64 := by omega
        refine ifT_d (fun hneg => hJ2 _ _ ⟨rfl, true, rfl, fun _ => .inr (.inr (.inl hneg)), fun _ => rfl⟩) fun hneg => ?_
        simp only [onP]
        obtain ⟨v, hlk, hsl⟩ := h.f2.look ((nget d.now.names a).getD 0)
        refine onM_s (h.ow.ld 0 rfl rfl) (onM_s ((h.ow.look 4 rfl (h.f2.like _)).trans hlk) ⟨_, hsl.len', ifT_d (fun hlt => hJ2 _ _ ⟨rfl, true, rfl, fun _ => .inr (.inr (.inr (.inl hlt))), fun _ => rfl⟩) fun hlt => ?_⟩)
        have hcl : ((!named a) = true ∨ data.length ≠ 64 ∨ at_ < 0 ∨ ((d.now.files ((nget d.now.names a).getD 0)).length : Int) < at_ ∨ (nget d.now.names a = Option.none ∧ 0 < at_)) ↔ (nget d.now.names a = Option.none ∧ 0 < at_) := by
          refine ⟨fun h => ?_, fun h => .inr (.inr (.inr (.inr h)))⟩
          rcases h with h | h | h | h | h
          · rw [hn] at h; cases h
          · exact absurd h64' h
          · exact absurd h hneg
          · exact absurd h hlt
          · exact h
        by_cases hs : (nget d.now.names a).isSome = true
        · rw [if_pos hs]
          refine ifT_d (fun h => by cases h) fun _ => hJ2 _ _ ⟨rfl, false, rfl, fun h => (by cases h), fun h => ?_⟩
          have := (hcl.1 h).1
          rw [this] at hs; cases hs
        · rw [if_neg hs]
          have hno : nget d.now.names a = Option.none := by
            cases hg : nget d.now.names a with
            | none => rfl
            | some f => rw [hg] at hs; exact absurd rfl hs
          refine ifT_d (fun _ => hJ2 _ _ ⟨rfl, _, rfl, fun h => ?_, fun h => ?_⟩) fun h => absurd rfl h
          · exact hcl.2 ⟨hno, of_decide_eq_true h⟩
          · exact decide_eq_true (hcl.1 h).2
end
end Go.Proofs.YthpjoogmmjikmaaGreatDoor
