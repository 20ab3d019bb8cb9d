/-
  Put, Read, New, and what is handed in, over memory.
  No condition beyond those that each theorem names.
-/
import Derived.Test.YtbjeebgdjlemjaaN07
set_option linter.unusedSimpArgs false
open Go.Sx
set_option linter.unusedVariables false
namespace Go.Proofs.Ytbjeebgdjlemjaa

theorem repl_eq (n : Nat) (z : AV) : repl n [z] = List.replicate n z := by
  induction n with
  | zero => rfl
  | succ n ih => show [z] ++ repl n [z] = _; rw [ih]; rfl
theorem mapAt_of {w : AW} {r : Nat} {es : List (AV × AV)} {cl : Nat} (h : w.get r = some (.map es cl)) : mapAt w r = some (es, cl) := by unfold mapAt; rw [h]; rfl
theorem newMap_of {w : AW} {K : Nat → AW → Prop} (hm : Mem w) (h : ∀ w', Fr w.size w w' → w'.get w.size = some (.map [] 0) → w'.size = w.size + 1 → K w.size w') : newMap w K :=
  h _ (Fr.push hm fun cs f own d e => by cases e) (by simp) (by simp)

section
variable {hk : Hook} {X : List Nat} {w : AW} {D n1 f1 n2 f2 : Nat} {sv : AV} {d : Dsk} {k : Nat} {K : AV → AW → Prop}

/-- empty. -/
theorem s39 (hh : HK hk) (hm : Mem w) (hw : 0 < w.size) (hK : ∀ n f w', Fr w.size w w' → w.size ≤ n → w.size ≤ f → n ≠ f → n < w'.size → f < w'.size → NMp w' n [] → FMp w' f (fun _ => []) → K (.agg [.map n, .map f]) w') : Cl Try.prog hk 39 [] w K := by
  apply in39 (hh.no _ _ _ (by decide) (by decide))
  unfold F39
  refine new_of hm fun w1 f1 b1 z1 => newMap_of f1.mem fun w3 f3 g3 z3 => newMap_of f3.mem fun w5 f5 g5 z5 => ?_
  have b5 := (b1.fr f3 (by omega)).fr f5 (by omega)
  refine fill_of (vs := [.map w1.size, .map w3.size]) b5 f5.mem (by omega) rfl fun w6 c6 b6 z6 => ⟨_, _, by rw [b6.ldN (by simp)]; rfl, ?_⟩
  have g3' : w5.get w1.size = some (.map [] 0) := (f5.old _ (by omega)).trans g3
  refine hK w1.size w3.size w6 ?_ (by omega) (by omega) (by omega) (by omega) (by omega) ⟨0, (c6.old _ (by omega) (by simp; omega)).trans g3'⟩ ⟨[], 0, (c6.old _ (by omega) (by simp; omega)).trans g5, by simp, fun k => rfl⟩
  have t : Ch [w.size] w1 w6 := (f3.ch.trans f5.ch).trans c6
  exact (Ch.new f1 t [] fun z hz => by simp at hz; omega).fr (Nat.le_refl _) (by simp)
/-- New. -/
theorem s10 (hh : HK hk) (hm : Mem w) (hw : 0 < w.size) (hK : ∀ D n1 f1 n2 f2 X w', Fr w.size w w' → (∀ x ∈ X, w.size ≤ x ∧ x < w'.size) → DkM X w' D n1 f1 n2 f2 .nilslice Dsk.none → K (.ptr D 0) w') : Cl Try.prog hk 10 [] w K := by
  apply in10 (hh.no _ _ _ (by decide) (by decide))
  unfold F10
  refine s39 hh hm hw fun n1 f1 w1 fr1 a1 a2 a3 a4 a5 N1 F1 => ⟨_, _, rfl, ?_⟩
  have hs1 := fr1.size
  refine s39 hh fr1.mem (by omega) fun n2 f2 w5 fr5 b1 b2 b3 b4 b5 N2 F2 => ⟨_, _, rfl, gd_t rfl (new_of fr5.mem fun w9 fr9 b9 z9 => ?_)⟩
  have hs5 := fr5.size
  have fr := (fr1.trans fr5 hs1).trans fr9 (by omega)
  refine hK w5.size n1 f1 n2 f2 [w5.size, n1, f1, n2, f2] w9 fr (fun x hx => by simp at hx; omega) ⟨by omega, b9, ?_, ?_, ?_, ?_, by omega, Gc.nil, fun x hx => (by cases hx), by simp⟩
  · exact (N1.fr (fr5.old _ a4)).fr (fr9.old _ (by omega))
  · exact (F1.mono (fr5.old _ a5) fun b bs hb => fr5.cells fr1.mem hb (Nat.le_refl _)).mono (fr9.old _ (by omega)) fun b bs hb => fr9.cells fr5.mem hb (Nat.le_refl _)
  · exact N2.fr (fr9.old _ b4)
  · exact F2.mono (fr9.old _ b5) fun b bs hb => fr9.cells fr5.mem hb (Nat.le_refl _)

/-- SameBytes. -/
theorem s19 {v v' : AV} {s s' : Byts} (hh : HK hk) (h : RsB w v s) (h' : RsB w v' s') (hK : K (.bool (s == s')) w) : Cl Try.prog hk 19 [v, v'] w K := by
  apply in19 (hh.no _ _ _ (by decide) (by decide))
  exact ⟨_, h.str, _, h'.str, hK⟩

def fillB (b : UInt8) : Byts := List.replicate 64 b
/-- filled. -/
theorem s12 {b : UInt8} (hh : HK hk) (hm : Mem w) (hw : 0 < w.size) (hK : ∀ v w', Fr w.size w w' → Box w' w.size (cellsOfBytes (fillB b)) → v = .slice w.size 0 64 64 none → K v w') : Cl Try.prog hk 12 [.int .u8 b.toNat, .int .i64 0] w K := by
  apply in12 (hh.no _ _ _ (by decide) (by decide))
  unfold F12
  rw [show imax (imin (wi (64 + 0)) 200) 0 = ((64 : Nat) : Int) by decide]
  refine onM_s (v := 64) rfl (onM_s (v := 64) rfl (gd_t rfl (new_of hm fun w5 f5 b5 z5 => ?_)))
  rw [repl_eq] at b5
  refine loopP_ind (fun m l w8 => ∃ (i : Nat) (t : Byts), i ≤ 64 ∧ m = 64 - i ∧ l = [.int .i64 i] ∧ Fr w.size w w8 ∧ w.size < w8.size ∧ Box w8 w.size (cellsOfBytes t) ∧ t.length = 64 ∧ ∀ j, j < i → t[j]? = some b) ?_
    ⟨0, List.replicate 64 0, Nat.zero_le _, rfl, rfl, f5, by omega, by rw [show cellsOfBytes (List.replicate 64 0) = List.replicate 64 (.int .u8 0) by simp [cellsOfBytes]]; exact b5, by simp, fun j hj => by omega⟩
  rintro m l w8 ⟨i, t, hi, rfl, rfl, f8, z8, b8, htl, ht⟩ R ih
  refine ⟨_, rfl, fun _ => ⟨_, rfl, ifT_d (fun hc => ?_) fun hc => ?_⟩⟩
  · refine idx0 (by omega) (b8.put' f8.mem (by omega) (by rw [cellsOfBytes_length]; simp; omega) fun w13 c13 b13 z13 => ?_)
    rw [bytes_set _ _ _ (by omega)] at b13
    refine ih (64 - (i + 1)) (by omega) _ _ ⟨i + 1, t.set i b, by omega, rfl, by rw [wi_eq (by omega) (by omega)]; rfl, f8.trans (c13.fr (n := w.size) (by omega) (by simp)) (Nat.le_refl _), by omega, b13, by simp [htl], fun j hj => ?_⟩
    rw [List.getElem?_set]
    by_cases hij : i = j
    · subst hij; rw [if_pos rfl, if_pos (by omega)]
    · rw [if_neg hij]; exact ht j (by omega)
  · have e : t = fillB b := by
      apply List.ext_getElem?
      intro j
      by_cases hj : j < 64
      · rw [ht j (by omega)]; unfold fillB; rw [List.getElem?_replicate, if_pos hj]
      · rw [List.getElem?_eq_none (by omega), List.getElem?_eq_none (by simp [fillB]; omega)]
    rw [e] at b8
    exact hK _ _ f8 b8 rfl

/-- Read. -/
theorem s18 {a : Byts} (hh : HK hk) (hm : Mem w) (hw : 0 < w.size) (h : DkM X w D n1 f1 n2 f2 sv d) (hV : d.V k) (hK : ∀ v w', Fr w.size w w' → Gc (w.size ≤ ·) 1 w' v (cellsOfBytes (d.read a).1) → K (.tup [v, .int .i64 (d.read a).2]) w') : Cl Try.prog hk 18 [.ptr D 0, .str a] w K := by
  apply in18 (hh.no _ _ _ (by decide) (by decide))
  unfold F18
  refine s40 hh h ⟨_, _, rfl, ?_⟩
  unfold Dsk.read at hK
  cases hg : nget d.now.names a with
  | none => rw [hg] at hK; exact ifT_nd (fun _ => hK .nilslice w (Fr.refl hm) Gc.nil) fun h => by cases h
  | some f =>
    rw [hg] at hK
    refine ifT_nd (fun h => absurd rfl h) fun _ => ?_
    simp only [Option.getD_some, onP] at hK ⊢
    refine ⟨d.down, by rw [h.box.ld]; rfl, ?_⟩
    cases hd : d.down with
    | true => rw [hd, if_pos rfl] at hK; exact ifT_t (hK .nilslice w (Fr.refl hm) Gc.nil)
    | false =>
      rw [hd] at hK
      simp only [Bool.false_eq_true, if_false] at hK
      obtain ⟨v, hlk, hsl⟩ := h.F2.look f
      refine ifT_f (onM_s (v := .map f2) (by rw [h.box.ld]; rfl) (onM_s hlk ⟨_, hsl.len, ?_⟩))
      have hl64 := hsl.1
      have hlen := (hV.now f).1
      generalize d.now.files f = l at *
      refine loopP_ind (fun m lv w16 => ∃ (i : Nat) (out : AV), i ≤ l.length ∧ m = l.length - i ∧ lv = [out, .int .i64 i] ∧ Fr w.size w w16 ∧ Gc (w.size ≤ ·) 1 w16 out (cellsOfBytes (l.take i).flatten)) ?_ ⟨0, .nilslice, Nat.zero_le _, rfl, rfl, Fr.refl hm, show Gc _ 1 _ _ [] from Gc.nil⟩
      rintro m lv w16 ⟨i, out, hi, rfl, rfl, f16, hg16⟩ R ih
      refine ⟨_, _, rfl, fun _ => ifT_d (fun hc => ?_) fun hc => ?_⟩
      · have hil : i < l.length := by omega
        have hs16 := f16.size
        have hx64 : (l[i]).length = 64 := hl64 _ (List.getElem_mem hil)
        refine (hsl.rs.fr hm f16 (Nat.le_refl _)).at (i := (i : Int)) (by omega) (by omega) fun bb oo _ hN => ?_
        have hsec : ((cellsOfBytes l.flatten).drop (i * 64)).take 64 = cellsOfBytes l[i] := by
          have : (l.flatten.drop (i * 64)).take 64 = l[i] := by
            have e : l = l.take i ++ l[i] :: l.drop (i + 1) := by rw [List.getElem_cons_drop, List.take_append_drop]
            have h1 : (l.take i).flatten.length = i * 64 := by rw [flat_len fun s hs => hl64 s (List.mem_of_mem_take hs)]; simp; omega
            conv => lhs; rw [e]
            rw [List.flatten_append, List.flatten_cons, List.drop_left' h1, List.take_left' hx64]
          rw [← this]; simp [cellsOfBytes, List.map_drop, List.map_take]
        have hN : ldN 64 w16 bb oo = some (.agg (cellsOfBytes l[i])) := by rw [hN]; exact congrArg (fun t => some (AV.agg t)) hsec
        refine onM_s hN (new_of f16.mem fun w23 f23 b23 z23 => ?_)
        simp only [onA]
        have hcl : (cellsOfBytes l[i]).length = 64 := by rw [cellsOfBytes_length, hx64]
        refine gd_t (ok_bytes _) (gd_t (by rw [hcl]; rfl) (fill_of b23 f23.mem (by omega) (by rw [z64_eq, hcl, cellsOfBytes_length]; simp [zsec]) fun w25 c25 b25 z25 => ?_))
        have f25 : Fr w16.size w16 w25 := (Ch.new f23 c25 [] fun z hz => by simp at hz; omega).fr (Nat.le_refl _) (by simp)
        refine onM_s (v := .slice w16.size (0 + 0 * 1) (64 - 0) (64 - 0) none) rfl ?_
        have hrx : Rs w25 1 64 (.slice w16.size (0 + 0 * 1) (64 - 0) (64 - 0) none) (cellsOfBytes l[i]) := .inr ⟨w16.size, 0, 64, none, _, rfl, b25.cells, by omega, by rw [List.drop_zero, List.take_of_length_le (by omega)]⟩
        have htl := flat_len (l := l.take i) fun s hs => hl64 s (List.mem_of_mem_take hs)
        have htl' : (l.take i).length = i := by simp; omega
        refine (hg16.fr f16.mem f25).app f25.mem (by show w.size ≤ w25.size; have := f25.size; omega) (by have := f25.size; omega) (by decide) hrx (by rw [cellsOfBytes_length, htl, htl']; omega) (by rw [cellsOfBytes_length, htl, htl']; omega) fun out' w28 hg28 hgr _ => ?_
        refine ih (l.length - (i + 1)) (by omega) _ _ ⟨i + 1, out', by omega, rfl, by rw [wi_eq (by omega) (by omega)]; rfl, (f16.trans f25 (by omega)).trans ⟨hgr.size, fun c hc => hgr.old c (by have := f25.size; omega) (by show ¬ w.size ≤ c; omega), hgr.mem⟩ (Nat.le_refl _), ?_⟩
        have e : l.take (i + 1) = l.take i ++ [l[i]] := (List.take_append_getElem hil).symm
        rw [e, List.flatten_append, cellsOfBytes_append]
        simpa using hg28
      · have : i = l.length := by omega
        subst this
        rw [List.take_length] at hg16
        exact hK out w16 f16 hg16

/-- Put. -/
theorem s11 {a data : Byts} {at_ : Int} {dv : AV} (hh : HK hk) (hm : Mem w) (hw : 0 < w.size) (h : DkM X w D n1 f1 n2 f2 sv d) (hV : d.V k) (hkk : k < 2 ^ 27) (hd : RsB w dv data) (hK : Out X w D n1 f1 n2 f2 (d.put a at_ data) K) : Cl Try.prog hk 11 [.ptr D 0, .str a, .int .i64 at_, dv] w K := by
  apply in11 (hh.no _ _ _ (by decide) (by decide))
  unfold F11
  refine s40 hh h ⟨_, _, rfl, ?_⟩
  unfold Dsk.put at hK
  have hDl := (h.lt hm).1
  have hnowl := fun f => (hV.now f).1
  -- the steps
  refine join_of (fun lv w9 => lv = [] ∧ w9 = w ∧ data.length = 64 ∧ 0 ≤ at_ ∧ at_ < 4096 ∧ Out X w D n1 f1 n2 f2 (match nget d.now.names a with
      | some f => d.more [⟨1, f, at_, data, [], []⟩]
      | Option.none => if (d.more [⟨0, d.last + 1, 0, zsec, a, []⟩, ⟨1, d.last + 1, at_, data, [], []⟩]).2 ≠ 0 then d.more [⟨0, d.last + 1, 0, zsec, a, []⟩, ⟨1, d.last + 1, at_, data, [], []⟩] else ({ (d.more [⟨0, d.last + 1, 0, zsec, a, []⟩, ⟨1, d.last + 1, at_, data, [], []⟩]).1 with last := d.last + 1 }, 0)) K) ?_ ?_
  · rintro lv w9 ⟨rfl, rfl, hdl, ha0, ha1, hK⟩
    refine ⟨rfl, fun _ => ?_⟩
    have hs2p : ∃ b o, s2p 64 dv = some (.ptr b o) ∧ ldN 64 w9 b o = some (.agg (cellsOfBytes data)) := by
      rcases hd with ⟨rfl, h2, _⟩ | ⟨b, o, cap, ex, all, rfl, h2, h3, h4⟩
      · omega
      · refine ⟨b, o, ?_, ?_⟩
        · simp only [s2p, hdl]; rfl
        · rw [ldN_cells h2 (by omega)]
          rw [h4, hdl]
    obtain ⟨b, o, h1, h2⟩ := hs2p
    rw [atP_iff]
    refine ⟨b, o, h1, onM_s h2 ?_⟩
    simp only [onA, onP]
    have hcl : (cellsOfBytes data).length = 64 := by rw [cellsOfBytes_length, hdl]
    refine gd_t (by rw [hcl]; rfl) (new_of hm fun w16 f16 b16 z16 => ?_)
    rw [listPut_step _ _ _ _ _ hcl]
    have hst : stepC (.int .i64 1) (.int .i64 ((nget d.now.names a).getD 0)) (.int .i64 at_) (cellsOfBytes data) (.str []) (.str []) = Stp.cells ⟨1, (nget d.now.names a).getD 0, at_, data, [], []⟩ := rfl
    rw [hst]
    have h69 : (Stp.cells ⟨1, (nget d.now.names a).getD 0, at_, data, [], []⟩).length = 69 := Stp.length hdl
    refine gd_t (Stp.all _) (gd_t (by rw [h69]; rfl) (fill_of b16 f16.mem (by omega) (by rw [zstep_length, h69]) fun w17 c17 b17 z17 => ?_))
    have f17 : Fr w9.size w9 w17 := (Ch.new f16 c17 [] fun z hz => by simp at hz; omega).fr (Nat.le_refl _) (by simp)
    have hm17 := f17.mem
    cases hg : nget d.now.names a with
    | some f =>
      rw [hg] at hK b17 h69
      refine ifT_d (fun _ => ?_) fun h => absurd rfl h
      simp only [Option.getD_some] at hK b17 h69 ⊢
      refine onM_s (ldN_all b17.cells h69) ?_
      simp only []
      refine gd_t (Stp.all _) (gd_t (by rw [h69]; rfl) (new_of hm17 fun w21 f21 b21 z21 => ?_))
      rw [listPut_all (by rw [zstep_length, h69])] at b21
      have f021 := f17.trans f21 (by have := f17.size; omega)
      have hs17 := f17.size
      refine s42n (l := [⟨1, f, at_, data, [], []⟩]) hh f21.mem (by omega) (h.fr hm f021) hV hkk (fun x hx => ?_) (by simp) (by simpa [stpsC] using b21) (by omega) fun X' sv' w' h1 h2 h3 h4 => ⟨_, rfl, hK.fr hm f021 X' sv' w' h1 h2 h3 h4⟩
      simp at hx; subst hx
      exact ⟨hdl, ha0, by show at_ ≤ 4096; omega, fun _ => ha1⟩
    | none =>
      rw [hg] at hK b17 h69
      refine ifT_d (fun h => by cases h) fun _ => ?_
      simp only [Option.getD_none] at hK b17 h69 ⊢
      have h17 := h.fr hm f17
      have hlast := hV.last
      refine ⟨d.last, by rw [h17.box.ld]; rfl, ?_⟩
      rw [wi_eq (show -9223372036854775808 ≤ d.last + 1 by omega) (by omega)]
      have hput : listPut (Stp.cells ⟨1, 0, at_, data, [], []⟩) (0 + 1) [.int .i64 (d.last + 1)] = Stp.cells ⟨1, d.last + 1, at_, data, [], []⟩ := rfl
      have h69' : (Stp.cells ⟨1, d.last + 1, at_, data, [], []⟩).length = 69 := Stp.length hdl
      refine b17.put' hm17 (by omega) (by rw [h69]; simp) fun w28 c28 b28 z28 => ?_
      rw [hput] at b28
      have f28 : Fr w9.size w9 w28 := f17.trans (c28.fr (n := w9.size) f17.size (by simp)) (Nat.le_refl _)
      refine ⟨d.last + 1, by rw [b28.ld]; rfl, onM_s (ldN_all b28.cells h69') ?_⟩
      simp only []
      refine gd_t (Stp.all _) (gd_t (by rw [h69']; rfl) (new_of c28.mem fun w33 f33 b33 z33 => ?_))
      have e33 : listPut (stepC (.int .i64 0) (.int .i64 (d.last + 1)) (.int .i64 0) z64 (.str a) (.str []) ++ stepC (.int .i64 0) (.int .i64 0) (.int .i64 0) z64 (.str []) (.str [])) 69 (Stp.cells ⟨1, d.last + 1, at_, data, [], []⟩) = stpsC [⟨0, d.last + 1, 0, zsec, a, []⟩, ⟨1, d.last + 1, at_, data, [], []⟩] := by
        have e1 : stepC (.int .i64 0) (.int .i64 (d.last + 1)) (.int .i64 0) z64 (.str a) (.str []) = Stp.cells ⟨0, d.last + 1, 0, zsec, a, []⟩ := by rw [z64_eq]; rfl
        have l1 : (Stp.cells ⟨0, d.last + 1, 0, zsec, a, []⟩).length = 69 := Stp.length (by simp [zsec])
        rw [e1]
        simp only [listPut]
        rw [List.take_left' l1, List.drop_eq_nil_of_le (by rw [List.length_append, l1, zstep_length, h69']; omega), List.append_nil]
        simp [stpsC]
      rw [e33] at b33
      have hs28 := f28.size
      have f033 := f28.trans f33 hs28
      refine s42n (l := [⟨0, d.last + 1, 0, zsec, a, []⟩, ⟨1, d.last + 1, at_, data, [], []⟩]) hh f33.mem (by omega) (h.fr hm f033) hV hkk (fun x hx => ?_) (by simp) b33 (by omega) fun X' sv' w' h1 h2 h3 h4 => ⟨_, rfl, ?_⟩
      · simp at hx
        rcases hx with rfl | rfl
        · exact ⟨by simp [zsec], Int.le_refl 0, by show (0 : Int) ≤ 4096; omega, fun e => by cases e⟩
        · exact ⟨hdl, ha0, by show at_ ≤ 4096; omega, fun _ => ha1⟩
      · have hOut := hK.fr hm f033
        by_cases he : (d.more [⟨0, d.last + 1, 0, zsec, a, []⟩, ⟨1, d.last + 1, at_, data, [], []⟩]).2 = 0
        · rw [if_neg (by simpa using he)] at hOut
          refine ifT_nd (fun h => absurd he h) fun _ => ?_
          refine ⟨(d.more [⟨0, d.last + 1, 0, zsec, a, []⟩, ⟨1, d.last + 1, at_, data, [], []⟩]).1.last, by rw [h4.box.ld]; rfl, ?_⟩
          have hml : (d.more [⟨0, d.last + 1, 0, zsec, a, []⟩, ⟨1, d.last + 1, at_, data, [], []⟩]).1.last = d.last := by
            unfold Dsk.more
            have := (stopped_same d).2.2.2.1
            split <;> exact this
          rw [hml, wi_eq (show -9223372036854775808 ≤ d.last + 1 by omega) (by omega)]
          refine h4.put (d' := { (d.more [⟨0, d.last + 1, 0, zsec, a, []⟩, ⟨1, d.last + 1, at_, data, [], []⟩]).1 with last := d.last + 1 }) h3.ch.mem (by simp) rfl rfl rfl rfl fun w42 t42 z42 h42 => ?_
          exact hOut X' sv' w42 h1 h2 (h3.trans (t42.mono (by simp; exact h.inX.1))) h42
        · rw [if_pos (by simpa using he)] at hOut
          exact ifT_nd (fun _ => hOut X' sv' w' h1 h2 h3 h4) fun h => absurd h he
  · intro J hJ
    have same : ∀ {e : Int}, Out X w D n1 f1 n2 f2 (d, e) K → K (.int .i64 e) w := fun {e} hK => hK.same hm h
    refine ifT_d (fun e => by split at e <;> cases e) fun _ => ?_
    -- what is wrong
    refine join_of (fun lv w44 => w44 = w ∧ ∃ b : Bool, lv = [.bool b] ∧ (b = true ↔ ((!named a) = true ∨ data.length ≠ 64 ∨ at_ < 0 ∨ ((d.now.files ((nget d.now.names a).getD 0)).length : Int) < at_ ∨ (nget d.now.names a = Option.none ∧ 0 < at_)))) ?_ ?_
    · rintro lv w44 ⟨rfl, b, rfl, hb⟩
      refine ⟨b, rfl, fun _ => ?_⟩
      cases b with
      | true => rw [if_pos (hb.1 rfl)] at hK; exact ifT_t (same hK)
      | false =>
        have hb' := mt hb.2 (by simp)
        rw [if_neg hb'] at hK
        have m1 : data.length = 64 := Classical.byContradiction fun h => hb' (.inr (.inl h))
        have m2 : 0 ≤ at_ := Classical.byContradiction fun h => hb' (.inr (.inr (.inl (by omega))))
        have m3 : at_ ≤ ((d.now.files ((nget d.now.names a).getD 0)).length : Int) := Classical.byContradiction fun h => hb' (.inr (.inr (.inr (.inl (by omega)))))
        have hl := hnowl ((nget d.now.names a).getD 0)
        refine ifT_f (ifT_d (fun e => ?_) fun e => ?_)
        · rw [if_pos (.inl e)] at hK; exact same hK
        cases hg : nget d.now.names a with
        | some f =>
          rw [hg] at hK
          rw [if_neg (by simp [e])] at hK
          refine ifT_d (fun h => by cases h) fun _ => hJ _ _ ⟨rfl, rfl, m1, m2, by omega, by rw [hg]; exact hK⟩
        | none =>
          rw [hg] at hK
          refine ifT_d (fun _ => ?_) fun h => absurd rfl h
          simp only [onP]
          refine onM_s (v := .map n2) (by rw [h.box.ld]; rfl) ⟨_, h.N2.len, ifT_d (fun h2 => ?_) fun h2 => ?_⟩
          · rw [if_pos (.inr ⟨rfl, by omega⟩)] at hK; exact same hK
          · rw [if_neg (by intro h; rcases h with h | ⟨_, h⟩; exact e h; omega)] at hK
            exact hJ _ _ ⟨rfl, rfl, m1, m2, by omega, by rw [hg]; exact hK⟩
    · intro J2 hJ2
      refine s41 hh ⟨_, rfl, ?_⟩
      cases hn : named a with
      | false => exact ifT_t (hJ2 _ _ ⟨rfl, true, rfl, fun _ => .inl (by rw [hn]; rfl), fun _ => rfl⟩)
      | true =>
        refine ifT_f ⟨_, hd.len, ifT_nd (fun h64 => hJ2 _ _ ⟨rfl, true, rfl, fun _ => .inr (.inl fun e => h64 (by omega)), fun _ => rfl⟩) fun h64 => ?_⟩
        have h64' : data.length = 64 := by omega
        refine ifT_d (fun hneg => hJ2 _ _ ⟨rfl, true, rfl, fun _ => .inr (.inr (.inl hneg)), fun _ => rfl⟩) fun hneg => ?_
        simp only [onP]
        obtain ⟨v, hlk, hsl⟩ := h.F2.look ((nget d.now.names a).getD 0)
        refine onM_s (v := .map f2) (by rw [h.box.ld]; rfl) (onM_s hlk ⟨_, hsl.len, ifT_d (fun hlt => hJ2 _ _ ⟨rfl, true, rfl, fun _ => .inr (.inr (.inr (.inl hlt))), fun _ => rfl⟩) fun hlt => ?_⟩)
        have hcl : ((!named a) = true ∨ data.length ≠ 64 ∨ at_ < 0 ∨ ((d.now.files ((nget d.now.names a).getD 0)).length : Int) < at_ ∨ (nget d.now.names a = Option.none ∧ 0 < at_)) ↔ (nget d.now.names a = Option.none ∧ 0 < at_) := by
          refine ⟨fun h => ?_, fun h => .inr (.inr (.inr (.inr h)))⟩
          rcases h with h | h | h | h | h
          · rw [hn] at h; cases h
          · exact absurd h64' h
          · exact absurd h hneg
          · exact absurd h hlt
          · exact h
        by_cases hs : (nget d.now.names a).isSome = true
        · rw [if_pos hs]
          refine ifT_d (fun h => by cases h) fun _ => hJ2 _ _ ⟨rfl, false, rfl, fun h => (by cases h), fun h => ?_⟩
          have := (hcl.1 h).1
          rw [this] at hs; cases hs
        · rw [if_neg hs]
          have hno : nget d.now.names a = Option.none := by
            cases hg : nget d.now.names a with
            | none => rfl
            | some f => rw [hg] at hs; exact absurd rfl hs
          refine ifT_d (fun _ => hJ2 _ _ ⟨rfl, _, rfl, fun h => ?_, fun h => ?_⟩) fun h => absurd rfl h
          · exact hcl.2 ⟨hno, of_decide_eq_true h⟩
          · exact decide_eq_true (hcl.1 h).2
end
end Go.Proofs.Ytbjeebgdjlemjaa
