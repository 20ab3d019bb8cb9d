/-
  limits: as many files, and sectors, as may be.
  No condition beyond those that each theorem names.
-/
import Derived.Test.YtbjeebgdjlemjaaJ07
set_option linter.unusedSimpArgs false
open Go.Sx
set_option linter.unusedVariables false
set_option linter.unusedSimpArgs false
namespace Go.Proofs.Ytbjeebgdjlemjaa
/-- conduit/conduitlaw07.limits -/
def F34 (hk : Hook)  (w : AW) (K : AV → AW → Prop) : Prop :=
  Cl Try.prog hk 10 [] w fun r_0 w_1 =>
  loopP [(.int .i64 0)] w_1 fun R_2 l_3 w_4 => ∃ i_5 : Int, l_3 = [(.int .i64 i_5)] ∧ ∀ _ : Nat → AV,
   ifT (decide (i_5 < 256)) (be (wi (97 + (wi (Int.tdiv i_5 16)))) fun x_6 =>
   be (IntKind.wrap .u8 (wi (97 + (Int.tmod i_5 16)))) fun x_7 =>
   new w_4 [(.int .u8 102), (.int .u8 (IntKind.wrap .u8 x_6)), (.int .u8 x_7)] fun b_8 w_9 =>
   ∃ x_10 : List UInt8, b2s w_9 (.slice b_8 0 3 3 none) = some (.str x_10) ∧
   b2s w_9 (.slice b_8 0 3 3 none) = some (.str x_10) ∧
   Cl Try.prog hk 12 [(.int .u8 (IntKind.wrap .u8 i_5)), (.int .i64 0)] w_9 fun r_11 w_12 =>
   b2s w_12 (.slice b_8 0 3 3 none) = some (.str x_10) ∧
   Cl Try.prog hk 11 [r_0, (.str x_10), (.int .i64 0), r_11] w_12 fun r_13 w_14 =>
   ∃ x_15 : Int, r_13 = (.int .i64 x_15) ∧
   ifT (!decide (x_15 = 0)) (K (.bool false) w_14)
   (R_2 [(.int .i64 (wi (i_5 + 1)))] w_14))
   (Cl Try.prog hk 12 [(.int .u8 0), (.int .i64 0)] w_4 fun r_16 w_17 =>
  Cl Try.prog hk 11 [r_0, (.str [109, 111, 114, 101]), (.int .i64 0), r_16] w_17 fun r_18 w_19 =>
  ∃ more_20 : Int, r_18 = (.int .i64 more_20) ∧
  Cl Try.prog hk 12 [(.int .u8 1), (.int .i64 0)] w_19 fun r_21 w_22 =>
  Cl Try.prog hk 11 [r_0, (.str [102, 97, 97]), (.int .i64 0), r_21] w_22 fun r_23 w_24 =>
  ∃ again_25 : Int, r_23 = (.int .i64 again_25) ∧
  ifT (decide (more_20 = 5)) (ifT (decide (again_25 = 0)) (Cl Try.prog hk 24 [r_0] w_24 fun r_26 w_27 =>
  ∃ x_28 : Int, lenS r_26 = some (.int .i64 x_28) ∧
  ifT (decide (x_28 = 256)) (K (.bool true) w_27)
  (K (.bool false) w_27))
  (K (.bool false) w_24))
  (K (.bool false) w_24))
def adv34 : Adv := (.sq .lf (.sq .lf (.sq (.sq .lf (.bl (.lp [(2, .sc (.int .i64))] (.sq (.sq .lf (.cd .lf .lf)) (.sq (.bl (.sq .lf (.cd (.sq .lf .lf) .lf))) .lf))))) (.sq .lf (.sq .lf (.sq .lf .lf))))))
set_option maxRecDepth 100000 in
theorem eq34 (hk : Hook)  (w : AW) (K : AV → AW → Prop) : fnS Try.prog hk Try.f34 adv34 [] w K = F34 hk  w K := by kernel_rfl
theorem in34 {hk : Hook} {w : AW} {K : AV → AW → Prop} (hn : hk 34 [] w = none) (h : F34 hk  w K) : Cl Try.prog hk 34 [] w K :=
  fnS_ok Try.func34 hn (by rw [eq34]; exact h)

def Qt (d : Dsk) : Prop := d.down = false ∧ d.arm = 0 ∧ d.fault = 0
theorem qt_stopped {d : Dsk} (h : Qt d) : d.stopped = (d, 0) := by
  obtain ⟨h1, h2, h3⟩ := h
  obtain ⟨a, b, c, l, dn, ar, fa, wt⟩ := d
  simp only at h1 h2 h3
  subst h1; subst h2; subst h3
  rfl
theorem qt_more {d : Dsk} (h : Qt d) (l : List Stp) : d.more l = ({ d with steps := d.steps ++ l, now := l.foldl FS.does d.now }, 0) := by
  unfold Dsk.more
  rw [qt_stopped h]; simp
theorem nset_new : ∀ {ns : List (Byts × Int)} {a : Byts} {f : Int}, nget ns a = none → nset ns a f = ns ++ [(a, f)]
  | [], _, _, _ => rfl
  | x :: r, a, f, h => by
    unfold nget at h
    rw [List.find?_cons] at h
    by_cases hx : x.1 = a
    · rw [decide_eq_true hx] at h; cases h
    · rw [decide_eq_false hx] at h
      show (if x.1 = a then _ else _) = _
      rw [if_neg hx, nset_new (ns := r) h]; rfl
theorem putNew {d : Dsk} {a data : Byts} (hq : Qt d) (hg : nget d.now.names a = none) (hn : named a = true) (hl : data.length = 64) (hc : d.now.names.length < 256) :
    ∃ d', d.put a 0 data = (d', 0) ∧ Qt d' ∧ d'.last = d.last + 1 ∧ d'.now.names = d.now.names ++ [(a, d.last + 1)] := by
  unfold Dsk.put
  simp only [hg, hn, hl, Option.getD_none]
  rw [if_neg (by simp), if_neg (by simp; omega), qt_more hq]
  refine ⟨_, rfl, hq, rfl, ?_⟩
  simp [FS.does, nset_new hg]
theorem putOld {d : Dsk} {a data : Byts} {f : Int} (hq : Qt d) (hg : nget d.now.names a = some f) (hn : named a = true) (hl : data.length = 64) :
    ∃ d', d.put a 0 data = (d', 0) ∧ d'.now.names = d.now.names := by
  unfold Dsk.put
  simp only [hg, hn, hl, Option.getD_some]
  rw [if_neg (by simp), if_neg (by simp), qt_more hq]
  exact ⟨_, rfl, rfl⟩
theorem putFull {d : Dsk} {a data : Byts} (hg : nget d.now.names a = none) (hn : named a = true) (hl : data.length = 64) (hc : d.now.names.length = 256) : d.put a 0 data = (d, 5) := by
  unfold Dsk.put
  simp only [hg, hn, hl, Option.getD_none]
  rw [if_neg (by simp), if_pos (by simp; omega)]
def nm (i : Nat) : Byts := [102, UInt8.ofNat (97 + i / 16), UInt8.ofNat (97 + i % 16)]
def nms (n : Nat) : List (Byts × Int) := (List.range n).map fun j => (nm j, (j + 1 : Int))
theorem nm_inj {i j : Nat} (hi : i < 256) (hj : j < 256) (h : nm i = nm j) : i = j := by
  unfold nm at h
  injection h with _ h
  injection h with h1 h
  injection h with h2 _
  have h1 := congrArg UInt8.toNat h1
  have h2 := congrArg UInt8.toNat h2
  simp only [UInt8.toNat_ofNat'] at h1 h2
  omega
theorem nm_cells : ∀ i : Nat, i < 256 → IntKind.wrap .u8 (wi (97 + wi (Int.tdiv (i : Int) 16))) = ((UInt8.ofNat (97 + i / 16)).toNat : Int) ∧ IntKind.wrap .u8 (wi (97 + Int.tmod (i : Int) 16)) = ((UInt8.ofNat (97 + i % 16)).toNat : Int) ∧ IntKind.wrap .u8 (i : Int) = ((UInt8.ofNat i).toNat : Int) := by decide +kernel
theorem nms_none {n : Nat} {a : Byts} (h : ∀ j, j < n → nm j ≠ a) : nget (nms n) a = none := by
  unfold nget nms
  rw [List.find?_eq_none.2]; rfl
  intro x hx
  obtain ⟨j, hj, rfl⟩ := List.mem_map.1 hx
  simpa using h j (List.mem_range.1 hj)
structure Lim (d : Dsk) (n : Nat) : Prop where
  q : Qt d
  last : d.last = n
  names : d.now.names = nms n
theorem Lim.put {d : Dsk} {n : Nat} {data : Byts} (h : Lim d n) (hn : n < 256) (hl : data.length = 64) : ∃ d', d.put (nm n) 0 data = (d', 0) ∧ Lim d' (n + 1) := by
  obtain ⟨d', h1, h2, h3, h4⟩ := putNew (a := nm n) (data := data) h.q (by rw [h.names]; exact nms_none fun j hj e => by have := nm_inj (by omega) hn e; omega) (by simp [named, nm]) hl (by rw [h.names]; simp [nms]; omega)
  refine ⟨d', h1, h2, by rw [h3, h.last]; push_cast; rfl, ?_⟩
  rw [h4, h.names, h.last]
  simp [nms, List.range_succ]
set_option maxRecDepth 20000 in
/-- limits. -/
theorem s34 {hk : Hook} {w : AW} (hh : HK hk) (hm : Mem w) (hw : 0 < w.size) : Cl Try.prog hk 34 [] w fun v _ => v = .bool true := by
  apply in34 (hh.no _ _ _ (by decide) (by decide))
  unfold F34
  have pv : Pv (fun _ => True) w := ⟨hm, hw, fun _ _ => trivial⟩
  refine s10 hh pv.st fun D i0 w2 h2 _ => ?_
  refine loopP_ind (fun m l w4 => ∃ (n : Nat) (i : DI) (d : Dsk), n ≤ 256 ∧ m = 256 - n ∧ l = [.int .i64 n] ∧ Dk (fun _ => True) [] w w4 D i d (2 * n) [] ∧ Lim d n) ?_
    ⟨0, i0, Dsk.none, Nat.zero_le 256, rfl, rfl, h2, ⟨⟨rfl, rfl, rfl⟩, rfl, by simp [nms, Dsk.none, FS.none]⟩⟩
  rintro m l w4 ⟨n, i, d, hn, rfl, rfl, h4, hL⟩ R ih
  have l64 : ∀ b, (fillB b).length = 64 := fun b => by simp [fillB]
  refine ⟨_, rfl, fun _ => ifT_d (fun hc => ?_) fun hc => ?_⟩
  · have hn : n < 256 := by omega
    obtain ⟨c1, c2, c3⟩ := nm_cells n hn
    simp only [be, c1, c2, c3]
    refine h4.new' fun b8 w9 h9 _ => ?_
    have bx : ∀ {w' : AW} {i' : DI} {d' : Dsk} {k' : Nat} {L : Obs} (j : Nat), Dk (fun _ => True) [] w w' D i' d' k' L → nth L j = some (b8, .row (cellsOfBytes (nm n))) → b2s w' (.slice b8 0 3 3 none) = some (.str (nm n)) := fun j h hj => (boxB (h.ow.box _ (nth_mem (i := j + 6) hj) rfl).1 rfl).str
    refine ⟨_, bx 0 h9 rfl, bx 0 h9 rfl, ?_⟩
    refine s12 hh h9.ow.mem h9.ow.P0.pos fun v12 w12 f12 b12 e12 => ?_
    subst e12
    obtain ⟨h12, _⟩ := h9.push f12 b12 (Nat.le_refl _)
    refine ⟨bx 1 h12 rfl, s11 hh h12 (by omega) (boxB b12 (l64 _)) ?_⟩
    obtain ⟨d', hp, hL'⟩ := hL.put hn (l64 _)
    rw [hp]
    intro i14 w14 h14 _
    refine ⟨0, rfl, ifT_f ?_⟩
    exact ih (256 - (n + 1)) (by omega) _ _ ⟨n + 1, i14, d', by omega, rfl, by rw [wi_eq (by omega) (by omega)]; rfl, h14.drop.1.drop.1, hL'⟩
  · obtain rfl : n = 256 := by omega
    have e0 : AV.int .u8 0 = .int .u8 ((0 : UInt8).toNat) := rfl
    refine s12 (b := 0) hh h4.ow.mem h4.ow.P0.pos fun v17 w17 f17 b17 e17 => ?_
    subst e17
    obtain ⟨h17, _⟩ := h4.push f17 b17 (Nat.le_refl _)
    refine s11 hh h17 (by decide) (boxB b17 (l64 _)) ?_
    have hlen : (nms 256).length = 256 := by simp [nms]
    rw [putFull (d := d) (a := [109, 111, 114, 101]) (by rw [hL.names]; exact nms_none fun j hj e => by simp [nm] at e) rfl (l64 _) (by rw [hL.names]; exact hlen)]
    intro i19 w19 h19 _
    refine ⟨5, rfl, s12 (b := 1) hh h19.ow.mem h19.ow.P0.pos fun v22 w22 f22 b22 e22 => ?_⟩
    subst e22
    obtain ⟨h22, _⟩ := h19.push f22 b22 (Nat.le_refl _)
    refine s11 hh h22 (by decide) (boxB b22 (l64 _)) ?_
    obtain ⟨d', hp, hN⟩ := putOld (a := [102, 97, 97]) (data := fillB 1) (f := 1) hL.q (by rw [hL.names]; rfl) rfl (l64 _)
    rw [hp]
    intro i24 w24 h24 _
    refine ⟨0, rfl, ifT_t (ifT_t ?_)⟩
    have hN' : d'.now.names = nms 256 := hN.trans hL.names
    refine s24 hh h24 (by rw [hN']; intro u hu; obtain ⟨j, _, rfl⟩ := List.mem_map.1 hu; simp [nm]) (by rw [hN', hlen]; decide) fun v26 w27 f27 hr _ => ⟨_, hr.len', ?_⟩
    have e : (namesOf d').length = 256 := by unfold namesOf; rw [isort_length, List.length_map, hN', hlen]
    rw [e]
    exact ifT_t rfl
end Go.Proofs.Ytbjeebgdjlemjaa
