/-
  CheckBeside.
  No condition beyond those that each theorem names.
-/
import Derived.Test.YtgobllfkiannfaaWL11
import Derived.Test.YtgobllfkiannfaaZ11
set_option linter.unusedSimpArgs false
open Go.Sx
set_option linter.unusedVariables false
set_option linter.unusedSimpArgs false
namespace Go.Proofs.Ytgobllfkiannfaa
abbrev T1 : Nat → Prop := fun _ => True
theorem Tn.other {d : Dsk} {t t2 : Byts} {N : Nms} {G : Int → List Byts} (h : Tn d t N G) (ht : nget N t2 = none) : Tn d t2 N G := ⟨h.names, h.se, h.st, h.g, ht, h.la, h.fr⟩
theorem Tn.crash_names {d : Dsk} {t : Byts} {N : Nms} {G : Int → List Byts} (h : Tn d t N G) (keep : List Bool) : (d.crash keep).now.names = N := by
  unfold Dsk.crash
  rw [h.st]
  show d.safe.names = N
  rw [h.se]; exact h.names
theorem last_ne {s r : Byts} (hs : 1 ≤ s.length) (h : s.getD (s.length - 1) 0 ≠ 126) : s ≠ r ++ [126] := by
  rintro rfl
  apply h
  rw [List.getD_eq_getElem?_getD, List.length_append, List.length_singleton, List.getElem?_append_right (by omega)]
  simp
theorem idx_last {s : Byts} (hs : 1 ≤ s.length) (h2 : s.length ≤ 60) : idxStr s (.int .i64 (wi ((Int.ofNat s.length) - 1))) = some (.int .u8 ((s.getD (s.length - 1) 0).toNat : Int)) := by
  have e : wi ((Int.ofNat s.length) - 1) = ((s.length - 1 : Nat) : Int) := by
    rw [Int.ofNat_eq_natCast, wi_eq (by omega) (by omega)]; omega
  rw [e]
  unfold idxStr
  rw [asN_ofNat]
  simp only [Option.bind_some]
  rw [List.getElem?_eq_getElem (by omega), List.getD_eq_getElem?_getD, List.getElem?_eq_getElem (by omega)]
  rfl
section
variable {hk : Hook} {w : AW}
set_option maxRecDepth 20000 in
theorem s5 {one two a b : Byts} {va vb : AV} (hh : HK hk) (pv : Pv T1 w) (ha : (rL rU).rd T1 w [va] a) (hb : (rL rU).rd T1 w [vb] b) : Cl Try.prog hk 5 [.str one, .str two, va, vb] w fun r _ => r = .bool true := by
  apply in5 (hh.no _ _ _ (by decide) (by decide))
  unfold F5
  have awake : ∀ {w : AW}, Cl Try.prog hk 16 [] w fun r w => ∃ x : Bool, r = .bool x ∧ (AV.bool x) = .bool true := fun {w} => Cl_hook (hh.awake _) ⟨_, rfl, rfl⟩
  refine ifT_d (fun _ => awake) fun h1 => ifT_d (fun _ => awake) fun h2 => ifT_d (fun _ => awake) fun h3 => ifT_d (fun _ => awake) fun h4 => ?_
  simp only [Int.ofNat_eq_natCast] at h1 h2 h3 h4
  cases h12 : (one == two) with
  | true => exact ifT_t awake
  | false =>
  have h12 : one ≠ two := by simpa using h12
  refine ifT_f ?_
  refine (show ∀ {K : Int → Prop} {x : Int}, K x → be x K from fun h => h) ?_
  refine ⟨_, idx_last (by omega) (by omega), ifT_d (fun _ => awake) fun h5 => ?_⟩
  refine (show ∀ {K : Int → Prop} {x : Int}, K x → be x K from fun h => h) ?_
  refine ⟨_, idx_last (by omega) (by omega), ifT_d (fun _ => awake) fun h6 => ?_⟩
  have l1 : one.getD (one.length - 1) 0 ≠ 126 := fun e => h5 (by rw [e]; rfl)
  have l2 : two.getD (two.length - 1) 0 ≠ 126 := fun e => h6 (by rw [e]; rfl)
  have n21 : two ++ [126] ≠ one := fun e => last_ne (r := two) (by omega) l1 e.symm
  have n22 : two ++ [126] ≠ two := fun e => by have := congrArg List.length e; simp at this
  refine ⟨_, ha.len', ifT_d (fun _ => awake) fun h7 => ⟨_, hb.len', ifT_d (fun _ => awake) fun h8 => ?_⟩⟩
  have hal : a.length ≤ 600 := by omega
  have hbl : b.length ≤ 600 := by omega
  have o1 : one ≠ [] := fun e => by rw [e] at h1; simp at h1
  have o2 : two ≠ [] := fun e => by rw [e] at h2; simp at h2
  refine s6 hh pv.st fun D i0 w38 h38 x38 => ?_
  have hq0 : Qu Dsk.none := ⟨rfl, rfl, rfl⟩
  have M0 : Md Dsk.none (one ++ [126]) [] (fun _ => []) := ⟨rfl, .inl ⟨rfl, rfl, rfl, ⟨by simp⟩, rfl, by simp, fun _ _ => ⟨rfl, rfl⟩⟩⟩
  refine s7 (N := []) (G := fun _ => []) hh h38 (h38.ow.arg pv.mem ha) hal (by omega) (by omega) (by decide) M0 rfl ⟨rfl, rfl⟩ (by decide) rfl fun i40 w40 d40 e40 h40 x40 hend40 hqe40 => ?_
  obtain ⟨rfl, q40⟩ := hqe40 hq0
  rcases hend40 with ⟨he, _⟩ | ⟨_, f40, dn40, f1, T40, r40, _⟩
  · exact absurd rfl he
  refine ⟨_, rfl, ?_⟩
  have T40 : Tn d40 (one ++ [126]) [(one, f1)] (Gx (fun _ => []) f1 (EX a)) := T40
  have hg2 : nget [(one, f1)] (two ++ [126]) = none := by simp [nget]; exact fun e => n21 e.symm
  have hg3 : nget [(one, f1)] ([] : Byts) = none := by simp [nget, o1]
  refine s7 (N := [(one, f1)]) (G := Gx (fun _ => []) f1 (EX a)) hh h40 (h40.ow.arg pv.mem hb) hbl (by omega) (by omega) (by decide) ⟨f40, .inl (T40.other hg2)⟩ dn40 r40 (by simp) hg3 fun i43 w43 d43 e43 h43 x43 hend43 hqe43 => ?_
  obtain ⟨rfl, q43⟩ := hqe43 q40
  rcases hend43 with ⟨he, _⟩ | ⟨_, f43, dn43, f2, T43, r43, hf12⟩
  · exact absurd rfl he
  have hf12 : f2 ≠ f1 := by simpa using hf12
  have hN2 : nset [(one, f1)] two f2 = [(one, f1), (two, f2)] := by simp [nset, h12]
  rw [hN2] at T43
  refine ⟨_, rfl, s13 (keep := []) hh h43 (by decide) (B := T1) Rp.rd.nil ?_⟩
  intro i46 w46 h46 x46
  have C46 := T43.crash []
  have N46 := T43.crash_names []
  generalize d43.crash [] = d46 at *
  have g1 : nget [(one, f1), (two, f2)] one = some f1 := by simp [nget]
  have g2 : nget [(one, f1), (two, f2)] two = some f2 := by simp [nget, h12]
  have G1 : Gx (Gx (fun _ => []) f1 (EX a)) f2 (EX b) f1 = EX a := by
    unfold Gx
    rw [if_neg (fun e => hf12 e.symm), if_pos rfl]
  have G2 : Gx (Gx (fun _ => []) f1 (EX a)) f2 (EX b) f2 = EX b := by
    unfold Gx
    rw [if_pos rfl]
  refine ⟨_, rfl, s14 hh h46 (by decide) hal (load_some n21 C46 g1 G1) fun c1 ex1 w49 h49 x49 hc1 bx1 hx1 => ⟨_, _, _, rfl, ?_⟩⟩
  refine s14 hh h49 (by decide) hbl (load_some n22 C46 g2 G2) fun c2 ex2 w54 h54 x54 hc2 bx2 hx2 => ⟨_, _, _, rfl, ?_⟩
  refine (show ∀ {K : Int → Prop} {x : Int}, K x → be x K from fun h => h) ?_
  refine (show ∀ {K : Int → Prop} {x : Int}, K x → be x K from fun h => h) ?_
  rw [show wi (wi (wi (wi (0 + 0) + 0) + 0) + 0) = 0 from by decide]
  refine ifT_f (ifT_f (ifT_f ?_))
  have c1s : c1 < w49.size := bx1.lt h49.ow.mem
  have c1n : c1 ∉ dkU D i46 [] := (h46.ow.P.new c1 hc1).2
  have c2s : c2 < w54.size := bx2.lt h54.ow.mem
  have c2n : c2 ∉ dkU D i46 [] := (h49.ow.P.new c2 hc2).2
  have bx1' : Box w54 c1 (cellsOfBytes a) := by
    have := (x54.g c1 c1s c1n).2
    exact this.trans bx1
  have z1 : c1 ≠ 0 := by have := h46.ow.P.pos; omega
  have z2 : c2 ≠ 0 := by have := h49.ow.P.pos; omega
  have n12 : c1 ≠ c2 := by omega
  have ra : (rL rU).rd T1 w54 [.slice c1 0 a.length a.length ex1] a := Box.sl bx1' trivial rfl (Chk.bytes.2 rfl) (by omega) (by rcases hx1 with rfl | rfl <;> rfl)
  have rb : (rL rU).rd T1 w54 [.slice c2 0 b.length b.length ex2] b := Box.sl bx2 trivial rfl (Chk.bytes.2 rfl) (by omega) (by rcases hx2 with rfl | rfl <;> rfl)
  refine s18 hh ra.rsB (h54.ow.arg pv.mem ha).rsB ⟨_, rfl, ?_⟩
  rw [show (a == a) = true by simp]
  refine ifT_t (s18 hh rb.rsB (h54.ow.arg pv.mem hb).rsB ⟨_, rfl, ?_⟩)
  rw [show (b == b) = true by simp]
  refine ifT_t (s19 hh h54 (fun u hu => ?_) (by rw [N46]; simp) fun v67 w67 f67 hr67 _ => ⟨_, hr67.len', ?_⟩)
  · rw [N46] at hu
    simp at hu
    rcases hu with rfl | rfl
    · show one.length ≤ _; omega
    · show two.length ≤ _; omega
  have hnl : (namesOf d46).length = 2 := by
    unfold namesOf
    rw [isort_length, N46]; rfl
  rw [hnl]
  obtain ⟨h67, x67⟩ := h54.fr f67
  refine ifT_t (gd_t rfl (gd_t rfl (h67.new' fun b69 w70 h70 x70 => ?_)))
  have hb69 : Box w70 b69 [.slice c1 0 a.length a.length ex1, .slice c2 0 b.length b.length ex2] := (h70.ow.box (b69, .row [.slice c1 0 a.length a.length ex1, .slice c2 0 b.length b.length ex2]) (nth_mem (i := 6) rfl) rfl).1
  have s67 := x67.s
  have b1 : Box w70 c1 (cellsOfBytes a) := ((x70.g c1 (by omega) c1n).2).trans (bx1'.fr f67 (by have := x54.s; omega))
  have b2 : Box w70 c2 (cellsOfBytes b) := ((x70.g c2 (by omega) c2n).2).trans (bx2.fr f67 c2s)
  have c1m := (x70.g c1 (by omega) c1n).1
  have c2m := (x70.g c2 (by omega) c2n).1
  have hm69 : b69 ∈ dkU D i46 [(b69, .row [.slice c1 0 a.length a.length ex1, .slice c2 0 b.length b.length ex2])] := by
    show b69 ∈ ids (dkL D i46 d46 [(b69, .row [.slice c1 0 a.length a.length ex1, .slice c2 0 b.length b.length ex2])])
    exact ids_mem (p := (b69, .row [.slice c1 0 a.length a.length ex1, .slice c2 0 b.length b.length ex2])) (nth_mem (i := 6) rfl) rfl
  have n10 : c1 ≠ b69 := fun e => c1m (by rw [e]; exact hm69)
  have n20 : c2 ≠ b69 := fun e => c2m (by rw [e]; exact hm69)
  refine s20 hh h70.ow.mem h70.ow.P0.pos (vs := [.slice c1 0 a.length a.length ex1, .slice c2 0 b.length b.length ex2]) (ss := fun j => if j = 0 then a else b) (by simp) hb69 (fun j hj => ?_) (fun j _ => ?_) (fun p q hp hq hpq x hx => ?_) (fun j hj => ?_) fun w72 s72 m72 g72 => ⟨_, rfl, ifT_t awake⟩
  · match j, hj with
    | 0, _ => exact .inr ⟨c1, ex1, rfl, hx1, by omega, b1⟩
    | 1, _ => exact .inr ⟨c2, ex2, rfl, hx2, by omega, b2⟩
  · show (if j = 0 then a else b).length < _
    split <;> omega
  · match p, q, hp, hq with
    | 0, 0, _, _ => exact absurd rfl hpq
    | 1, 1, _, _ => exact absurd rfl hpq
    | 0, 1, _, _ => cases hx; exact fun e => n12 (by injection e with e; exact e.symm)
    | 1, 0, _, _ => cases hx; exact fun e => n12 (by injection e)
  · match j, hj with
    | 0, _ => exact fun e => n10 (by injection e)
    | 1, _ => exact fun e => n20 (by injection e)
end
end Go.Proofs.Ytgobllfkiannfaa
