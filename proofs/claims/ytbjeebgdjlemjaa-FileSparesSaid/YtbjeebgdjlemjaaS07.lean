/-
  FileSpares: what Read and Names give shares nothing with the disk.
  No condition beyond those that each theorem names.
-/
import Derived.Test.YtbjeebgdjlemjaaZ07
set_option linter.unusedSimpArgs false
open Go.Sx
set_option linter.unusedVariables false
set_option linter.unusedSimpArgs false
namespace Go.Proofs.Ytbjeebgdjlemjaa
theorem boxB {w : AW} {b n : Nat} {s : Byts} {ex : Option Nat} (h : Box w b (cellsOfBytes s)) (hl : s.length = n) (hx : ex = none ∨ ex = some 1 := by simp) : RsB w (.slice b 0 n n ex) s := by
  subst hl
  exact BS.rs (n0 := 0) (.inr ⟨b, ex, rfl, hx, Nat.zero_le _, h⟩)
theorem put1 {data : Byts} (h : data.length = 64) : ∃ d1, Dsk.none.put [97] 0 data = (d1, 0) ∧ d1.now.names = [([97], 1)] ∧ d1.now.files 1 = [data] ∧ d1.down = false := by
  unfold Dsk.put
  simp [Dsk.none, FS.none, nget, named, h, Dsk.more, Dsk.stopped, spent, FS.does, nset, updF, putS]
set_option maxRecDepth 2000 in
/-- FileSpares. -/
theorem s5 {hk : Hook} {w : AW} {b : UInt8} (hh : HK hk) (hm : Mem w) (hw : 0 < w.size) : Cl Try.prog hk 5 [.int .u8 b.toNat] w fun v _ => v = .bool true := by
  apply in5 (hh.no _ _ _ (by decide) (by decide))
  unfold F5
  have pv : Pv (fun _ => True) w := ⟨hm, hw, fun _ _ => trivial⟩
  have l64 : (fillB b).length = 64 := by simp [fillB]
  refine s10 hh pv.st fun D i0 w2 h2 x2 => ?_
  refine s12 hh h2.ow.mem h2.ow.P0.pos fun v4 w4 f4 b4 e4 => ?_
  subst e4
  obtain ⟨h4, x4⟩ := h2.push f4 b4 (Nat.le_refl _)
  refine s11 hh h4 (by decide) (boxB b4 l64) ?_
  obtain ⟨d1, hp, hn, hf, hd⟩ := put1 l64
  rw [hp]
  intro i6 w6 h6 x6
  have hg : nget d1.now.names [97] = some 1 := by rw [hn]; rfl
  refine ⟨0, rfl, s18o hh h6 hg hd hf fun c9 w9 f9 l9 b9 => ?_⟩
  obtain ⟨h9, x9⟩ := h6.push f9 b9 l9
  refine ⟨_, _, rfl, s18o hh h9 hg hd hf fun c13 w13 f13 l13 b13 => ?_⟩
  obtain ⟨h13, x13⟩ := h9.push f13 b13 l13
  refine ⟨_, _, rfl, ?_⟩
  unfold be
  rw [show wi (wi (0 + 0) + 0) = 0 from by decide]
  refine ifT_f ?_
  have bx9 := (h13.ow.box (c9, .row (cellsOfBytes (fillB b))) (nth_mem (i := 7) rfl) rfl).1
  refine s19 hh (boxB bx9 l64) (boxB b13 l64) ⟨_, rfl, ?_⟩
  rw [show (fillB b == fillB b) = true by simp]
  refine ifT_f (gd_t rfl (gd_t rfl (gd_t rfl (h13.new' fun b20 w21 h21 x21 => ?_))))
  have nd : [b20, c13, c9, w2.size].Nodup := nd_tail (nd_tail (nd_tail (nd_tail (nd_tail (nd_tail h21.ow.nd)))))
  simp only [List.nodup_cons, List.mem_cons, List.not_mem_nil, or_false, not_or] at nd
  obtain ⟨⟨n1, n2, n3⟩, ⟨n4, n5⟩, n6, _⟩ := nd
  have bx20 := (h21.ow.box (b20, _) (nth_mem (i := 6) rfl) rfl)
  have bx13 := (h21.ow.box (c13, .row (cellsOfBytes (fillB b))) (nth_mem (i := 7) rfl) rfl)
  have bx9 := (h21.ow.box (c9, .row (cellsOfBytes (fillB b))) (nth_mem (i := 8) rfl) rfl)
  have bx4 := (h21.ow.box (w2.size, .row (cellsOfBytes (fillB b))) (nth_mem (i := 9) rfl) rfl)
  have p0 := h21.ow.pos
  have one : ∀ {c : Nat} {ex : Option Nat}, Box w21 c (cellsOfBytes (fillB b)) → (w.size ≤ c ∨ c ∈ []) → (ex = none ∨ ex = some 1) → BS 1 w21 (.slice c 0 64 64 ex) (fillB b) := fun hb hc hx => .inr ⟨_, _, by rw [l64], hx, hc.elim (fun h => by omega) (fun h => by cases h), hb⟩
  refine s23 hh h21.ow.mem h21.ow.P0.pos (vs := [.slice c9 0 64 64 (some 1), .slice c13 0 64 64 (some 1), .slice w2.size 0 64 64 none]) (ss := fun _ => fillB b) (by simp) bx20.1 (fun j hj => ?_) (fun _ _ => by rw [l64]; decide) (fun a c ha hc hac x hx => ?_) (fun j hj => ?_) fun w23 s23 m23 g23 => ?_
  · match j, hj with
    | 0, _ => exact one bx9.1 bx9.2.1 (.inr rfl)
    | 1, _ => exact one bx13.1 bx13.2.1 (.inr rfl)
    | 2, _ => exact one bx4.1 bx4.2.1 (.inl rfl)
  · match a, c, ha, hc with
    | 0, 0, _, _ => exact absurd rfl hac
    | 1, 1, _, _ => exact absurd rfl hac
    | 2, 2, _, _ => exact absurd rfl hac
    | 0, 1, _, _ => cases hx; exact fun e => n4 (by injection e)
    | 0, 2, _, _ => cases hx; exact fun e => n6 (by injection e with e; exact e.symm)
    | 1, 0, _, _ => cases hx; exact fun e => n4 (by injection e with e; exact e.symm)
    | 1, 2, _, _ => cases hx; exact fun e => n5 (by injection e with e; exact e.symm)
    | 2, 0, _, _ => cases hx; exact fun e => n6 (by injection e)
    | 2, 1, _, _ => cases hx; exact fun e => n5 (by injection e)
  · match j, hj with
    | 0, _ => exact fun e => n2 (by injection e with e; exact e.symm)
    | 1, _ => exact fun e => n1 (by injection e with e; exact e.symm)
    | 2, _ => exact fun e => n3 (by injection e with e; exact e.symm)
  obtain ⟨h23, x23⟩ := h21.spoil s23 m23 fun c hc hnc => g23 c hc fun j hj => by
    have hnc : c ∉ [b20, c13, c9, w2.size] := hnc
    simp only [List.mem_cons, List.not_mem_nil, or_false, not_or] at hnc
    match j, hj with
    | 0, _ => exact fun e => hnc.2.2.1 (by injection e with e; exact e.symm)
    | 1, _ => exact fun e => hnc.2.1 (by injection e with e; exact e.symm)
    | 2, _ => exact fun e => hnc.2.2.2 (by injection e with e; exact e.symm)
  refine ⟨_, rfl, ifT_f ?_⟩
  refine s18o hh h23 hg hd hf fun c26 w26 f26 l26 b26 => ?_
  obtain ⟨h26, x26⟩ := h23.push f26 b26 l26
  refine ⟨_, _, rfl, ?_⟩
  have hns : namesOf d1 = [[97]] := by unfold namesOf; rw [hn]; rfl
  have hsn : ∀ u ∈ d1.now.names, u.1.length ≤ 65536 := by rw [hn]; simp
  have hcn : d1.now.names.length ≤ 65536 := by rw [hn]; simp
  refine s24 hh h26 hsn hcn fun v29 w30 f30 _ k30 => ?_
  rw [hns] at k30
  obtain ⟨c30, l30, rfl, b30⟩ := k30 (by simp)
  obtain ⟨h30, x30⟩ := h26.push f30 b30 l30
  refine s24 hh h30 hsn hcn fun v31 w32 f32 _ k32 => ?_
  rw [hns] at k32
  obtain ⟨c32, l32, rfl, b32⟩ := k32 (by simp)
  obtain ⟨h32, x32⟩ := h30.push f32 b32 l32
  refine ⟨1, rfl, ifT_f ⟨1, rfl, ifT_f ?_⟩⟩
  refine idx0 (k := 0) (by simp) (h32.wr 1 rfl (by simp) fun w37 h37 x37 => ?_)
  refine ifT_t (s12 hh h37.ow.mem h37.ow.P0.pos fun v38 w39 f39 b39 e39 => ?_)
  subst e39
  obtain ⟨h39, x39⟩ := h37.push f39 b39 (Nat.le_refl _)
  have bx26 := (h39.ow.box (c26, .row (cellsOfBytes (fillB b))) (nth_mem (i := 9) rfl) rfl).1
  refine s19 hh (boxB bx26 l64) (boxB b39 l64) ⟨_, rfl, ?_⟩
  rw [show (fillB b == fillB b) = true by simp]
  refine ifT_t (idx0 (k := 0) (by simp) ⟨[97], h39.ow.ld 7 rfl rfl, ifT_t ?_⟩)
  exact Cl_hook (hh.awake _) ⟨_, rfl, rfl⟩
end Go.Proofs.Ytbjeebgdjlemjaa
