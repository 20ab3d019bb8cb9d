/-
  Load, over memory.
  No condition beyond those that each theorem names.
-/
import Derived.Test.YtgobllfkiannfaaWS11
import Derived.Test.YtgobllfkiannfaaL11
set_option linter.unusedSimpArgs false
open Go.Sx
set_option linter.unusedVariables false
set_option linter.unusedSimpArgs false
namespace Go.Proofs.Ytgobllfkiannfaa
section
variable {hk : Hook} {A B : Nat → Prop} {I : List Nat} {w0 w w' : AW} {D S : Nat} {i i' : DI} {d d' : Dsk} {k k' : Nat} {L L' : Obs} {K : AV → AW → Prop} {nm t b : Byts} {N : Nms} {G : Int → List Byts} {bv ev : AV} {ef : Nat} {eo : Ob}
set_option maxRecDepth 20000 in
theorem s14 (hh : HK hk) (h : Dk A [] w0 w D i d k L) (hkk : k + 10000 < 2 ^ 27) (hbl : b.length ≤ 600) (hr : d.read nm = ((EX b).flatten, 0))
    (hK : ∀ c ex w', Dk A [] w0 w' D i d k L → Xt (dkU D i L) w (dkU D i L) w' → w.size ≤ c → Box w' c (cellsOfBytes b) → (ex = none ∨ ex = some 1) → K (.tup [.slice c 0 b.length b.length ex, .bool true, .int .i64 0]) w') : Cl Try.prog hk 14 [.ptr D 0, .str nm] w K := by
  apply in14 (hh.no _ _ _ (by decide) (by decide))
  unfold F14
  refine s44 hh h fun v3 w3 f3 hg3 => ?_
  obtain ⟨h3, x3⟩ := h.fr f3
  rw [hr]
  refine ⟨_, _, rfl, ifT_f (ifT_f ?_)⟩
  refine s10 hh h3 fun D2 i2 w7 h7 x7 => ?_
  refine s11 hh h7 ?_
  rw [if_neg (by decide)]
  intro i9 w9 h9 x9
  refine ⟨_, rfl, s45 hh h9 ?_⟩
  rw [if_neg (by decide)]
  intro i12 w12 h12 x12
  refine ⟨_, rfl, ?_⟩
  have hr2 : Dsk.read { ({ d with arm := wi (imin 1099511627776 4611686018427387904 + 1) } : Dsk) with fault := wi (imin 1099511627776 4611686018427387904 + 1), wth := 4 } nm = ((EX b).flatten, 0) := hr
  have ho := open_ex hbl hr2
  generalize ({ ({ d with arm := wi (imin 1099511627776 4611686018427387904 + 1) } : Dsk) with fault := wi (imin 1099511627776 4611686018427387904 + 1), wth := 4 } : Dsk) = d2 at *
  obtain ⟨k1, k2⟩ := kept_ex hbl
  have hex := flat_len (EX_sect b).l64
  have hfl := frame_length b
  have hel : (EX b).length = nsec (frame b) := (EX_sect b).len
  have hns : nsec (frame b) = (4 + b.length + 61) / 62 := by unfold nsec; rw [hfl]
  refine s22 hh h12 (by rw [hr2]; show (EX b).flatten.length ≤ _; omega) hkk (fun hne => absurd (by rw [ho]) hne) (fun _ S bs ev ef eo i15 w15 h15 x15 hbs hsv => ⟨_, _, rfl, ifT_f ?_⟩)
  rw [ho] at h15
  rw [hr2] at hbs hsv
  simp only at hbs hsv h15
  rw [k2] at hbs
  rw [k1, ends_frame hbl] at hsv
  have hrs := h15.ow.sv (i := 7) (f := ef) (o := eo) rfl hsv (by decide) (k := 1) rfl
  refine s46 (E := [(frame b).length]) hh (h15.ow.ld 6 rfl rfl) hrs ⟨_, rfl, ifT_f ?_⟩
  have hne : bs ≠ .nilslice := by
    rintro rfl
    have := hbs.len'
    simp only [lenS, Option.some.injEq, AV.int.injEq, true_and] at this
    omega
  have hbd : ((frame b).take (frame b).length).drop (0 + 4) = b := by rw [List.take_length]; rfl
  refine s47 (i0 := 0) (st := 0) (en := (frame b).length) (D := D2) (br := false) (es := [((frame b).length : Int)]) hh h15.ow.mem h15.ow.P0.pos (h15.ow.ld 6 rfl rfl) (h15.ow.ld 6 rfl rfl) (h15.ow.ld 6 rfl rfl) (h15.ow.ld 6 rfl rfl) hbs hrs hne (by simp) (by simp) rfl rfl (by omega) (Nat.le_refl _) (by omega) fun c ex w22 f22 hc bx hx => ?_
  rw [hbd] at bx ⊢
  obtain ⟨h22, x22⟩ := h15.fr f22
  have hs7 := x7.s; have hs9 := x9.s; have hs12 := x12.s; have hs15 := x15.s; have hs3 := x3.s
  have hz : Ow A [] w0 w22 ([_, _, _, _, _, _, (S, .row (segC D2 nm bs ev false)), (ef, eo)] ++ dkL D i d L) := h22.ow
  obtain ⟨st, xz⟩ := hz.spoil (Nat.le_refl _) h22.ow.mem fun _ _ _ => rfl
  have xx : Xt (dkU D i L) w (dkU D i L) w22 := ((((((x3.trans x7).trans x9).trans x12).trans x15).trans x22).trans xz)
  exact ⟨_, _, rfl, hK c ex w22 (h.x st xx) xx (by omega) bx hx⟩
end
end Go.Proofs.Ytgobllfkiannfaa
