/-
  Crash and Copy of the disk, over memory, with its own blocks.
  No condition beyond those that each theorem names.
-/
import Derived.Test.YtdlogcincelccaaJ08
import Derived.Test.YtdlogcincelccaaSxy
set_option linter.unusedSimpArgs false
open Go.Sx
set_option linter.unusedVariables false
namespace Go.Proofs.Ytdlogcincelccaa
section
variable {hk : Hook} {A B : Nat → Prop} {I : List Nat} {w0 w w' : AW} {D : Nat} {i i' : DI} {d d' : Dsk} {k k' : Nat} {L L' : Obs} {K : AV → AW → Prop}
theorem own_or (h : Ow A I w0 w L) {b : Nat} {o : Ob} (hb : o.is w b) (h1 : w0.size ≤ b ∨ b ∈ I) (h2 : b ∉ ids L) (hA : A b) (hz : b ≠ 0) : Ow A I w0 w ((b, o) :: L) :=
  ⟨h.mem, h.pos, h.size, h.old, h.new, fun p hp hr => by
    rcases List.mem_cons.1 hp with rfl | hp
    · exact ⟨hb, h1, hA, hz⟩
    · exact h.box p hp hr, nd_cons h.nd fun _ => h2⟩
theorem ow_clone {es : List (AV × AV)} (st : Ow A I w0 w L) : ∃ w', w' = w.push (.map es 0) ∧ Ow A I w0 w' ((w.size, .map es) :: L) ∧ Xt (ids L) w (w.size :: ids L) w' :=
  ⟨_, rfl, st.push (p := (w.size, .map es)) rfl (Fr.push st.mem fun cs f own d e => (by cases e)) (Nat.le_refl _) ⟨0, by simp⟩⟩
set_option maxRecDepth 100000 in
theorem s65 {a n : Nat} {es : List (AV × AV)} (hh : HK hk) (st : Ow A I w0 w L) (ha : nth L a = some (n, .map es)) (hK : ∀ m w', Ow A I w0 w' ((m, .map es) :: L) → Xt (ids L) w (m :: ids L) w' → K (.map m) w') : Cl Try.prog hk 65 [.map n] w K := by
  apply in65 (hh.no _ _ _ (by decide) (by decide))
  unfold F65
  obtain ⟨cl, hg⟩ := (st.box _ (nth_mem ha) rfl).1
  obtain ⟨_, rfl, a1, a2⟩ := ow_clone (es := es) st
  exact ⟨false, by kernel_rfl, ifT_f (Cl_ext (hh.no _ _ _ (by decide) (by decide)) Try.func70 rfl (ext_clone hg) (onM_s (v := .map w.size) (by kernel_rfl) (hK _ _ a1 a2)))⟩
set_option maxRecDepth 100000 in
theorem s66 {a n : Nat} {es : List (AV × AV)} (hh : HK hk) (st : Ow A I w0 w L) (ha : nth L a = some (n, .map es)) (hK : ∀ m w', Ow A I w0 w' ((m, .map es) :: L) → Xt (ids L) w (m :: ids L) w' → K (.map m) w') : Cl Try.prog hk 66 [.map n] w K := by
  apply in66 (hh.no _ _ _ (by decide) (by decide))
  unfold F66
  obtain ⟨cl, hg⟩ := (st.box _ (nth_mem ha) rfl).1
  obtain ⟨_, rfl, a1, a2⟩ := ow_clone (es := es) st
  exact ⟨false, by kernel_rfl, ifT_f (Cl_ext (hh.no _ _ _ (by decide) (by decide)) Try.func70 rfl (ext_clone hg) (onM_s (v := .map w.size) (by kernel_rfl) (hK _ _ a1 a2)))⟩
theorem s47 {a b n f : Nat} {es es2 : List (AV × AV)} (hh : HK hk) (st : Ow A I w0 w L) (ha : nth L a = some (n, .map es)) (hb : nth L b = some (f, .map es2))
    (hK : ∀ n' f' w', Ow A I w0 w' ((f', .map es2) :: (n', .map es) :: L) → Xt (ids L) w (f' :: n' :: ids L) w' → K (.agg [.map n', .map f']) w') : Cl Try.prog hk 47 [.agg [.map n, .map f]] w K := by
  apply in47 (hh.no _ _ _ (by decide) (by decide))
  unfold F47
  refine gd_t rfl (st.new' fun b2 w3 st3 x3 => st3.new' fun b4 w5 st5 x5 => ?_)
  refine onM_s (st5.ld 1 rfl rfl) (onM_s (st5.ld 1 rfl rfl) ?_)
  refine s65 (a := a + 2) hh st5 ha fun n' w9 st9 x9 => ⟨st9.ld 2 rfl rfl, ?_⟩
  refine s66 (a := b + 3) hh st9 hb fun f' w11 st11 x11 => gd_t rfl (gd_t rfl (gd_t rfl ?_))
  refine st11.put 2 rfl (by simp) fun w12 st12 x12 => ⟨_, _, st12.ldN 2 rfl rfl rfl, ?_⟩
  obtain ⟨st13, x13⟩ := st12.front 2 rfl
  obtain ⟨st14, x14, _⟩ := st13.drop
  obtain ⟨st15, x15⟩ := st14.front 2 rfl
  obtain ⟨st16, x16, _⟩ := st15.drop
  exact hK n' f' w12 st16 (((((((x3.trans x5).trans x9).trans x11).trans x12).trans x13).trans x14).trans (x15.trans x16))
end
end Go.Proofs.Ytdlogcincelccaa
