/-
  Copy, and the calls out of numbers, over memory.
  No condition beyond those that each theorem names.
-/
import Derived.Test.YtbjeebgdjlemjaaW07
set_option linter.unusedSimpArgs false
open Go.Sx
set_option linter.unusedVariables false
namespace Go.Proofs.Ytbjeebgdjlemjaa

section
variable {hk : Hook} {X : List Nat} {w w0 : AW} {D n1 f1 n2 f2 : Nat} {sv : AV} {d : Dsk} {k : Nat} {K : AV → AW → Prop}

/-- slices.Clone of steps. -/
theorem s52 {v : AV} {l : List Stp} (hh : HK hk) (hm : Mem w) (hw : 0 < w.size) (h : Gc (· ∈ X) 69 w v (stpsC l)) (hl : ∀ x ∈ l, x.data.length = 64) (hs : l.length < 2 ^ 28) (hK : ∀ v' w', Fr w.size w w' → Gc (w.size ≤ ·) 69 w' v' (stpsC l) → K v' w') : Cl Try.prog hk 52 [v] w K := by
  apply in52 (hh.no _ _ _ (by decide) (by decide))
  unfold F52
  have hcl := stpsC_length hl
  have hr := h.rs (by decide) hcl
  by_cases hv : v = .nilslice
  · subst hv
    have : stpsC l = [] := by
      rcases h with ⟨_, h⟩ | ⟨b, f, n, ex, o, d, h, _⟩
      · exact h
      · cases h
    rw [this] at hK
    exact ⟨true, by kernel_rfl, ifT_t (hK _ _ (Fr.refl hm) Gc.nil)⟩
  · have hsl : ∃ b o n cap ex, v = .slice b o n cap ex := by
      rcases h with ⟨h, _⟩ | ⟨b, f, n, ex, o, d, h, _⟩
      · exact absurd h hv
      · exact ⟨b, 0, _, n, ex, h⟩
    obtain ⟨b, o, n, cap, ex, rfl⟩ := hsl
    refine ⟨false, by kernel_rfl, ifT_f (new_of hm fun w3 f3 b3 z3 => ?_)⟩
    have h0 : Gc (w.size ≤ ·) 69 w3 (.slice w.size 0 0 0 none) [] := .inr ⟨w.size, w.size, 0, none, w.size, false, rfl, by simp, .inl rfl, Nat.le_refl _, by omega, b3, AW.root?_iff.2 ⟨_, b3, rfl⟩⟩
    refine h0.app f3.mem (by show w.size ≤ w3.size; omega) (by omega) (by decide) (hr.fr hm f3 (Nat.le_refl _)) (by simp; omega) (by simp; omega) fun v' w5 hg hgr _ => hK v' w5 ?_ (by simpa using hg)
    exact f3.trans ⟨hgr.size, fun c hc => hgr.old c (by omega) (by show ¬ w.size ≤ c; omega), hgr.mem⟩ (Nat.le_refl _)

/-- Copy. -/
theorem s22 (hh : HK hk) (hm : Mem w) (hw : 0 < w.size) (h : DkM X w D n1 f1 n2 f2 sv d) (hV : d.V k) (hkk : k < 2 ^ 27)
    (hK : ∀ D' n1' f1' n2' f2' sv' X' w', Fr w.size w w' → (∀ x ∈ X', w.size ≤ x) → DkM X' w' D' n1' f1' n2' f2' sv' d → K (.ptr D' 0) w') : Cl Try.prog hk 22 [.ptr D 0] w K := by
  apply in22 (hh.no _ _ _ (by decide) (by decide))
  unfold F22
  refine s47 hh h.box ⟨false, rfl, ifT_f ?_⟩
  simp only [onP]
  refine ⟨_, _, by rw [h.box.ldN (by simp [Dsk.cells])]; rfl, _, _, by rw [h.box.ldN (by simp [Dsk.cells])]; rfl, onM_s (v := sv) (by rw [h.box.ld]; rfl) ⟨d.last, by rw [h.box.ld]; rfl, d.down, by rw [h.box.ld]; rfl, d.wth, by rw [h.box.ld]; rfl, ?_⟩⟩
  refine s50 hh hm hw h.N1 h.F1 fun n1' f1' w25 fr25 a1 a2 a3 a4 a5 N1 F1 => ⟨_, _, rfl, ?_⟩
  have hs25 := fr25.size
  have h25 := h.fr hm fr25
  refine ⟨by rw [h25.box.ld]; rfl, by rw [h25.box.ld]; rfl, by rw [h25.box.ld]; rfl, by rw [h25.box.ld]; rfl, by rw [h25.box.ldN (by simp [Dsk.cells])]; rfl, ?_⟩
  refine s50 hh fr25.mem (by omega) h25.N2 h25.F2 fun n2' f2' w29 fr29 b1 b2 b3 b4 b5 N2 F2 => ⟨_, _, rfl, ?_⟩
  have hs29 := fr29.size
  have h29 := h25.fr fr25.mem fr29
  refine ⟨by rw [h29.box.ld]; rfl, by rw [h29.box.ld]; rfl, by rw [h29.box.ld]; rfl, by rw [h29.box.ld]; rfl, ?_⟩
  have hsl := hV.steps
  refine s52 hh fr29.mem (by omega) h29.st h29.sd (by omega) fun sv' w33 fr33 hg33 => ?_
  have hs33 := fr33.size
  have h33 := h29.fr fr29.mem fr33
  refine gd_t hg33.ok (gd_t (by simp only [List.all_cons, List.all_nil, hg33.ok]; rfl) (new_of fr33.mem fun w35 fr35 b35 z35 => ?_))
  have h35 := h33.fr fr33.mem fr35
  refine ⟨by rw [h35.box.ld]; rfl, by rw [h35.box.ld]; rfl, by rw [h35.box.ld]; rfl, ?_⟩
  have f35 : Fr w.size w w35 := ((fr25.trans fr29 hs25).trans fr33 (by omega)).trans fr35 (by omega)
  -- the copy, not armed yet
  let Xc : List Nat := [w33.size, n1', f1', n2', f2'] ++ List.range' w29.size (w33.size - w29.size)
  have gk : ∀ {c : Nat}, c < w25.size → w35.get c = w25.get c := fun {c} hc => ((fr29.trans fr33 hs29).trans fr35 (by omega)).old c hc
  have ck : ∀ b bs, w25.cells? b = some (cellsOfBytes bs) → w35.cells? b = some (cellsOfBytes bs) := fun b bs hb => ((fr29.trans fr33 hs29).trans fr35 (by omega)).cells fr25.mem hb (Nat.le_refl _)
  have gk2 : ∀ {c : Nat}, c < w29.size → w35.get c = w29.get c := fun {c} hc => (fr33.trans fr35 hs33).old c hc
  have ck2 : ∀ b bs, w29.cells? b = some (cellsOfBytes bs) → w35.cells? b = some (cellsOfBytes bs) := fun b bs hb => (fr33.trans fr35 hs33).cells fr29.mem hb (Nat.le_refl _)
  have hgX : Gc (· ∈ Xc) 69 w33 sv' (stpsC d.steps) := by
    rcases hg33 with hg | ⟨b, f, n, ex, o, dd, e, q1, q2, q3, q4, q5, q6⟩
    · exact .inl hg
    · obtain ⟨c0, hc0, _⟩ := AW.root?_iff.1 q6
      have hfl : f < w33.size := fr33.mem.lt _ _ hc0
      have q3 : w29.size ≤ f := q3
      refine .inr ⟨b, f, n, ex, o, dd, e, q1, q2, ?_, q4, q5, q6⟩
      simp only [Xc, List.mem_append, List.mem_range'_1]
      right; omega
  have hc35 : DkM Xc w35 w33.size n1' f1' n2' f2' sv' { d with arm := 0, fault := 0 } := by
    refine ⟨by omega, b35, N1.fr (gk a4), F1.mono (gk a5) ck, N2.fr (gk2 b4), F2.mono (gk2 b5) ck2, by omega, hgX.fr fr33.mem fr35, h.sd, by simp [Xc]⟩
  refine s53 hh (n := d.arm) (by rw [h35.box.ld]; rfl) ⟨_, rfl, ?_⟩
  refine s51 hh (hc35.put (o := 8) (d' := { d with fault := 0 }) fr35.mem (by simp) rfl rfl rfl rfl fun w42 t42 z42 h42 => ⟨rfl, ?_⟩)
  have hD : D < w.size := (h.lt hm).1
  have f42 : Fr w.size w w42 := f35.trans (t42.ch.fr (n := w.size) (by omega) (by simp; omega)) (Nat.le_refl _)
  have h42d := h.fr hm f42
  refine s53 hh (n := d.fault) (by rw [h42d.box.ld]; rfl) ⟨_, rfl, ?_⟩
  refine s51 hh (h42.put (o := 9) (d' := d) t42.ch.mem (by simp) rfl rfl rfl rfl fun w49 t49 z49 h49 => ⟨rfl, ?_⟩)
  refine hK _ _ _ _ _ _ Xc w49 (f42.trans (t49.ch.fr (n := w.size) (by omega) (by simp; omega)) (Nat.le_refl _)) (fun x hx => ?_) h49
  simp only [Xc, List.mem_append, List.mem_range'_1, List.mem_cons, List.not_mem_nil, or_false] at hx
  omega
end
end Go.Proofs.Ytbjeebgdjlemjaa
