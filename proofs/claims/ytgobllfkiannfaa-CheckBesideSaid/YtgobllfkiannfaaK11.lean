/-
  What Open and Append leave, purely.
  No condition beyond those that each theorem names.
-/
import Derived.Test.YtgobllfkiannfaaW11
set_option linter.unusedSimpArgs false
open Go.Sx
set_option linter.unusedVariables false
set_option linter.unusedSimpArgs false
namespace Go.Proofs.Ytgobllfkiannfaa
structure Sect (ss : List Byts) (b : Byts) : Prop where
  len : ss.length = nsec b
  ok : ∀ i (h : i < ss.length), SecOk b i ss[i]
theorem flat_len : ∀ {ss : List Byts}, (∀ s ∈ ss, s.length = 64) → ss.flatten.length = ss.length * 64
  | [], _ => rfl
  | s :: ss, h => by
    rw [List.flatten_cons, List.length_append, h s List.mem_cons_self, flat_len fun t ht => h t (List.mem_cons_of_mem _ ht), List.length_cons]; omega
theorem Sect.l64 {ss : List Byts} {b : Byts} (h : Sect ss b) : ∀ s ∈ ss, s.length = 64 := fun s hs => by
  obtain ⟨i, hi, rfl⟩ := List.getElem_of_mem hs
  exact (h.ok i hi).1
theorem Sect.stream {ss : List Byts} {b : Byts} (h : Sect ss b) : Ytgobllfkiannfaa.stream ss.flatten = b := by
  unfold Ytgobllfkiannfaa.stream
  have := flat_len h.l64
  exact stream_of ss b _ (by omega) h.len h.ok
theorem flat_inj : ∀ {ss tt : List Byts}, (∀ s ∈ ss, s.length = 64) → (∀ s ∈ tt, s.length = 64) → ss.flatten = tt.flatten → ss = tt
  | [], [], _, _, _ => rfl
  | [], t :: tt, _, h, e => by
    have := congrArg List.length e
    rw [List.flatten_cons, List.length_append, h t List.mem_cons_self] at this
    simp at this; omega
  | s :: ss, [], h, _, e => by
    have := congrArg List.length e
    rw [List.flatten_cons, List.length_append, h s List.mem_cons_self] at this
    simp at this
  | s :: ss, t :: tt, h, h', e => by
    rw [List.flatten_cons, List.flatten_cons] at e
    obtain ⟨e1, e2⟩ := List.append_inj e (by rw [h s List.mem_cons_self, h' t List.mem_cons_self])
    rw [e1, flat_inj (fun x hx => h x (List.mem_cons_of_mem _ hx)) (fun x hx => h' x (List.mem_cons_of_mem _ hx)) e2]
theorem Sect.map (b : Byts) : Sect ((List.range (nsec b)).map (sector b)) b := ⟨by simp, fun i h => by simp; exact sector_ok b i⟩
section
variable {d : Dsk} {nm : Byts} {f : Int} {ss : List Byts}
theorem kept_le {fb : Byts} : (kept fb).length ≤ (stream fb).length := by unfold kept; simp; omega
end
end Go.Proofs.Ytgobllfkiannfaa
