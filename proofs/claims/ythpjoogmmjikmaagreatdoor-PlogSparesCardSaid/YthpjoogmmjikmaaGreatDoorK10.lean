/-
  What Open and Append leave, purely.
  No condition beyond those that each theorem names.
-/
import Derived.Test.YthpjoogmmjikmaaGreatDoorW10
set_option linter.unusedSimpArgs false
open Go.Sx
set_option linter.unusedVariables false
set_option linter.unusedSimpArgs false
namespace Go.Proofs.YthpjoogmmjikmaaGreatDoor
structure Sect (ss : List Byts) (b : Byts) : Prop where
  len : ss.length = nsec b
  ok : ∀ i (h : i < ss.length), SecOk b i ss[i]
theorem flat_len : ∀ {ss : List Byts}, (∀ s ∈ ss, s.length = 64) → ss.flatten.length = ss.length * 64
  | [], _ => rfl
  | s :: ss, h => by
    rw [List.flatten_cons, List.length_append, h s List.mem_cons_self, flat_len fun t ht => h t (List.mem_cons_of_mem _ ht), List.length_cons]; omega
theorem Sect.l64 {ss : List Byts} {b : Byts} (h : Sect ss b) : ∀ s ∈ ss, s.length = 64 := fun s hs => by
  obtain ⟨i, hi, rfl⟩ := List.getElem_of_mem hs
  exact (h.ok i hi).1
theorem Sect.stream {ss : List Byts} {b : Byts} (h : Sect ss b) : YthpjoogmmjikmaaGreatDoor.stream ss.flatten = b := by
  unfold YthpjoogmmjikmaaGreatDoor.stream
  have := flat_len h.l64
  exact stream_of ss b _ (by omega) h.len h.ok
theorem Sect.map (b : Byts) : Sect ((List.range (nsec b)).map (sector b)) b := ⟨by simp, fun i h => by simp; exact sector_ok b i⟩
section
variable {d : Dsk} {nm : Byts} {f : Int} {ss : List Byts}
theorem app_first (hn : named nm = true) {t : Byts} (hl : 4 + t.length ≤ 253952) :
    ∃ d' ss', puts nm ([] ++ frame t) (nsec ([] ++ frame t) - ([] : Byts).length / 62) (([] : Byts).length / 62) Dsk.none = (d', 0) ∧ Fl d' nm 1 ss' ∧ Sect ss' ([] ++ frame t) := by
  have hbl : ([] ++ frame t : Byts).length = 4 + t.length := by rw [List.nil_append, frame_length]
  generalize hB : ([] ++ frame t : Byts) = B at *
  have n2 : nsec B ≤ 4096 := by unfold nsec; omega
  obtain ⟨m, hm⟩ : ∃ m, nsec B = m + 1 := ⟨nsec B - 1, by unfold nsec; omega⟩
  obtain ⟨d0, q1, q2⟩ := Fl.first hn (sector_length B 0)
  obtain ⟨d1, s1, p1, p2, p3, p4, p5⟩ := Fl.puts hn (b := B) m 1 d0 _ q2 (by simp) (by omega)
  have e : puts nm B (nsec B - ([] : Byts).length / 62) (([] : Byts).length / 62) Dsk.none = (d1, 0) := by
    show puts nm B (nsec B) 0 Dsk.none = _
    rw [hm]
    show (if (Dsk.none.put nm ((0 : Nat) : Int) (sector B 0)).2 ≠ 0 then Dsk.none.put nm ((0 : Nat) : Int) (sector B 0) else puts nm B m 1 (Dsk.none.put nm ((0 : Nat) : Int) (sector B 0)).1) = _
    rw [q1]; exact p1
  refine ⟨d1, s1, e, p2, ⟨by rw [p3]; simp; omega, fun i hi => ?_⟩⟩
  have hi' : i < 1 + m := by rw [p3] at hi; simp at hi; omega
  have key : ∀ x, s1[i]? = some x → SecOk B i x → SecOk B i s1[i] := fun x hx hs => by
    rw [List.getElem?_eq_getElem hi] at hx
    cases hx; exact hs
  by_cases hif : i < 1
  · obtain rfl : i = 0 := by omega
    exact key _ ((p4 0 (by omega)).trans rfl) (sector_ok B 0)
  · exact key _ (p5 i (by omega) (by omega)) (sector_ok B i)
end
end Go.Proofs.YthpjoogmmjikmaaGreatDoor
