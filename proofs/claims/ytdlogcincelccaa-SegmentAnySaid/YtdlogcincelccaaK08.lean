/-
  What Open and Append leave, purely.
  No condition beyond those that each theorem names.
-/
import Derived.Test.YtdlogcincelccaaW08
set_option linter.unusedSimpArgs false
open Go.Sx
set_option linter.unusedVariables false
set_option linter.unusedSimpArgs false
namespace Go.Proofs.Ytdlogcincelccaa
structure Sect (ss : List Byts) (b : Byts) : Prop where
  len : ss.length = nsec b
  ok : ∀ i (h : i < ss.length), SecOk b i ss[i]
theorem flat_len : ∀ {ss : List Byts}, (∀ s ∈ ss, s.length = 64) → ss.flatten.length = ss.length * 64
  | [], _ => rfl
  | s :: ss, h => by
    rw [List.flatten_cons, List.length_append, h s List.mem_cons_self, flat_len fun t ht => h t (List.mem_cons_of_mem _ ht), List.length_cons]; omega
theorem Sect.l64 {ss : List Byts} {b : Byts} (h : Sect ss b) : ∀ s ∈ ss, s.length = 64 := fun s hs => by
  obtain ⟨i, hi, rfl⟩ := List.getElem_of_mem hs
  exact (h.ok i hi).1
theorem Sect.stream {ss : List Byts} {b : Byts} (h : Sect ss b) : Ytdlogcincelccaa.stream ss.flatten = b := by
  unfold Ytdlogcincelccaa.stream
  have := flat_len h.l64
  exact stream_of ss b _ (by omega) h.len h.ok
theorem flat_inj : ∀ {ss tt : List Byts}, (∀ s ∈ ss, s.length = 64) → (∀ s ∈ tt, s.length = 64) → ss.flatten = tt.flatten → ss = tt
  | [], [], _, _, _ => rfl
  | [], t :: tt, _, h, e => by
    have := congrArg List.length e
    rw [List.flatten_cons, List.length_append, h t List.mem_cons_self] at this
    simp at this; omega
  | s :: ss, [], h, _, e => by
    have := congrArg List.length e
    rw [List.flatten_cons, List.length_append, h s List.mem_cons_self] at this
    simp at this
  | s :: ss, t :: tt, h, h', e => by
    rw [List.flatten_cons, List.flatten_cons] at e
    obtain ⟨e1, e2⟩ := List.append_inj e (by rw [h s List.mem_cons_self, h' t List.mem_cons_self])
    rw [e1, flat_inj (fun x hx => h x (List.mem_cons_of_mem _ hx)) (fun x hx => h' x (List.mem_cons_of_mem _ hx)) e2]
theorem Sect.map (b : Byts) : Sect ((List.range (nsec b)).map (sector b)) b := ⟨by simp, fun i h => by simp; exact sector_ok b i⟩
section
variable {d : Dsk} {nm : Byts} {f : Int} {ss : List Byts}
theorem kept_le {fb : Byts} : (kept fb).length ≤ (stream fb).length := by unfold kept; simp; omega
theorem open_ok (hn : named nm = true) (h : Fl d nm f ss) (h64 : ∀ s ∈ ss, s.length = 64) (hl : ss.length ≤ 4095) : ∃ d' ss', openD nm d = (d', 0) ∧ Fl d' nm f ss' ∧ Sect ss' (kept ss.flatten) := by
  unfold openD
  rw [h.read]
  simp only []
  rw [if_neg (by simp)]
  have hfl := flat_len h64
  by_cases hc : clean (kept ss.flatten) = ss.flatten
  · rw [if_pos (by simpa using hc)]
    refine ⟨d, ss, rfl, h, ?_⟩
    have e : (List.range (nsec (kept ss.flatten))).map (sector (kept ss.flatten)) = ss := flat_inj (fun s hs => by
      obtain ⟨i, _, rfl⟩ := List.mem_map.1 hs
      exact sector_length _ _) h64 hc
    have := Sect.map (kept ss.flatten)
    rw [e] at this
    exact this
  · rw [if_neg (by simpa using hc)]
    have hk := kept_le (fb := ss.flatten)
    have hst : (stream ss.flatten).length ≤ ss.flatten.length := streamN_length _ _
    have hkt : kept ss.flatten = (stream ss.flatten).take (sizeE (ends (stream ss.flatten))) := rfl
    have hkl : (kept ss.flatten).length = sizeE (ends (stream ss.flatten)) := (ends_take (stream ss.flatten)).2
    have hsec : ∀ i, (i + 1) * 62 ≤ (kept ss.flatten).length → ∃ g : i < ss.length, SecOk (kept ss.flatten) i ss[i] := fun i hi => by
      obtain ⟨g1, g2⟩ := stream_sec ss (ss.flatten.length / 64 + 1) i h64 (Nat.le_trans hi hk)
      exact ⟨g1, by rw [hkt]; exact SecOk.take g2 (by rw [← hkl]; exact hi)⟩
    generalize hB : kept ss.flatten = B at *
    have hfr : B.length / 62 ≤ ss.length := by
      cases hq : B.length / 62 with
      | zero => exact Nat.zero_le _
      | succ q =>
        obtain ⟨g, _⟩ := hsec q (by omega)
        omega
    have hnB : nsec B ≤ 4096 := by unfold nsec; omega
    have hfn : B.length / 62 ≤ nsec B := by unfold nsec; omega
    obtain ⟨d1, s1, p1, p2, p3, p4, p5⟩ := Fl.puts hn (b := B) (nsec B - B.length / 62) (B.length / 62) d ss h hfr (by omega)
    rw [show B.length / 62 + (nsec B - B.length / 62) = nsec B by omega] at p3 p5
    obtain ⟨d2, c1, c2⟩ := p2.cut (n := nsec B) (by rw [p3]; omega)
    obtain ⟨d3, y1, y2, _⟩ := c2.sync
    unfold trimD
    rw [p1]
    simp only []
    rw [if_neg (by simp), c1]
    simp only []
    rw [if_neg (by simp), y1]
    refine ⟨d3, _, rfl, y2, ⟨by simp; omega, fun i hi => ?_⟩⟩
    have hi' : i < nsec B := by simp at hi; omega
    have e0 : (s1.take (nsec B))[i]? = s1[i]? := by rw [List.getElem?_take, if_pos hi']
    have key : ∀ x, s1[i]? = some x → SecOk B i x → SecOk B i (s1.take (nsec B))[i] := fun x hx hs => by
      have : (s1.take (nsec B))[i]? = some x := e0.trans hx
      rw [List.getElem?_eq_getElem hi] at this
      cases this; exact hs
    by_cases hif : i < B.length / 62
    · obtain ⟨g, hs⟩ := hsec i (by omega)
      exact key _ ((p4 i hif).trans (List.getElem?_eq_getElem g)) hs
    · exact key _ (p5 i (by omega) hi') (sector_ok B i)
theorem app_ok (hn : named nm = true) {B t : Byts} (h : Fl d nm f ss) (hs : Sect ss B) (hl : B.length + (4 + t.length) ≤ 253952) :
    ∃ d' ss', puts nm (B ++ frame t) (nsec (B ++ frame t) - B.length / 62) (B.length / 62) d = (d', 0) ∧ Fl d' nm f ss' ∧ Sect ss' (B ++ frame t) := by
  have hbl : (B ++ frame t).length = B.length + (4 + t.length) := by rw [List.length_append, frame_length]
  have hlen := hs.len
  have n1 : nsec B ≤ nsec (B ++ frame t) := by unfold nsec; omega
  have n2 : nsec (B ++ frame t) ≤ 4096 := by unfold nsec; omega
  have n3 : B.length / 62 ≤ nsec B := by unfold nsec; omega
  obtain ⟨d1, s1, p1, p2, p3, p4, p5⟩ := Fl.puts hn (b := B ++ frame t) (nsec (B ++ frame t) - B.length / 62) (B.length / 62) d ss h (by omega) (by omega)
  rw [show B.length / 62 + (nsec (B ++ frame t) - B.length / 62) = nsec (B ++ frame t) by omega] at p3 p5
  refine ⟨d1, s1, p1, p2, ⟨by omega, fun i hi => ?_⟩⟩
  have key : ∀ x, s1[i]? = some x → SecOk (B ++ frame t) i x → SecOk (B ++ frame t) i s1[i] := fun x hx hs => by
    rw [List.getElem?_eq_getElem hi] at hx
    cases hx; exact hs
  by_cases hif : i < B.length / 62
  · have g : i < ss.length := by omega
    exact key _ ((p4 i hif).trans (List.getElem?_eq_getElem g)) ((hs.ok i g).app (by omega))
  · exact key _ (p5 i (by omega) (by omega)) (sector_ok _ i)
theorem app_first (hn : named nm = true) {t : Byts} (hl : 4 + t.length ≤ 253952) :
    ∃ d' ss', puts nm ([] ++ frame t) (nsec ([] ++ frame t) - ([] : Byts).length / 62) (([] : Byts).length / 62) Dsk.none = (d', 0) ∧ Fl d' nm 1 ss' ∧ Sect ss' ([] ++ frame t) := by
  have hbl : ([] ++ frame t : Byts).length = 4 + t.length := by rw [List.nil_append, frame_length]
  generalize hB : ([] ++ frame t : Byts) = B at *
  have n2 : nsec B ≤ 4096 := by unfold nsec; omega
  obtain ⟨m, hm⟩ : ∃ m, nsec B = m + 1 := ⟨nsec B - 1, by unfold nsec; omega⟩
  obtain ⟨d0, q1, q2⟩ := Fl.first hn (sector_length B 0)
  obtain ⟨d1, s1, p1, p2, p3, p4, p5⟩ := Fl.puts hn (b := B) m 1 d0 _ q2 (by simp) (by omega)
  have e : puts nm B (nsec B - ([] : Byts).length / 62) (([] : Byts).length / 62) Dsk.none = (d1, 0) := by
    show puts nm B (nsec B) 0 Dsk.none = _
    rw [hm]
    show (if (Dsk.none.put nm ((0 : Nat) : Int) (sector B 0)).2 ≠ 0 then Dsk.none.put nm ((0 : Nat) : Int) (sector B 0) else puts nm B m 1 (Dsk.none.put nm ((0 : Nat) : Int) (sector B 0)).1) = _
    rw [q1]; exact p1
  refine ⟨d1, s1, e, p2, ⟨by rw [p3]; simp; omega, fun i hi => ?_⟩⟩
  have hi' : i < 1 + m := by rw [p3] at hi; simp at hi; omega
  have key : ∀ x, s1[i]? = some x → SecOk B i x → SecOk B i s1[i] := fun x hx hs => by
    rw [List.getElem?_eq_getElem hi] at hx
    cases hx; exact hs
  by_cases hif : i < 1
  · obtain rfl : i = 0 := by omega
    exact key _ ((p4 0 (by omega)).trans rfl) (sector_ok B 0)
  · exact key _ (p5 i (by omega) (by omega)) (sector_ok B i)
end
end Go.Proofs.Ytdlogcincelccaa
