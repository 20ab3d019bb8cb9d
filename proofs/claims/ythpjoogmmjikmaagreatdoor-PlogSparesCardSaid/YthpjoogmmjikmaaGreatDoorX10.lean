/-
  A disk with one file and no faults, purely.
  No condition beyond those that each theorem names.
-/
import Derived.Test.YthpjoogmmjikmaaGreatDoorY10
set_option linter.unusedSimpArgs false
open Go.Sx
set_option linter.unusedVariables false
set_option linter.unusedSimpArgs false
namespace Go.Proofs.YthpjoogmmjikmaaGreatDoor
def Qu (d : Dsk) : Prop := d.down = false ∧ d.arm = 0 ∧ d.fault = 0
theorem qu_stopped {d : Dsk} (h : Qu d) : d.stopped = (d, 0) := by
  obtain ⟨h1, h2, h3⟩ := h
  obtain ⟨a, b, c, l, dn, ar, fa, wt⟩ := d
  simp only at h1 h2 h3
  subst h1; subst h2; subst h3
  rfl
theorem qu_more {d : Dsk} (h : Qu d) (l : List Stp) : d.more l = ({ d with steps := d.steps ++ l, now := l.foldl FS.does d.now }, 0) := by
  unfold Dsk.more
  rw [qu_stopped h]; simp
structure Fl (d : Dsk) (nm : Byts) (f : Int) (ss : List Byts) : Prop where
  qt : Qu d
  names : d.now.names = [(nm, f)]
  file : d.now.files f = ss
  now : d.steps.foldl FS.does d.safe = d.now
  st : ∀ (i : Nat) (x : Stp), d.steps[i]? = some x → x.file = f ∧ (x.what = 1 ∨ x.what = 2 ∨ (x.what = 0 ∧ i = 0))
section
variable {d : Dsk} {nm : Byts} {f : Int} {ss : List Byts}
theorem Fl.get (h : Fl d nm f ss) : nget d.now.names nm = some f := by rw [h.names]; simp [nget]
theorem Fl.read (h : Fl d nm f ss) : d.read nm = (ss.flatten, 0) := by
  unfold Dsk.read
  rw [h.get]
  simp [h.qt.1, h.file]
theorem st_snoc {l : List Stp} {x : Stp} (h : ∀ (i : Nat) (x : Stp), l[i]? = some x → x.file = f ∧ (x.what = 1 ∨ x.what = 2 ∨ (x.what = 0 ∧ i = 0))) (hx : x.file = f ∧ (x.what = 1 ∨ x.what = 2)) : ∀ (i : Nat) (y : Stp), (l ++ [x])[i]? = some y → y.file = f ∧ (y.what = 1 ∨ y.what = 2 ∨ (y.what = 0 ∧ i = 0)) := by
  intro i y hy
  rw [List.getElem?_append] at hy
  split at hy
  · exact h i y hy
  · rename_i hi
    cases hq : i - l.length with
    | zero =>
      rw [hq] at hy
      simp at hy
      subst hy
      exact ⟨hx.1, hx.2.elim .inl fun h => .inr (.inl h)⟩
    | succ n => rw [hq] at hy; simp at hy
theorem Fl.put (h : Fl d nm f ss) (hn : named nm = true) {j : Nat} {data : Byts} (hl : data.length = 64) (hj : j ≤ ss.length) (hj2 : j < 4096) : ∃ d', d.put nm j data = (d', 0) ∧ Fl d' nm f (putS ss j data) := by
  unfold Dsk.put
  simp only [h.get, hn, hl, Option.getD_some, h.file]
  rw [if_neg (by simp; omega), if_neg (by simp; omega), qu_more h.qt]
  refine ⟨_, rfl, h.qt, ?_, ?_, ?_, st_snoc h.st ⟨rfl, .inl rfl⟩⟩
  · simp [FS.does, h.names]
  · simp [FS.does, updF, h.file]
  · simp only [List.foldl_append, h.now]
theorem Fl.cut (h : Fl d nm f ss) {n : Nat} (hn : n ≤ ss.length) : ∃ d', d.cut nm n = (d', 0) ∧ Fl d' nm f (ss.take n) := by
  unfold Dsk.cut
  simp only [h.get, h.file]
  rw [if_neg (by omega), qu_more h.qt]
  refine ⟨_, rfl, h.qt, ?_, ?_, ?_, st_snoc h.st ⟨rfl, .inr rfl⟩⟩
  · simp [FS.does, h.names]
  · simp [FS.does, updF, h.file]
  · simp only [List.foldl_append, h.now]
theorem settle_all {so : Nat → Stp → Bool} : ∀ (l : List Stp) (i : Nat) (s : FS), (∀ j x, l[j]? = some x → so (i + j) x = true) → settleL so i l s = (l.foldl FS.does s, [])
  | [], _, _, _ => rfl
  | x :: l, i, s, h => by
    have h0 := h 0 x rfl
    rw [Nat.add_zero] at h0
    show (if so i x then settleL so (i + 1) l (s.does x) else _) = _
    rw [h0, if_pos rfl, settle_all l (i + 1) _ fun j y hy => by have := h (j + 1) y hy; rw [show i + 1 + j = i + (j + 1) by omega]; exact this]
    rfl
theorem Fl.sync (h : Fl d nm f ss) : ∃ d', d.sync nm = (d', 0) ∧ Fl d' nm f ss ∧ d'.steps = [] := by
  unfold Dsk.sync
  rw [h.get]
  simp only []
  unfold Dsk.settle
  rw [qu_stopped h.qt]
  rw [settle_all d.steps 0 d.safe fun j x hx => by
    obtain ⟨g1, g2⟩ := h.st j x hx
    rw [Nat.zero_add]
    rcases g2 with g2 | g2 | ⟨g2, rfl⟩
    · rw [if_pos (.inl g2)]; simpa using g1
    · rw [if_pos (.inr g2)]; simpa using g1
    · rw [if_neg (by rw [g2]; decide)]
      have : upto f d.steps = 0 := by
        cases hs : d.steps with
        | nil => rw [hs] at hx; simp at hx
        | cons y l =>
          rw [hs] at hx
          simp at hx
          subst hx
          unfold upto
          rw [List.findIdx?_cons]
          simp [g1, g2]
      rw [this]; simp]
  rw [if_neg (by simp)]
  exact ⟨_, rfl, ⟨h.qt, h.names, h.file, h.now, fun i x hx => by simp at hx⟩, rfl⟩
theorem Fl.crash (h : Fl d nm f ss) (hs : d.steps = []) (keep : List Bool) : Fl (d.crash keep) nm f ss ∧ (d.crash keep).steps = [] := by
  have hn : d.safe = d.now := by have := h.now; rw [hs] at this; exact this
  unfold Dsk.crash
  rw [hs]
  refine ⟨⟨⟨rfl, rfl, rfl⟩, ?_, ?_, rfl, fun i x hx => by simp at hx⟩, rfl⟩
  · show d.safe.names = _
    rw [hn]; exact h.names
  · show heldF d.safe f = ss
    unfold heldF
    rw [hn, h.names, if_pos (by simp)]
    exact h.file
theorem Fl.first (hn : named nm = true) {data : Byts} (hl : data.length = 64) : ∃ d', Dsk.none.put nm ((0 : Nat) : Int) data = (d', 0) ∧ Fl d' nm 1 [data] := by
  unfold Dsk.put
  simp only [Dsk.none, FS.none, nget, hn, hl]
  refine ⟨_, by simp [Dsk.more, Dsk.stopped, spent]; rfl, ⟨rfl, rfl, rfl⟩, ?_, ?_, ?_, fun i x hx => ?_⟩
  · simp [FS.does, nset]
  · simp [FS.does, nset, updF, putS]
  · rfl
  · match i with
    | 0 => simp at hx; subst hx; exact ⟨rfl, .inr (.inr ⟨rfl, rfl⟩)⟩
    | 1 => simp at hx; subst hx; exact ⟨rfl, .inl rfl⟩
    | i + 2 => simp at hx
theorem putS_get {ss : List Byts} {j : Nat} {x : Byts} (hj : j ≤ ss.length) : (putS ss j x).length = max ss.length (j + 1) ∧ (∀ i, i < j → (putS ss j x)[i]? = ss[i]?) ∧ (putS ss j x)[j]? = some x := by
  unfold putS
  refine ⟨by simp; omega, fun i hi => ?_, ?_⟩
  · rw [List.getElem?_set_ne (by omega), List.getElem?_append_left (by omega)]
  · rw [List.getElem?_set_self (by simp; omega)]
theorem Fl.puts (hn : named nm = true) {b : Byts} : ∀ (m j : Nat) (d : Dsk) (ss : List Byts), Fl d nm f ss → j ≤ ss.length → j + m ≤ 4096 → ∃ d' ss', puts nm b m j d = (d', 0) ∧ Fl d' nm f ss' ∧ ss'.length = max ss.length (j + m) ∧ (∀ i, i < j → ss'[i]? = ss[i]?) ∧ ∀ i, j ≤ i → i < j + m → ss'[i]? = some (sector b i)
  | 0, j, d, ss, h, hj, _ => ⟨d, ss, rfl, h, by omega, fun _ _ => rfl, fun i h1 h2 => by omega⟩
  | m + 1, j, d, ss, h, hj, hm => by
    obtain ⟨d', h1, h2⟩ := h.put hn (data := sector b j) (sector_length b j) hj (by omega)
    obtain ⟨g1, g2, g3⟩ := putS_get (x := sector b j) hj
    obtain ⟨d2, ss2, k1, k2, k3, k4, k5⟩ := Fl.puts hn (b := b) m (j + 1) d' _ h2 (by rw [g1]; omega) (by omega)
    refine ⟨d2, ss2, ?_, k2, by rw [k3, g1]; omega, fun i hi => (k4 i (by omega)).trans (g2 i hi), fun i hi hi2 => ?_⟩
    · show (if (d.put nm j (sector b j)).2 ≠ 0 then d.put nm j (sector b j) else YthpjoogmmjikmaaGreatDoor.puts nm b m (j + 1) (d.put nm j (sector b j)).1) = _
      rw [h1]; exact k1
    · by_cases hij : i = j
      · subst hij; exact (k4 i (by omega)).trans g3
      · exact k5 i (by omega) (by omega)
end
end Go.Proofs.YthpjoogmmjikmaaGreatDoor
