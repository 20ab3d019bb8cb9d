/-
 Reading the abstract memory, new memory, rows that grow or are written: what a formula needs.
 No condition beyond those that each theorem names.
-/
import Derived.Test.YtlejeoajnfaloaaGreatDoorSxu
set_option linter.unusedVariables false
set_option linter.unusedSimpArgs false
/-! Reading memory, new memory: what a function's formula needs. -/
namespace Go.Sx
structure Mem (w : AW) : Prop where
 lt : ∀ b o, w.get b = some o → b < w.size
 fam : ∀ b cs f own d, w.get b = some (.cells cs f own d) → f ≤ b
structure Fr (n : Nat) (w w' : AW) : Prop where
 size : w.size ≤ w'.size
 old : ∀ b, b < n → w'.get b = w.get b
 mem : Mem w'
theorem Fr.refl {n : Nat} {w : AW} (h : Mem w) : Fr n w w := ⟨Nat.le_refl _, fun _ _ => rfl, h⟩
theorem Fr.trans {n m : Nat} {w w1 w2 : AW} (h : Fr n w w1) (h' : Fr m w1 w2) (hm : n ≤ m) : Fr n w w2 :=
 ⟨Nat.le_trans h.size h'.size, fun b hb => (h'.old b (Nat.lt_of_lt_of_le hb hm)).trans (h.old b hb), h'.mem⟩
theorem Mem.cells_fam {w : AW} (h : Mem w) {b : Nat} {cs : List AV} (hc : w.cells? b = some cs) : ∃ x, w.fam? b = some x ∧ b < w.size ∧ x.1 ≤ b := by
 obtain ⟨x, o, d, h1, h2, h3⟩ := AW.cells?_iff.1 hc
 exact ⟨x, h1, h.lt _ _ h3, h.fam _ _ _ _ _ h3⟩
theorem Fr.cells {n : Nat} {w w' : AW} (h : Fr n w w') (hm : Mem w) {b : Nat} {cs : List AV} (hc : w.cells? b = some cs) (hn : w.size ≤ n) : w'.cells? b = some cs := by
 obtain ⟨x, h1, h2, h3⟩ := hm.cells_fam hc
 rw [AW.cells?_congr h1 (h.old b (by omega)) (h.old x.1 (by omega))]; exact hc
theorem takeCells_some {cs : List AV} {o n : Nat} (h : o + n ≤ cs.length) : takeCells cs o n = some ((cs.drop o).take n) := by
 unfold takeCells; rw [if_pos h]
/-! ### New memory -/
theorem Mem.push {w : AW} (h : Mem w) {o : AO} (ho : ∀ cs f own d, o = .cells cs f own d → f ≤ w.size) : Mem (w.push o) := by
 constructor
 ·intro b x hx
  rw [AW.push_get] at hx
  split at hx
  ·rename_i e; subst e; simp
  ·have := h.lt _ _ hx; simp; omega
 ·intro b cs f own d hx
  rw [AW.push_get] at hx
  split at hx
  ·rename_i e; subst e; exact ho _ _ _ _ (Option.some.inj hx)
  ·exact h.fam _ _ _ _ _ hx
theorem Fr.push {w : AW} (h : Mem w) {o : AO} (ho : ∀ cs f own d, o = .cells cs f own d → f ≤ w.size) : Fr w.size w (w.push o) :=
 ⟨by simp, fun b hb => by simp [Nat.ne_of_lt hb], h.push ho⟩
def Box (w : AW) (b : Nat) (cs : List AV) : Prop := w.get b = some (.cells cs b b false)
theorem Box.cells {w : AW} {b : Nat} {cs : List AV} (h : Box w b cs) : w.cells? b = some cs := by
 have hr : w.root? b = some (b, b, false) := AW.root?_iff.2 ⟨cs, h, rfl⟩
 exact AW.cells?_iff.2 ⟨(b, b, false), b, false, AW.fam?_iff.2 ⟨cs, b, false, h, hr⟩, .inl rfl, h⟩
theorem Box.fam {w : AW} {b : Nat} {cs : List AV} (h : Box w b cs) : w.fam? b = some (b, b, false) :=
 AW.fam?_iff.2 ⟨cs, b, false, h, AW.root?_iff.2 ⟨cs, h, rfl⟩⟩
theorem Box.ld {w : AW} {b o : Nat} {cs : List AV} (h : Box w b cs) : Sx.ld w b o = cs[o]? := by simp [Sx.ld, h.cells]
theorem Box.lt {w : AW} {b : Nat} {cs : List AV} (h : Box w b cs) (hm : Mem w) : b < w.size := hm.lt _ _ h
theorem Box.ldN {w : AW} {b o n : Nat} {cs : List AV} (h : Box w b cs) (hn : o + n ≤ cs.length) : Sx.ldN n w b o = some (.agg ((cs.drop o).take n)) := by
 simp [Sx.ldN, h.cells, takeCells_some hn]
theorem new_of {w : AW} {cs : List AV} {K : Nat → AW → Prop} (hm : Mem w) (h : ∀ w', Fr w.size w w' → Box w' w.size cs → w'.size = w.size + 1 → K w.size w') : new w cs K :=
 h _ (Fr.push hm fun cs' f own d e => by cases e; exact Nat.le_refl _) (by simp [Box, newCells, cellsAO]) (by simp [newCells])
theorem Box.put {w : AW} {b o : Nat} {cs vs : List AV} (h : Box w b cs) (hb : b ≠ 0) (hl : o + vs.length ≤ cs.length) : w.putCells b o vs = some (w.set b (.cells (listPut cs o vs) b b false)) := by
 unfold AW.putCells
 rw [h.fam, h.cells]
 simp only []
 rw [if_neg (by omega), if_pos (by simp)]
 unfold AW.setCs
 have h : w.get b = some (.cells cs b b false) := h
 rw [h]
theorem Mem.set {w : AW} (h : Mem w) {b : Nat} {o : AO} (hb : b < w.size) (ho : ∀ cs f own d, o = .cells cs f own d → f ≤ b) : Mem (w.set b o) := by
 constructor
 ·intro c x hx
  rw [AW.set_get] at hx
  split at hx
  ·rename_i e; subst e; exact hb
  ·exact h.lt _ _ hx
 ·intro c cs f own d hx
  rw [AW.set_get] at hx
  split at hx
  ·rename_i e; subst e; exact ho _ _ _ _ (Option.some.inj hx)
  ·exact h.fam _ _ _ _ _ hx
structure Ch (X : List Nat) (w w' : AW) : Prop where
 size : w.size ≤ w'.size
 old : ∀ b, b < w.size → b ∉ X → w'.get b = w.get b
 mem : Mem w'
theorem Ch.set {w : AW} (h : Mem w) {b : Nat} {o : AO} (hb : b < w.size) (ho : ∀ cs f own d, o = .cells cs f own d → f ≤ b) : Ch [b] w (w.set b o) :=
 ⟨Nat.le_refl _, fun c _ hx => by simp at hx; simp [hx], h.set hb ho⟩
def blk : AV → Option Nat
 | .slice b _ _ _ _ => some b
 | _ => none
end Go.Sx
namespace Go.Sx
/-! ### Numbers -/
theorem wi_eq {x : Int} (h1 : -9223372036854775808 ≤ x) (h2 : x < 9223372036854775808) : wi x = x := by
 have : wi x = (x + 9223372036854775808) % 18446744073709551616 - 9223372036854775808 := by
  simp only [wi, IntKind.wrap, IntKind.bits, IntKind.signed, Bool.true_and, decide_eq_true_eq]
  simp only [show (2 ^ 64 : Int) = 18446744073709551616 from rfl, show ((2 : Int) ^ (64 - 1)) = 9223372036854775808 from rfl]
  by_cases h : x % 18446744073709551616 ≥ 9223372036854775808
  ·rw [if_pos (decide_eq_true h)]; omega
  ·rw [if_neg (by simpa using h)]; omega
 rw [this]; omega
theorem ifT_t {A B : Prop} (h : A) : ifT true A B := h
theorem ifT_f {A B : Prop} (h : B) : ifT false A B := h
theorem ifT_d {p : Prop} [Decidable p] {A B : Prop} (h1 : p → A) (h2 : ¬ p → B) : ifT (decide p) A B := by
 by_cases h : p
 ·rw [decide_eq_true h]; exact h1 h
 ·rw [decide_eq_false h]; exact h2 h
theorem gd_t {A : Prop} {b : Bool} (hb : b = true) (h : A) : gd b A := by rw [hb]; exact h
theorem onM_s {α : Type} {x : Option α} {K : α → Prop} {v : α} (h : x = some v) (hK : K v) : onM x K := by rw [h]; exact hK
end Go.Sx
/-! A slice of one's own numbers, written in its place. -/
namespace Go.Sx
section
variable {P : Program} {hk : Hook}
theorem Cl_hook {f : FuncId} {args : List AV} {w w' : AW} {v : AV} {K : AV → AW → Prop} (h : hk f args w = some (some (v, w'))) (hK : K v w') : Cl P hk f args w K := by
 refine wpL_in (t := .call f args w) ?_
 show wCall P _ hk f args w _
 unfold wCall
 rw [h]
 exact ⟨v, w', rfl, hK⟩
end
end Go.Sx
/-! Ranges over functions: a step of each kind. -/
namespace Go.Sx
end Go.Sx
/-! Bytes, maps with whole keys. -/
namespace Go.Sx
theorem Box.put' {w : AW} {b o : Nat} {cs vs : List AV} (h : Box w b cs) (hm : Mem w) (hb : b ≠ 0) (hl : o + vs.length ≤ cs.length) {K : AW → Prop} (hK : ∀ w', Ch [b] w w' → Box w' b (listPut cs o vs) → w'.size = w.size → K w') : onM (w.putCells b o vs) K := by
 refine onM_s (h.put hb hl) (hK _ (Ch.set hm (h.lt hm) fun cs f own d e => by cases e; exact Nat.le_refl _) (by simp [Box]) rfl)
/-! ### Maps with whole keys -/
section maps
variable {α : Type} (key : α → Int) (val : AW → α → AV → Prop)
variable {key val}
end maps
end Go.Sx
