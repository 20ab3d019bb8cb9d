/-
 Values that nobody writes, and a function's own blocks beside them.
 No condition beyond those that each theorem names.
-/
import Derived.Test.YtlejeoajnfaloaaGreatDoorSxr
set_option linter.unusedVariables false
set_option linter.unusedSimpArgs false
/-! Values that nobody writes: what they read as; a function's own blocks beside them. -/
set_option linter.unusedVariables false
namespace Go.Sx
def Rdb (w : AW) (c f : Nat) (all : List AV) : Prop := (∃ own d, w.fam? c = some (f, own, d)) ∧ w.cells? c = some all
theorem Rdb.lt {w : AW} {c f : Nat} {all : List AV} (h : Rdb w c f all) (hm : Mem w) : c < w.size ∧ f ≤ c := by
 obtain ⟨⟨own, d, h1⟩, h2⟩ := h
 obtain ⟨x, h3, h4, h5⟩ := hm.cells_fam h2
 rw [h1] at h3; cases h3
 exact ⟨h4, h5⟩
theorem Rdb.congr {w w' : AW} {c f : Nat} {all : List AV} (h : Rdb w c f all) (h1 : w'.get c = w.get c) (h2 : w'.get f = w.get f) : Rdb w' c f all := by
 obtain ⟨⟨own, d, h3⟩, h4⟩ := h
 obtain ⟨cs, o, d', h5, h6⟩ := AW.fam?_iff.1 h3
 exact ⟨⟨own, d, AW.fam?_iff.2 ⟨cs, o, d', h1.trans h5, by rw [AW.root?_congr h2]; exact h6⟩⟩, by rw [AW.cells?_congr h3 h1 h2]; exact h4⟩
theorem Rdb.fr {w w' : AW} {c f n : Nat} {all : List AV} (h : Rdb w c f all) (hm : Mem w) (hf : Fr n w w') (hn : w.size ≤ n) : Rdb w' c f all :=
 h.congr (hf.old _ (by have := h.lt hm; omega)) (hf.old _ (by have := h.lt hm; omega))
structure Xa (A : Nat → Prop) (w : AW) (A' : Nat → Prop) (w' : AW) : Prop where
 a : ∀ c f all, A c → A f → Rdb w c f all → A' c ∧ A' f ∧ Rdb w' c f all
structure Rp (α : Type) where
 sz : Nat
 rd : (Nat → Prop) → AW → List AV → α → Prop
 len : ∀ {A w cs x}, rd A w cs x → cs.length = sz
 ok : ∀ {A w cs x}, rd A w cs x → cs.all okCell = true
 mono : ∀ {A w A' w' cs x}, Xa A w A' w' → rd A w cs x → rd A' w' cs x
/-! ### A function's own blocks -/
inductive Ob where
 | row (cs : List AV)
 | map (es : List (AV × AV))
 | acc (b : Nat) (cs : List AV)
 | obj (o : AO)
 | none
def Ob.is : Ob → AW → Nat → Prop
 | .row cs, w, b => Box w b cs
 | .map es, w, b => ∃ cl, w.get b = some (.map es cl)
 | .acc b cs, w, f => (∃ o d, w.get b = some (.cells cs f o d)) ∧ w.root? f = some (f, b, false)
 | .obj o, w, b => w.get b = some o ∧ ∀ cs f own d, o ≠ .cells cs f own d
 | .none, _, _ => True
def Ob.re : Ob → Bool
 | .none => false
 | _ => true
theorem Ob.is.lt {x : Ob} {w : AW} {b : Nat} (h : x.is w b) (hr : x.re = true) (hm : Mem w) : b < w.size := by
 cases x with
 | row cs => exact Box.lt h hm
 | map es => obtain ⟨cl, h⟩ := h; exact hm.lt _ _ h
 | acc b' cs => obtain ⟨c0, hc0, _⟩ := AW.root?_iff.1 h.2; exact hm.lt _ _ hc0
 | obj o => exact hm.lt _ _ h.1
 | none => cases hr
theorem Ob.is.root {x : Ob} {w : AW} {b f o : Nat} {d : Bool} {cs : List AV} (h : x.is w b) (hr : x.re = true) (hg : w.get b = some (.cells cs f o d)) : f = b := by
  cases x with
  | row cs => have h : w.get b = some (.cells cs b b false) := h; rw [h] at hg; cases hg; rfl
  | map es => obtain ⟨cl, h⟩ := h; rw [h] at hg; cases hg
  | acc b' cs =>
    obtain ⟨c0, hc0, _⟩ := AW.root?_iff.1 h.2
    have hc0 : w.get b = some (.cells c0 b b' false) := hc0
    rw [hc0] at hg; cases hg; rfl
  | obj o => exact absurd (Option.some.inj (h.1.symm.trans hg)) (h.2 _ _ _ _)
  | none => cases hr
theorem Ob.is.keep {x : Ob} {w w' : AW} {b : Nat} (h : x.is w b) (hg : x.re = true → w'.get b = w.get b) (hf : ∀ c cs o d, w.get c = some (.cells cs b o d) → w'.get c = w.get c) : x.is w' b := by
 cases x with
 | row cs => exact (hg rfl).trans h
 | map es => obtain ⟨cl, h⟩ := h; exact ⟨cl, (hg rfl).trans h⟩
 | acc b' cs => obtain ⟨⟨o, d, h1⟩, h2⟩ := h; exact ⟨⟨o, d, (hf _ _ _ _ h1).trans h1⟩, by rw [AW.root?_congr (hg rfl)]; exact h2⟩
 | obj o => exact ⟨(hg rfl).trans h.1, h.2⟩
 | none => trivial
abbrev Obs := List (Nat × Ob)
def ids : Obs → List Nat
 | [] => []
 | p :: L => bif p.2.re then p.1 :: ids L else ids L
theorem ids_mem {p : Nat × Ob} : ∀ {L : Obs}, p ∈ L → p.2.re = true → p.1 ∈ ids L
  | q :: L, h, hr => by
    unfold ids
    rcases List.mem_cons.1 h with rfl | h
    · rw [hr]; exact List.mem_cons_self
    · have := ids_mem h hr
      cases q.2.re
      · exact this
      · exact List.mem_cons_of_mem _ this
theorem ids_of {c : Nat} : ∀ {L : Obs}, c ∈ ids L → ∃ p ∈ L, p.2.re = true ∧ p.1 = c
  | q :: L, h => by
    unfold ids at h
    cases hr : q.2.re with
    | false => rw [hr] at h; obtain ⟨p, h1, h2⟩ := ids_of (L := L) h; exact ⟨p, List.mem_cons_of_mem _ h1, h2⟩
    | true =>
      rw [hr] at h
      rcases List.mem_cons.1 h with rfl | h
      · exact ⟨q, List.mem_cons_self, hr, rfl⟩
      · obtain ⟨p, h1, h2⟩ := ids_of (L := L) h; exact ⟨p, List.mem_cons_of_mem _ h1, h2⟩
structure Xw (U : List Nat) (w : AW) (U' : List Nat) (w' : AW) : Prop where
 a : ∀ c f all, c ∉ U → f ∉ U → Rdb w c f all → c ∉ U' ∧ f ∉ U' ∧ Rdb w' c f all
structure Xt (U : List Nat) (w : AW) (U' : List Nat) (w' : AW) : Prop where
 xw : Xw U w U' w'
 g : ∀ c, c < w.size → c ∉ U → c ∉ U' ∧ w'.get c = w.get c
 s : w.size ≤ w'.size
structure Pv (A : Nat → Prop) (w : AW) : Prop where
 mem : Mem w
 pos : 0 < w.size
 new : ∀ c, w.size ≤ c → A c
structure Ow (A : Nat → Prop) (I : List Nat) (w0 w : AW) (L : Obs) : Prop where
 mem : Mem w
 pos : 0 < w0.size
 size : w0.size ≤ w.size
 old : ∀ c, c < w0.size → c ∉ I → w.get c = w0.get c
 new : ∀ c, w.size ≤ c → A c
 box : ∀ p ∈ L, p.2.re = true → p.2.is w p.1 ∧ (w0.size ≤ p.1 ∨ p.1 ∈ I) ∧ A p.1 ∧ p.1 ≠ 0
 nd : (ids L).Nodup
def nth {β : Type} : List β → Nat → Option β
 | [], _ => none
 | x :: _, 0 => some x
 | _ :: l, i + 1 => nth l i
def stN {β : Type} : List β → Nat → β → List β
 | [], _, _ => []
 | _ :: l, 0, y => y :: l
 | x :: l, i + 1, y => x :: stN l i y
theorem nth_mem {β : Type} {x : β} : ∀ {l : List β} {i : Nat}, nth l i = some x → x ∈ l
 | _ :: _, 0, h => by cases h; exact List.mem_cons_self
 | _ :: _, i + 1, h => List.mem_cons_of_mem _ (nth_mem (i := i) h)
section
variable {A B : Nat → Prop} {I : List Nat} {w0 w w' w1 w2 : AW} {L L' : Obs} {U U' U1 U2 : List Nat} {o o' : Ob}
theorem stN_ids {b : Nat} : ∀ {l : Obs} {i : Nat}, nth l i = some (b, o) → o.re = o'.re → ids (stN l i (b, o')) = ids l
  | _ :: l, 0, h, e => by
    cases h
    show (bif o'.re then b :: ids l else ids l) = (bif o.re then b :: ids l else ids l)
    rw [e]
  | q :: l, i + 1, h, e => by
    show (bif q.2.re then q.1 :: ids (stN l i (b, o')) else ids (stN l i (b, o'))) = (bif q.2.re then q.1 :: ids l else ids l)
    rw [stN_ids (l := l) (i := i) h e]
theorem mem_nth {β : Type} {x : β} : ∀ {l : List β}, x ∈ l → ∃ i, nth l i = some x
  | y :: l, h => by
    rcases List.mem_cons.1 h with rfl | h
    · exact ⟨0, rfl⟩
    · obtain ⟨i, hi⟩ := mem_nth h; exact ⟨i + 1, hi⟩
theorem nth_set_eq {β : Type} {x y : β} : ∀ {l : List β} {i : Nat}, nth l i = some x → nth (stN l i y) i = some y
 | _ :: _, 0, _ => rfl
 | _ :: l, i + 1, h => nth_set_eq (l := l) (i := i) h
theorem nth_set_ne {β : Type} {y : β} : ∀ {l : List β} {i j : Nat}, i ≠ j → nth (stN l i y) j = nth l j
 | [], _, _, _ => rfl
 | _ :: _, 0, 0, h => absurd rfl h
 | _ :: _, 0, j + 1, _ => rfl
 | _ :: _, i + 1, 0, _ => rfl
 | _ :: l, i + 1, j + 1, h => nth_set_ne (l := l) (i := i) (j := j) (by omega)
theorem nd_tail {p : Nat × Ob} {L : Obs} (hn : (ids (p :: L)).Nodup) : (ids L).Nodup := by
 unfold ids at hn
 cases hr : p.2.re with
 | false => rw [hr] at hn; exact hn
 | true => rw [hr] at hn; exact (List.nodup_cons.1 hn).2
theorem nd_head {p : Nat × Ob} {L : Obs} (hn : (ids (p :: L)).Nodup) (hr : p.2.re = true) : p.1 ∉ ids L := by
 unfold ids at hn
 rw [hr] at hn; exact (List.nodup_cons.1 hn).1
theorem nd_cons {p : Nat × Ob} {L : Obs} (hn : (ids L).Nodup) (h : p.2.re = true → p.1 ∉ ids L) : (ids (p :: L)).Nodup := by
 unfold ids
 cases hr : p.2.re with
 | false => exact hn
 | true => exact List.nodup_cons.2 ⟨h hr, hn⟩
theorem Obs.uniq {p q : Nat × Ob} : ∀ {l : Obs} {i j : Nat}, (ids l).Nodup → nth l i = some p → nth l j = some q → p.2.re = true → q.2.re = true → p.1 = q.1 → i = j
  | _ :: _, 0, 0, _, _, _, _, _, _ => rfl
  | x :: l, 0, j + 1, hn, h1, h2, hp, hq, e => by
    cases h1
    exact absurd (e ▸ ids_mem (nth_mem (i := j) h2) hq) (nd_head hn hp)
  | x :: l, i + 1, 0, hn, h1, h2, hp, hq, e => by
    cases h2
    exact absurd (e ▸ ids_mem (nth_mem (i := i) h1) hp) (nd_head hn hq)
  | x :: l, i + 1, j + 1, hn, h1, h2, hp, hq, e => by rw [Obs.uniq (i := i) (j := j) (nd_tail hn) h1 h2 hp hq e]
theorem stN_mem {y p : Nat × Ob} {l : Obs} {i : Nat} {x : Nat × Ob} (hi : nth l i = some x) (hx : x.2.re = true) (hn : (ids l).Nodup) (hp : p ∈ stN l i y) : p = y ∨ (p ∈ l ∧ (p.2.re = true → p.1 ≠ x.1)) := by
 obtain ⟨j, hj⟩ := mem_nth hp
 by_cases hij : i = j
 ·subst hij
  rw [nth_set_eq hi] at hj
  cases hj; exact .inl rfl
 ·rw [nth_set_ne hij] at hj
  exact .inr ⟨nth_mem hj, fun hr e => hij (Obs.uniq hn hi hj hx hr e.symm)⟩
theorem Pv.st (h : Pv A w) : Ow A [] w w [] := ⟨h.mem, h.pos, Nat.le_refl _, fun _ _ _ => rfl, h.new, by simp, List.nodup_nil⟩
theorem Ow.P0 (h : Ow A I w0 w L) : Pv A w := ⟨h.mem, by have := h.pos; have := h.size; omega, h.new⟩
theorem Ow.fr (h : Ow A [] w0 w L) : Fr w0.size w0 w := ⟨h.size, fun c hc => h.old c hc (by simp), h.mem⟩
theorem Ow.ids_lt (h : Ow A I w0 w L) {c : Nat} (hc : c ∈ ids L) : c < w.size := by
 obtain ⟨p, h1, hr, h2⟩ := ids_of hc
 rw [← h2]; exact (h.box p h1 hr).1.lt hr h.mem
theorem Xt.fr (hm : Mem w) (hf : Fr w.size w w') : Xt (ids L) w (ids L) w' := ⟨⟨fun _ _ _ a b d => ⟨a, b, d.fr hm hf (Nat.le_refl _)⟩⟩, fun c a b => ⟨b, hf.old c a⟩, hf.size⟩
theorem Ow.call (h : Ow A I w0 w L) (hf : Fr w.size w w') : Ow A I w0 w' L ∧ Xt (ids L) w (ids L) w' :=
 ⟨⟨hf.mem, h.pos, by have := h.size; have := hf.size; omega, fun c hc hi => (hf.old c (by have := h.size; omega)).trans (h.old c hc hi), fun c hc => h.new c (by have := hf.size; omega), fun p hp hr => ⟨(h.box p hp hr).1.keep (fun _ => hf.old _ ((h.box p hp hr).1.lt hr h.mem)) fun c cs o d hc => hf.old _ (h.mem.lt _ _ hc), (h.box p hp hr).2⟩, h.nd⟩, Xt.fr h.mem hf⟩
theorem Ow.push (h : Ow A I w0 w L) {p : Nat × Ob} (hpr : p.2.re = true) (f1 : Fr w.size w w') (e1 : w.size ≤ p.1) (b1 : p.2.is w' p.1) : Ow A I w0 w' (p :: L) ∧ Xt (ids L) w (p.1 :: ids L) w' := by
 have hs := h.size
 have hs' := f1.size
 have hp := h.pos
 refine ⟨⟨f1.mem, h.pos, by omega, fun c hc hi => (f1.old c (by omega)).trans (h.old c hc hi), fun c hc => h.new c (by omega), fun q hq hr => ?_, nd_cons h.nd fun _ hq => by have := h.ids_lt hq; omega⟩, ⟨⟨fun c f all a a' b => ⟨fun hq => ?_, fun hq => ?_, b.fr h.mem f1 (Nat.le_refl _)⟩⟩, fun c a b => ⟨fun hq => ?_, f1.old c a⟩, hs'⟩⟩
 ·rcases List.mem_cons.1 hq with rfl | hq
  ·exact ⟨b1, .inl (by omega), h.new _ (by omega), by omega⟩
  ·exact ⟨(h.box q hq hr).1.keep (fun _ => f1.old _ ((h.box q hq hr).1.lt hr h.mem)) (fun c cs o d hc => f1.old _ (h.mem.lt _ _ hc)), (h.box q hq hr).2⟩
 ·rcases List.mem_cons.1 hq with hq | hq
  ·have := b.lt h.mem
   omega
  ·exact a hq
 ·rcases List.mem_cons.1 hq with hq | hq
  ·have := b.lt h.mem
   omega
  ·exact a' hq
 ·rcases List.mem_cons.1 hq with hq | hq
  ·omega
  ·exact b hq
theorem Ow.new' (h : Ow A I w0 w L) {cs : List AV} {K : Nat → AW → Prop} (hK : ∀ b w', Ow A I w0 w' ((b, .row cs) :: L) → Xt (ids L) w (b :: ids L) w' → K b w') : Sx.new w cs K :=
 new_of h.mem fun w' f1 b1 z1 => by obtain ⟨a, b⟩ := h.push (p := (w.size, .row cs)) rfl f1 (Nat.le_refl _) b1; exact hK _ _ a b
theorem Ow.turn (h : Ow A I w0 w L) (i : Nat) {b : Nat} (hi : nth L i = some (b, o)) (ho : o.re = true) (ho' : o'.re = true) (c : Ch [b] w w') (b' : o'.is w' b) : Ow A I w0 w' (stN L i (b, o')) ∧ Xt (ids L) w (ids L) w' := by
 obtain ⟨hb, h0, hA, hz⟩ := h.box _ (nth_mem hi) ho
 have hs := h.size
 have hbU : b ∈ ids L := ids_mem (nth_mem hi) ho
 refine ⟨⟨c.mem, h.pos, by have := c.size; omega, fun c' hc hi' => (c.old c' (by omega) (by
   simp only [List.mem_singleton]; rintro rfl
   rcases h0 with h0 | h0
   ·exact absurd hc (by simp only [] at h0; omega)
   ·exact hi' h0)).trans (h.old c' hc hi'), fun c' hc => h.new c' (by have := c.size; omega), fun p hp hpr => ?_, by rw [stN_ids hi (ho.trans ho'.symm)]; exact h.nd⟩, ⟨⟨fun c' f all a a' b'' => ⟨a, a', ?_⟩⟩, fun c' a b'' => ⟨b'', c.old c' a (by simp only [List.mem_singleton]; rintro rfl; exact b'' hbU)⟩, c.size⟩⟩
 ·rcases stN_mem hi ho h.nd hp with rfl | ⟨h1, h2⟩
  ·exact ⟨b', h0, hA, hz⟩
  ·refine ⟨(h.box p h1 hpr).1.keep (fun _ => c.old _ ((h.box p h1 hpr).1.lt hpr h.mem) (by simpa using h2 hpr)) fun c2 cs o d hc => c.old _ (h.mem.lt _ _ hc) ?_, (h.box p h1 hpr).2⟩
   simp only [List.mem_singleton]
   rintro rfl
   exact h2 hpr (hb.root ho hc)
 ·have hne : c' ≠ b := by rintro rfl; exact a hbU
  have hnf : f ≠ b := by rintro rfl; exact a' hbU
  have hlt := b''.lt h.mem
  exact b''.congr (c.old c' hlt.1 (by simpa using hne)) (c.old f (by omega) (by simpa using hnf))
theorem Ow.put (h : Ow A I w0 w L) (i : Nat) {b o : Nat} {cs vs : List AV} (hi : nth L i = some (b, .row cs)) (hl : o + vs.length ≤ cs.length) {K : AW → Prop}
  (hK : ∀ w', Ow A I w0 w' (stN L i (b, .row (listPut cs o vs))) → Xt (ids L) w (ids L) w' → K w') : onM (w.putCells b o vs) K := by
 obtain ⟨hb, h0, hA, hz⟩ := h.box _ (nth_mem hi) rfl
 have hb : Box w b cs := hb
 refine hb.put' h.mem hz hl fun w' c b' z => ?_
 obtain ⟨a, e⟩ := h.turn (o' := .row (listPut cs o vs)) i hi rfl rfl c b'
 exact hK w' a e
theorem Ow.ld (h : Ow A I w0 w L) (i : Nat) {b o : Nat} {cs : List AV} {v : AV} (hi : nth L i = some (b, .row cs)) (hv : cs[o]? = some v) : Sx.ld w b o = some v := by
 have hb : Box w b cs := (h.box _ (nth_mem hi) rfl).1
 rw [hb.ld]; exact hv
theorem Ow.ldN (h : Ow A I w0 w L) (i : Nat) {b o n : Nat} {cs : List AV} {v : AV} (hi : nth L i = some (b, .row cs)) (hn : Nat.ble (o + n) cs.length = true) (hv : AV.agg ((cs.drop o).take n) = v) : Sx.ldN n w b o = some v := by
 have hb : Box w b cs := (h.box _ (nth_mem hi) rfl).1
 rw [hb.ldN (Nat.le_of_ble_eq_true hn), hv]
end
end Go.Sx
/-! What a law's arguments read as, as rows. -/
set_option linter.unusedVariables false
namespace Go.Sx
open Go.RowKit
variable {P : Program} {css : List (List AV)} {t e : TypeId} {α : Type} {r : Rp α}
theorem Dt.rdS {cs : List AV} (hu : P.underlying t = some .string) (h : Dt P css t cs) : ∃ s : List UInt8, cs = [.str s] ∧ s.length ≤ 140737488351232 := by
 cases h with
 | int h => rw [hu] at h; cases h
 | bool h => rw [hu] at h; cases h
 | str h h2 => exact ⟨_, rfl, h2⟩
 | nils h => rw [hu] at h; cases h
 | slice h => rw [hu] at h; cases h
 | struct h => rw [hu] at h; cases h
theorem Dt.fields {cs : List AV} {fs : Array Field} (hu : P.underlying t = some (.struct fs)) (h : Dt P css t cs) : cs.length = P.cellsOf t ∧ ∀ (j : Nat) (f : Field), fs.toList[j]? = some f → Dt P css f.type ((cs.drop f.offset).take (P.cellsOf f.type)) := by
 cases h with
 | int h => rw [hu] at h; cases h
 | bool h => rw [hu] at h; cases h
 | str h => rw [hu] at h; cases h
 | nils h => rw [hu] at h; cases h
 | slice h => rw [hu] at h; cases h
 | struct h h2 h3 => rw [hu] at h; cases h; exact ⟨h2, h3⟩
theorem Pv.arg : Pv (fun _ => True) (argL css) := ⟨argL_mem css, by rw [argL_size]; omega, fun _ _ => trivial⟩
end Go.Sx
/-! Structs among a law's arguments: what they read as. -/
namespace Go.Sx
section
variable {P : Program} {css : List (List AV)} {t e : TypeId}
theorem DtA.one {a : AV} (hu : (match P.underlying t with | some (.struct _) => true | _ => false) = false) (h : DtA P css t a) : Dt P css t [a] := by
 unfold DtA at h
 split at h
 ·rename_i fs h1; rw [h1] at hu; cases hu
 ·exact h
theorem DtA.agg {a : AV} {fs : Array Field} (hu : P.underlying t = some (.struct fs)) (h : DtA P css t a) : ∃ cs, a = .agg cs ∧ Dt P css t cs := by
 unfold DtA at h
 rw [hu] at h; exact h
def onesB (P : Program) : Nat → List Field → Bool
 | _, [] => true
 | k, f :: l => Nat.beq f.offset k && Nat.beq (P.cellsOf f.type) 1 && onesB P (k + 1) l
theorem Dt.ones {cs : List AV} {fs : Array Field} (hu : P.underlying t = some (.struct fs)) (h : Dt P css t cs) (hb : onesB P 0 fs.toList = true) (hl : P.cellsOf t = fs.toList.length) : DtAll P css (fs.toList.map (·.type)) cs := by
  obtain ⟨hlen, hf⟩ := Dt.fields hu h
  have key : ∀ (l : List Field) (k : Nat), onesB P k l = true → (∀ (j : Nat) (f : Field), l[j]? = some f → Dt P css f.type ((cs.drop f.offset).take (P.cellsOf f.type))) → cs.length = k + l.length → DtAll P css (l.map (·.type)) (cs.drop k) := by
    intro l
    induction l with
    | nil => intro k _ _ hk; exact List.drop_eq_nil_of_le (by simp at hk; omega)
    | cons f l ih =>
      intro k hb hf hk
      simp only [onesB, Bool.and_eq_true] at hb
      obtain ⟨⟨h1, h2⟩, h3⟩ := hb
      have e1 := Nat.eq_of_beq_eq_true h1
      have e2 := Nat.eq_of_beq_eq_true h2
      have hlt : k < cs.length := by rw [hk, List.length_cons]; omega
      have h0 := hf 0 f rfl
      rw [e1, e2, List.drop_eq_getElem_cons hlt] at h0
      refine ⟨cs[k], cs.drop (k + 1), List.drop_eq_getElem_cons hlt, h0, ih (k + 1) h3 (fun j g hj => hf (j + 1) g hj) (by rw [hk, List.length_cons]; omega)⟩
  have := key fs.toList 0 hb hf (by rw [hlen, hl]; omega)
  simpa using this
theorem Dt.bool1 {cs : List AV} (hu : P.underlying t = some .bool) (h : Dt P css t cs) : ∃ b : Bool, cs = [.bool b] := by
 cases h with
 | int h => rw [hu] at h; cases h
 | bool h => exact ⟨_, rfl⟩
 | str h => rw [hu] at h; cases h
 | nils h => rw [hu] at h; cases h
 | slice h => rw [hu] at h; cases h
 | struct h => rw [hu] at h; cases h
theorem Dt.okSl {v : AV} (hu : P.underlying t = some (.slice e)) (h : Dt P css t [v]) : okCell v = true := by
 cases h with
 | int h => rw [hu] at h; cases h
 | bool h => rfl
 | str h => rfl
 | nils h => rfl
 | slice h => rfl
 | struct h => rw [hu] at h; cases h
end
end Go.Sx
