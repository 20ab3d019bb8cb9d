/-
  The disk of chapter 7: a crash.
  No condition beyond those that each theorem names.
-/
import Derived.Test.YthpjoogmmjikmaaGreatDoorSxw
set_option linter.unusedVariables false
set_option linter.unusedSimpArgs false
/-! The disk in memory: its block is built anew; other objects turn; ranges over maps. -/
namespace Go.Sx
theorem Tz.obj {w w' : AW} {r : Nat} {ob : AO} (hm : Mem w) (hc : Ch [r] w w') (hr : w.get r = some ob) (hno : ∀ cs f own d, ob ≠ .cells cs f own d) : Tz [r] w w' := by
  refine ⟨hc, fun b bs h => ?_⟩
  obtain ⟨x, o, d, h1, h2, h3⟩ := AW.cells?_iff.1 h
  obtain ⟨cs0, h4, _⟩ := AW.root?_iff.1 (AW.fam?_root h1)
  have e1 : b ≠ r := fun e => by rw [e, hr] at h3; exact hno _ _ _ _ (Option.some.inj h3)
  have e2 : x.1 ≠ r := fun e => by rw [e, hr] at h4; exact hno _ _ _ _ (Option.some.inj h4)
  rw [AW.cells?_congr h1 (hc.old _ (hm.lt _ _ h3) (by simpa using e1)) (hc.old _ (hm.lt _ _ h4) (by simpa using e2))]
  exact h
theorem Box.obj {w w' : AW} {r c : Nat} {ob : AO} {cs : List AV} (hm : Mem w) (hc : Ch [r] w w') (hr : w.get r = some ob) (hno : ∀ cs f own d, ob ≠ .cells cs f own d) (h : Box w c cs) : Box w' c cs :=
  hc.box hm h fun hx => by
    simp at hx; subst hx
    unfold Box at h
    rw [hr] at h; exact hno _ _ _ _ (Option.some.inj h)
theorem Gc.obj {Q : Nat → Prop} {sz r : Nat} {ob : AO} {w w' : AW} {v : AV} {cs : List AV} (h : Gc Q sz w v cs) (hm : Mem w) (hc : Ch [r] w w') (hr : w.get r = some ob) (hno : ∀ cs f own d, ob ≠ .cells cs f own d) : Gc Q sz w' v cs := by
  rcases h with h | ⟨b, f, n, ex, o, d, rfl, h2, h3, h4, h5, h6, h7⟩
  · exact .inl h
  · obtain ⟨c0, hc0, _⟩ := AW.root?_iff.1 h7
    simp only [] at hc0
    have e1 : b ≠ r := fun e => by rw [e, hr] at h6; exact hno _ _ _ _ (Option.some.inj h6)
    have e2 : f ≠ r := fun e => by rw [e, hr] at hc0; exact hno _ _ _ _ (Option.some.inj hc0)
    exact .inr ⟨b, f, n, ex, o, d, rfl, h2, h3, h4, h5, (hc.old _ (hm.lt _ _ h6) (by simpa using e1)).trans h6, by rw [AW.root?_congr (hc.old _ (hm.lt _ _ hc0) (by simpa using e2))]; exact h7⟩
section
variable {X : List Nat} {w w' : AW} {D n1 f1 n2 f2 : Nat} {sv : AV} {d : Dsk}
theorem DkM.obj (h : DkM X w D n1 f1 n2 f2 sv d) (hm : Mem w) {r : Nat} {ob : AO} (hc : Ch [r] w w') (hr : w.get r = some ob) (hno : ∀ cs f own d, ob ≠ .cells cs f own d) (hne : r ∉ [n1, f1, n2, f2]) : DkM X w' D n1 f1 n2 f2 sv d := by
  have ht := Tz.obj hm hc hr hno
  obtain ⟨l1, l2⟩ := h.lt hm
  have hg : ∀ x ∈ [n1, f1, n2, f2], w'.get x = w.get x := fun x hx => hc.old _ (l2 x hx) (by simp; exact fun e => hne (e ▸ hx))
  exact ⟨h.D0, h.box.obj hm hc hr hno, h.N1.fr (hg _ (by simp)), h.F1.mono (hg _ (by simp)) ht.cells, h.N2.fr (hg _ (by simp)), h.F2.mono (hg _ (by simp)) ht.cells, h.nd, h.st.obj hm hc hr hno, h.sd, h.inX⟩
theorem DkM.build {cs vs : List AV} {a : AV} {o : Nat} (hb : Box w D (a :: cs)) (ha : ∀ n, a ≠ .int .u8 n) (hm : Mem w) (hD : D ≠ 0) (hl : o + vs.length ≤ (a :: cs).length) (he : listPut (a :: cs) o vs = d.cells n1 f1 n2 f2 sv)
    (N1 : NMp w n1 d.safe.names) (F1 : FMp w f1 d.safe.files) (N2 : NMp w n2 d.now.names) (F2 : FMp w f2 d.now.files) (nd : n1 ≠ f1 ∧ n1 ≠ n2 ∧ n1 ≠ f2 ∧ f1 ≠ n2 ∧ f1 ≠ f2 ∧ n2 ≠ f2) (st : Gc (· ∈ X) 69 w sv (stpsC d.steps)) (hsv : blk sv ≠ some D) (sd : ∀ x ∈ d.steps, x.data.length = 64)
    (inX : D ∈ X ∧ n1 ∈ X ∧ f1 ∈ X ∧ n2 ∈ X ∧ f2 ∈ X) {K : AW → Prop} (hK : ∀ w', Tz [D] w w' → w'.size = w.size → DkM X w' D n1 f1 n2 f2 sv d → K w') : onM (w.putCells D o vs) K := by
  refine hb.put' hm hD hl fun w' c' b' z' => ?_
  rw [he] at b'
  have ht : Tz [D] w w' := Tz.box hm c' hb b' ha
  have hne : ∀ {r : Nat}, (∃ es cl, w.get r = some (.map es cl)) → r ≠ D := fun {r} ⟨_, _, h'⟩ e => by
    unfold Box at hb
    rw [← e, h'] at hb; cases hb
  have lt : ∀ {r : Nat}, (∃ es cl, w.get r = some (.map es cl)) → r < w.size := fun ⟨_, _, h⟩ => hm.lt _ _ h
  have hg : ∀ {r : Nat}, (∃ es cl, w.get r = some (.map es cl)) → w'.get r = w.get r := fun {r} hr => c'.old _ (lt hr) (by simpa using hne hr)
  refine hK w' ht z' ⟨hD, b', N1.fr (hg N1.isMap), F1.mono (hg F1.isMap) ht.cells, N2.fr (hg N2.isMap), F2.mono (hg F2.isMap) ht.cells, nd, st.ch hm c' fun x hx => ?_, sd, inX⟩
  simp at hx; subst hx
  exact .inr ⟨_, hb, hsv⟩
end
/-! ### Crashes -/
def keepL (keep : List Bool) : Nat → List Stp → FS → FS
  | _, [], s => s
  | i, x :: r, s => keepL keep (i + 1) r (if keep.getD i false then s.does x else s)
def heldF (s : FS) : Int → List Byts := fun k => if k ∈ s.names.map (·.2) then s.files k else []
def Dsk.crash (d : Dsk) (keep : List Bool) : Dsk :=
  let s := keepL keep 0 d.steps d.safe
  { d with safe := ⟨s.names, heldF s⟩, now := ⟨s.names, heldF s⟩, steps := [], down := false, arm := 0, fault := 0 }
theorem keepL_V (keep : List Bool) : ∀ {l : List Stp} {i : Nat} {s : FS}, s.V → (∀ x ∈ l, x.V) → (keepL keep i l s).V
  | [], i, s, h, _ => h
  | a :: l, i, s, h, hl => by
    simp only [keepL]
    refine keepL_V keep ?_ fun x hx => hl x (List.mem_cons_of_mem _ hx)
    split
    · exact h.does (hl a List.mem_cons_self)
    · exact h
theorem Dsk.V.crash {d : Dsk} {k : Nat} (h : d.V k) (keep : List Bool) : (d.crash keep).V k := by
  have hs := keepL_V keep (i := 0) h.safe h.sv
  have hh : FS.V ⟨(keepL keep 0 d.steps d.safe).names, heldF (keepL keep 0 d.steps d.safe)⟩ := fun f => by
    simp only [heldF]
    split
    · exact hs f
    · simp
  exact ⟨Nat.zero_le _, fun x hx => (by cases hx), hh, hh, h.last⟩
end Go.Sx
