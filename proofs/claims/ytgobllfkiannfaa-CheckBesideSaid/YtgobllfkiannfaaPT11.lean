/-
  A file beside others on a disk whose power may go, purely.
  No condition beyond those that each theorem names.
-/
import Derived.Test.YtgobllfkiannfaaP11
import Derived.Test.YtgobllfkiannfaaNG11
set_option linter.unusedSimpArgs false
open Go.Sx
set_option linter.unusedVariables false
set_option linter.unusedSimpArgs false
namespace Go.Proofs.Ytgobllfkiannfaa
abbrev Nms := List (Byts × Int)
def Ar (ss : List Byts) : Prop := ss.length ≤ 12 ∧ ∀ s ∈ ss, s.length = 64
theorem Ar.nil : Ar [] := ⟨by decide, by simp⟩
theorem Ar.put {ss : List Byts} {j : Nat} {x : Byts} (h : Ar ss) (hj : j < 12) (hx : x.length = 64) : Ar (putS ss j x) := by
  obtain ⟨h1, h2⟩ := h
  refine ⟨by unfold putS; simp; omega, fun s hs => ?_⟩
  unfold putS at hs
  rcases List.mem_or_eq_of_mem_set hs with hs | rfl
  · rcases List.mem_append.1 hs with hs | hs
    · exact h2 s hs
    · have := List.eq_of_mem_replicate hs
      rw [this]; simp [zsec]
  · exact hx
theorem Ar.cut {ss : List Byts} {k : Nat} (h : Ar ss) : Ar (ss.take k) := ⟨by have := h.1; simp; omega, fun s hs => h.2 s (List.mem_of_mem_take hs)⟩
structure Ot (N : Nms) (G : Int → List Byts) (s : FS) : Prop where
  g : ∀ g ∈ N.map (·.2), s.files g = G g
def OS (t : Byts) (f : Int) (i : Nat) (x : Stp) : Prop := x.file = f ∧ ((x.what = 1 ∧ x.n.toNat < 12 ∧ x.data.length = 64) ∨ x.what = 2 ∨ (x.what = 0 ∧ i = 0 ∧ x.name = t))
def Fresh (d : Dsk) : Prop := ∀ g, d.last < g → d.safe.files g = [] ∧ d.now.files g = []
structure Tk (d : Dsk) (t : Byts) (N : Nms) (G : Int → List Byts) (f : Int) : Prop where
  names : d.now.names = N ++ [(t, f)]
  now : d.steps.foldl FS.does d.safe = d.now
  sn : d.safe.names = N ++ [(t, f)] ∨ d.safe.names = N
  sf : Ar (d.safe.files f)
  g1 : Ot N G d.safe
  g2 : Ot N G d.now
  st : ∀ (i : Nat) (x : Stp), d.steps[i]? = some x → OS t f i x
  tN : nget N t = none
  fN : f ∉ N.map (·.2)
  la : f ≤ d.last ∧ ∀ g ∈ N.map (·.2), g ≤ d.last
  fr : Fresh d
structure Tn (d : Dsk) (t : Byts) (N : Nms) (G : Int → List Byts) : Prop where
  names : d.now.names = N
  se : d.safe = d.now
  st : d.steps = []
  g : Ot N G d.now
  tN : nget N t = none
  la : ∀ g ∈ N.map (·.2), g ≤ d.last
  fr : Fresh d
structure Same (d d' : Dsk) : Prop where
  s : d'.safe = d.safe
  n : d'.now = d.now
  t : d'.steps = d.steps
  l : d'.last = d.last
section
variable {d d' : Dsk} {t b : Byts} {N : Nms} {G : Int → List Byts} {f : Int}
theorem Tn.same (h : Tn d t N G) (e : Same d d') : Tn d' t N G := ⟨by rw [e.n]; exact h.names, by rw [e.s, e.n]; exact h.se, by rw [e.t]; exact h.st, by rw [e.n]; exact h.g, h.tN, by rw [e.l]; exact h.la, by unfold Fresh; rw [e.l, e.s, e.n]; exact h.fr⟩
theorem Tk.same (h : Tk d t N G f) (e : Same d d') : Tk d' t N G f :=
  ⟨by rw [e.n]; exact h.names, by rw [e.t, e.s, e.n]; exact h.now, by rw [e.s]; exact h.sn, by rw [e.s]; exact h.sf, by rw [e.s]; exact h.g1, by rw [e.n]; exact h.g2, by rw [e.t]; exact h.st, h.tN, h.fN, by rw [e.l]; exact h.la, by unfold Fresh; rw [e.l, e.s, e.n]; exact h.fr⟩
theorem stop_ap (h : d.fault = 0) : ∃ d1 e, d.stopped = (d1, e) ∧ Same d d1 ∧ d1.fault = 0 ∧ e ≠ 70 ∧ (e = 0 → d1.down = false) ∧ (Qu d → e = 0 ∧ Qu d1) := by
  obtain ⟨a, bb, c, l, dn, ar, fa, wt⟩ := d
  simp only at h
  subst h
  unfold Dsk.stopped
  cases dn with
  | true => exact ⟨_, _, rfl, ⟨rfl, rfl, rfl, rfl⟩, rfl, by decide, (fun h => (by cases h)), fun h => (by cases h.1)⟩
  | false =>
    simp only [Bool.false_eq_true, if_false]
    split
    · rename_i h
      refine ⟨_, _, rfl, ⟨rfl, rfl, rfl, rfl⟩, by simp [spent], by decide, (fun h => (by cases h)), fun hq => ?_⟩
      obtain ⟨_, h2, _⟩ := hq
      simp only at h2
      subst h2
      cases h
    · refine ⟨_, _, rfl, ⟨rfl, rfl, rfl, rfl⟩, by simp [spent], by simp [spent], fun _ => rfl, fun hq => ?_⟩
      obtain ⟨_, h2, _⟩ := hq
      simp only at h2
      subst h2
      exact ⟨rfl, rfl, rfl, rfl⟩
theorem Tk.get (h : Tk d t N G f) : nget d.now.names t = some f := by rw [h.names]; exact nget_new h.tN
theorem does_os {x : Stp} {s : FS} {i : Nat} (hx : OS t f i x) (hf : Ar (s.files f)) (hg : Ot N G s) (hN : f ∉ N.map (·.2)) (ht : nget N t = none) (hn : s.names = N ++ [(t, f)] ∨ s.names = N) :
    Ar ((s.does x).files f) ∧ Ot N G (s.does x) ∧ ((s.does x).names = N ++ [(t, f)] ∨ (s.does x).names = s.names) ∧ ∀ g, g ≠ f → (s.does x).files g = s.files g := by
  obtain ⟨hxf, ⟨g1, g2, g3⟩ | g1 | ⟨g1, _, g3⟩⟩ := hx
  · unfold FS.does
    rw [if_neg (by omega), if_pos g1]
    refine ⟨?_, ⟨fun g hg' => ?_⟩, .inr rfl, fun g hg' => ?_⟩
    · show Ar (updF _ _ _ f)
      unfold updF
      rw [if_pos hxf.symm, hxf]; exact hf.put g2 g3
    · show updF _ _ _ g = _
      unfold updF
      rw [if_neg (by rw [hxf]; rintro rfl; exact hN hg')]; exact hg.g g hg'
    · show updF _ _ _ g = _
      unfold updF
      rw [if_neg (by rw [hxf]; exact hg')]
  · unfold FS.does
    rw [if_neg (by omega), if_neg (by omega), if_pos g1]
    refine ⟨?_, ⟨fun g hg' => ?_⟩, .inr rfl, fun g hg' => ?_⟩
    · show Ar (updF _ _ _ f)
      unfold updF
      rw [if_pos hxf.symm, hxf]; exact hf.cut
    · show updF _ _ _ g = _
      unfold updF
      rw [if_neg (by rw [hxf]; rintro rfl; exact hN hg')]; exact hg.g g hg'
    · show updF _ _ _ g = _
      unfold updF
      rw [if_neg (by rw [hxf]; exact hg')]
  · unfold FS.does
    rw [if_pos g1]
    refine ⟨hf, ⟨hg.g⟩, .inl ?_, fun g _ => rfl⟩
    show nset s.names x.name x.file = _
    rw [g3, hxf]
    rcases hn with e | e <;> rw [e]
    · have : ∀ N : Nms, nget N t = none → nset (N ++ [(t, f)]) t f = N ++ [(t, f)] := fun N => by
        induction N with
        | nil => intro _; simp [nset]
        | cons a N ih =>
          intro ht
          unfold nget at ht
          rw [List.find?_cons] at ht
          by_cases ha : a.1 = t
          · simp [ha] at ht
          · simp only [ha, decide_false] at ht
            show (if a.1 = t then _ else a :: nset (N ++ [(t, f)]) t f) = _
            rw [if_neg ha, ih ht]; rfl
      exact this N ht
    · exact nset_new ht
theorem keep_os (keep : List Bool) (hN : f ∉ N.map (·.2)) (ht : nget N t = none) : ∀ (l : List Stp) (k i : Nat) (s : FS), (∀ (j : Nat) (x : Stp), l[j]? = some x → OS t f (k + j) x) → Ar (s.files f) → Ot N G s → (s.names = N ++ [(t, f)] ∨ s.names = N) →
    Ar ((keepL keep i l s).files f) ∧ Ot N G (keepL keep i l s) ∧ ((keepL keep i l s).names = N ++ [(t, f)] ∨ (keepL keep i l s).names = N) ∧ ∀ g, g ≠ f → (keepL keep i l s).files g = s.files g
  | [], _, _, s, _, h1, h2, h3 => ⟨h1, h2, h3, fun _ _ => rfl⟩
  | x :: l, k, i, s, h, h1, h2, h3 => by
    have hx := h 0 x rfl
    obtain ⟨a1, a2, a3, a4⟩ := does_os hx h1 h2 hN ht h3
    have hr : ∀ (j : Nat) (y : Stp), l[j]? = some y → OS t f (k + 1 + j) y := fun j y hy => by
      have := h (j + 1) y hy
      rw [show k + 1 + j = k + (j + 1) by omega]; exact this
    simp only [keepL]
    split
    · obtain ⟨b1, b2, b3, b4⟩ := keep_os keep hN ht l (k + 1) (i + 1) (s.does x) hr a1 a2 (a3.elim .inl fun e => by rw [e]; exact h3)
      exact ⟨b1, b2, b3, fun g hg => (b4 g hg).trans (a4 g hg)⟩
    · exact keep_os keep hN ht l (k + 1) (i + 1) s hr h1 h2 h3
theorem fold_os (hN : f ∉ N.map (·.2)) (ht : nget N t = none) : ∀ (l : List Stp) (k : Nat) (s : FS), (∀ (j : Nat) (x : Stp), l[j]? = some x → OS t f (k + j) x) → Ar (s.files f) → Ot N G s → (s.names = N ++ [(t, f)] ∨ s.names = N) → Ar ((l.foldl FS.does s).files f)
  | [], _, s, _, h1, _, _ => h1
  | x :: l, k, s, h, h1, h2, h3 => by
    obtain ⟨a1, a2, a3, a4⟩ := does_os (h 0 x rfl) h1 h2 hN ht h3
    exact fold_os hN ht l (k + 1) (s.does x) (fun j y hy => by
      have := h (j + 1) y hy
      rw [show k + 1 + j = k + (j + 1) by omega]; exact this) a1 a2 (a3.elim .inl fun e => by rw [e]; exact h3)
theorem Tk.ar (h : Tk d t N G f) : Ar (d.now.files f) := by
  rw [← h.now]
  exact fold_os h.fN h.tN d.steps 0 d.safe (fun j x hx => by rw [Nat.zero_add]; exact h.st j x hx) h.sf h.g1 h.sn
structure Cq (d : Dsk) (t : Byts) (N : Nms) (G : Int → List Byts) : Prop where
  qu : Qu d
  st : d.steps = []
  se : d.safe = d.now
  tt : Tn d t N G ∨ ∃ f, Tk d t N G f
theorem held_in {s : FS} {g : Int} (h : g ∈ s.names.map (·.2)) : heldF s g = s.files g := by unfold heldF; rw [if_pos h]
theorem held_out {s : FS} {g : Int} (h : g ∉ s.names.map (·.2)) : heldF s g = [] := by unfold heldF; rw [if_neg h]
theorem cq_of {s : FS} {last wth : Int} (hn : s.names = N ++ [(t, f)] ∨ s.names = N) (hf : Ar (s.files f)) (hg : Ot N G s) (ht : nget N t = none) (hN : f ∉ N.map (·.2)) (la : f ≤ last ∧ ∀ g ∈ N.map (·.2), g ≤ last) : Cq ⟨⟨s.names, heldF s⟩, ⟨s.names, heldF s⟩, [], last, false, 0, 0, wth⟩ t N G := by
  have hot : (∀ g ∈ N.map (·.2), g ∈ s.names.map (·.2)) → Ot N G ⟨s.names, heldF s⟩ := fun h => ⟨fun g hg' => by
    show heldF s g = _
    rw [held_in (h g hg')]; exact hg.g g hg'⟩
  refine ⟨⟨rfl, rfl, rfl⟩, rfl, rfl, ?_⟩
  rcases hn with e | e
  · have hsub : ∀ g ∈ N.map (·.2), g ∈ s.names.map (·.2) := fun g hg' => by rw [e, List.map_append]; exact List.mem_append_left _ hg'
    refine .inr ⟨f, e, rfl, .inl e, ?_, hot hsub, hot hsub, fun i x hx => (by simp at hx), ht, hN, la, fun g hg' => ?_⟩
    · show Ar (heldF s f)
      rw [held_in (by rw [e]; simp)]; exact hf
    · have hg' : last < g := hg'
      have : heldF s g = [] := held_out (by
        rw [e, List.map_append]
        intro hm
        rcases List.mem_append.1 hm with hm | hm
        · have := la.2 g hm; omega
        · simp at hm; have := la.1; omega)
      exact ⟨this, this⟩
  · have hsub : ∀ g ∈ N.map (·.2), g ∈ s.names.map (·.2) := fun g hg' => by rw [e]; exact hg'
    refine .inl ⟨e, rfl, rfl, hot hsub, ht, la.2, fun g hg' => ?_⟩
    have hg' : last < g := hg'
    have : heldF s g = [] := held_out (by
      rw [e]
      intro hm
      have := la.2 g hm; omega)
    exact ⟨this, this⟩
theorem Tk.crash (h : Tk d t N G f) (keep : List Bool) : Cq (d.crash keep) t N G := by
  obtain ⟨a1, a2, a3, a4⟩ := keep_os (G := G) keep h.fN h.tN d.steps 0 0 d.safe (fun j x hx => by rw [Nat.zero_add]; exact h.st j x hx) h.sf h.g1 h.sn
  exact cq_of a3 a1 a2 h.tN h.fN h.la
theorem Tn.crash (h : Tn d t N G) (keep : List Bool) : Cq (d.crash keep) t N G := by
  unfold Dsk.crash
  rw [h.st]
  have hn : d.safe.names = N := by rw [h.se]; exact h.names
  have ho : Ot N G d.safe := by rw [h.se]; exact h.g
  have : ∃ f, f ∉ N.map (·.2) ∧ f = d.last + 1 := ⟨_, fun hm => by have := h.la _ hm; omega, rfl⟩
  obtain ⟨f, hf, hfe⟩ := this
  have hsub : ∀ g ∈ N.map (·.2), g ∈ d.safe.names.map (·.2) := fun g hg' => by rw [hn]; exact hg'
  refine ⟨⟨rfl, rfl, rfl⟩, rfl, rfl, .inl ⟨hn, rfl, rfl, ⟨fun g hg' => ?_⟩, h.tN, h.la, fun g hg' => ?_⟩⟩
  · show heldF d.safe g = _
    rw [held_in (hsub g hg')]; exact ho.g g hg'
  · have hg' : d.last < g := hg'
    have : heldF d.safe g = [] := held_out (by
      rw [hn]
      intro hm
      have := h.la g hm; omega)
    exact ⟨this, this⟩
theorem Tk.step {d1 : Dsk} (h : Tk d1 t N G f) {x : Stp} (hx : x.file = f ∧ ((x.what = 1 ∧ x.n.toNat < 12 ∧ x.data.length = 64) ∨ x.what = 2)) : Tk { d1 with steps := d1.steps ++ [x], now := [x].foldl FS.does d1.now } t N G f := by
  have hos : ∀ i, OS t f i x := fun i => ⟨hx.1, hx.2.elim .inl fun e => .inr (.inl e)⟩
  have har := h.ar
  obtain ⟨a1, a2, a3, a4⟩ := does_os (hos 0) har h.g2 h.fN h.tN (.inl h.names)
  have hnm : (d1.now.does x).names = N ++ [(t, f)] := a3.elim id fun e => e.trans h.names
  refine ⟨hnm, ?_, h.sn, h.sf, h.g1, a2, ?_, h.tN, h.fN, h.la, fun g hg => ?_⟩
  · simp only [List.foldl_append, h.now]
  · intro i y hy
    rw [List.getElem?_append] at hy
    split at hy
    · exact h.st i y hy
    · cases hq : i - d1.steps.length with
      | zero => rw [hq] at hy; simp at hy; subst hy; exact hos i
      | succ n => rw [hq] at hy; simp at hy
  · obtain ⟨g1, g2⟩ := h.fr g hg
    have hgf : g ≠ f := by
      have := h.la.1
      have hg : d1.last < g := hg
      omega
    exact ⟨g1, (a4 g hgf).trans g2⟩
theorem Tk.put (h : Tk d t N G f) (hq0 : d.fault = 0) (hn : named t = true) {j : Nat} {data : Byts} (hl : data.length = 64) (hj : j ≤ (d.now.files f).length) (hj2 : j < 12) :
    ∃ d' e, d.put t j data = (d', e) ∧ Tk d' t N G f ∧ d'.fault = 0 ∧ (Qu d → e = 0 ∧ Qu d') ∧ (e = 0 → d'.down = false ∧ d'.now.files f = putS (d.now.files f) j data) := by
  unfold Dsk.put
  simp only [h.get, hn, hl, Option.getD_some]
  rw [if_neg (by simp; omega), if_neg (by simp; omega)]
  obtain ⟨d1, e, h1, h2, hf1, h70, h3, hq⟩ := stop_ap hq0
  unfold Dsk.more
  rw [h1]
  by_cases he : e = 0
  · subst he
    rw [if_neg (by simp)]
    refine ⟨_, _, rfl, (h.same h2).step ⟨rfl, .inl ⟨rfl, by simpa using hj2, hl⟩⟩, hf1, fun q => ⟨rfl, (hq q).2⟩, fun _ => ⟨h3 rfl, ?_⟩⟩
    simp [FS.does, updF, h2.n]
  · rw [if_pos he]
    exact ⟨_, _, rfl, h.same h2, hf1, fun q => absurd (hq q).1 he, fun h => absurd h he⟩
theorem Tk.cut (h : Tk d t N G f) (hq0 : d.fault = 0) {k : Nat} (hk : k ≤ (d.now.files f).length) :
    ∃ d' e, d.cut t k = (d', e) ∧ Tk d' t N G f ∧ d'.fault = 0 ∧ (Qu d → e = 0 ∧ Qu d') ∧ (e = 0 → d'.down = false ∧ d'.now.files f = (d.now.files f).take k) := by
  unfold Dsk.cut
  simp only [h.get]
  rw [if_neg (by omega)]
  obtain ⟨d1, e, h1, h2, hf1, h70, h3, hq⟩ := stop_ap hq0
  unfold Dsk.more
  rw [h1]
  by_cases he : e = 0
  · subst he
    rw [if_neg (by simp)]
    refine ⟨_, _, rfl, (h.same h2).step ⟨rfl, .inr rfl⟩, hf1, fun q => ⟨rfl, (hq q).2⟩, fun _ => ⟨h3 rfl, ?_⟩⟩
    simp [FS.does, updF, h2.n]
  · rw [if_pos he]
    exact ⟨_, _, rfl, h.same h2, hf1, fun q => absurd (hq q).1 he, fun h => absurd h he⟩
theorem Tk.sync (h : Tk d t N G f) (hq0 : d.fault = 0) : ∃ d' e, d.sync t = (d', e) ∧ e ≠ 70 ∧ Tk d' t N G f ∧ d'.fault = 0 ∧ (Qu d → e = 0 ∧ Qu d') ∧ (e = 0 → d'.down = false ∧ d'.now = d.now ∧ d'.steps = [] ∧ d'.safe = d'.now) := by
  unfold Dsk.sync
  rw [h.get]
  simp only []
  have hall : ∀ (s : FS), settleL (fun i x => if x.what = 1 ∨ x.what = 2 then decide (x.file = f) else decide ((i : Int) ≤ upto f d.steps)) 0 d.steps s = (d.steps.foldl FS.does s, []) := fun s => settle_all d.steps 0 s fun j x hx => by
    obtain ⟨g1, g2⟩ := h.st j x hx
    rw [Nat.zero_add]
    rcases g2 with ⟨g2, _⟩ | g2 | ⟨g2, rfl, _⟩
    · rw [if_pos (.inl g2)]; simpa using g1
    · rw [if_pos (.inr g2)]; simpa using g1
    · rw [if_neg (by rw [g2]; decide)]
      have : upto f d.steps = 0 := by
        cases hs : d.steps with
        | nil => rw [hs] at hx; simp at hx
        | cons y l =>
          rw [hs] at hx
          simp at hx
          subst hx
          unfold upto
          rw [List.findIdx?_cons]
          simp [g1, g2]
      rw [this]; simp
  obtain ⟨d1, e, h1, h2, hf1, h70, h3, hq⟩ := stop_ap hq0
  unfold Dsk.settle
  rw [h1]
  by_cases he : e = 0
  · subst he
    rw [if_neg (by simp)]
    have e1 := hall d1.safe
    rw [← h2.t] at e1
    simp only [h2.t] at e1 ⊢
    rw [e1]
    have hnow : d.steps.foldl FS.does d1.safe = d1.now := by rw [h2.s, h2.n]; exact h.now
    have hs := h.same h2
    refine ⟨_, _, rfl, by decide, ⟨hs.names, hnow, ?_, ?_, ?_, hs.g2, fun i x hx => (by simp at hx), h.tN, h.fN, hs.la, fun g hg => ?_⟩, hf1, fun q => ⟨rfl, (hq q).2⟩, fun _ => ⟨h3 rfl, h2.n, rfl, hnow⟩⟩
    · left
      show (d.steps.foldl FS.does d1.safe).names = _
      rw [hnow]; exact hs.names
    · show Ar ((d.steps.foldl FS.does d1.safe).files f)
      rw [hnow]; exact hs.ar
    · show Ot N G (d.steps.foldl FS.does d1.safe)
      rw [hnow]; exact hs.g2
    · have g2 := (hs.fr g hg).2
      refine ⟨?_, g2⟩
      show (d.steps.foldl FS.does d1.safe).files g = []
      rw [hnow]; exact g2
  · rw [if_pos he]
    exact ⟨_, _, rfl, h70, h.same h2, hf1, fun q => absurd (hq q).1 he, fun h => absurd h he⟩
theorem tk_puts (hn : named t = true) {B : Byts} : ∀ (m j : Nat) (d : Dsk), Tk d t N G f → d.fault = 0 → d.down = false → j ≤ (d.now.files f).length → j + m ≤ 12 →
    ∃ d' e, puts t B m j d = (d', e) ∧ Tk d' t N G f ∧ d'.fault = 0 ∧ (Qu d → e = 0 ∧ Qu d') ∧ (e = 0 → d'.down = false ∧ (d'.now.files f).length = max (d.now.files f).length (j + m) ∧ (∀ i, i < j → (d'.now.files f)[i]? = (d.now.files f)[i]?) ∧ ∀ i, j ≤ i → i < j + m → (d'.now.files f)[i]? = some (sector B i))
  | 0, j, d, h, hf, hd, hj, _ => ⟨d, 0, rfl, h, hf, fun q => ⟨rfl, q⟩, fun _ => ⟨hd, by omega, fun _ _ => rfl, fun i h1 h2 => by omega⟩⟩
  | m + 1, j, d, h, hf, hd, hj, hm => by
    obtain ⟨d1, e, h1, h2, hf1, hq, h3⟩ := h.put hf hn (data := sector B j) (sector_length B j) hj (by omega)
    have hu : puts t B (m + 1) j d = if (d.put t j (sector B j)).2 ≠ 0 then d.put t j (sector B j) else puts t B m (j + 1) (d.put t j (sector B j)).1 := rfl
    rw [h1] at hu
    by_cases he : e = 0
    · subst he
      rw [if_neg (by simp)] at hu
      obtain ⟨g1, g2⟩ := h3 rfl
      obtain ⟨p1, p2, p3⟩ := putS_get (x := sector B j) hj
      rw [← g2] at p1 p2 p3
      obtain ⟨d2, e2, k1, k2, kf, kq, k3⟩ := tk_puts hn (B := B) m (j + 1) d1 h2 hf1 g1 (by rw [p1]; omega) (by omega)
      refine ⟨d2, e2, hu.trans k1, k2, kf, fun q => kq (hq q).2, fun h0 => ?_⟩
      obtain ⟨a1, a2, a3, a4⟩ := k3 h0
      refine ⟨a1, by rw [a2, p1]; omega, fun i hi => (a3 i (by omega)).trans (p2 i hi), fun i hi hi2 => ?_⟩
      by_cases hij : i = j
      · subst hij; exact (a3 i (by omega)).trans p3
      · exact a4 i (by omega) (by omega)
    · rw [if_pos he] at hu
      exact ⟨d1, e, hu, h2, hf1, fun q => absurd (hq q).1 he, fun h => absurd h he⟩
theorem Tn.get (h : Tn d t N G) : nget d.now.names t = none := by rw [h.names]; exact h.tN
theorem Tn.put (h : Tn d t N G) (hq0 : d.fault = 0) (hn : named t = true) (hNl : N.length < 256) {data : Byts} (hl : data.length = 64) :
    ∃ d' e, d.put t ((0 : Nat) : Int) data = (d', e) ∧ d'.fault = 0 ∧ (Qu d → e = 0 ∧ Qu d') ∧ (e ≠ 0 → Tn d' t N G) ∧ (e = 0 → d'.down = false ∧ ∃ f, Tk d' t N G f ∧ d'.now.files f = [data]) := by
  unfold Dsk.put
  simp only [h.get, hn, hl, Option.getD_none]
  rw [if_neg (by simp), if_neg (by rw [h.names]; simp; omega)]
  obtain ⟨d1, e, h1, h2, hf1, h70, h3, hq⟩ := stop_ap hq0
  unfold Dsk.more
  rw [h1]
  have hE := h.same h2
  by_cases he : e = 0
  · subst he
    simp only [ne_eq, not_true_eq_false, if_false]
    have hfn : d.last + 1 ∉ N.map (·.2) := fun hm => by have := h.la _ hm; omega
    have hl1 : d1.last = d.last := h2.l
    have hst : d1.steps ++ [⟨0, d.last + 1, 0, zsec, t, []⟩, ⟨1, d.last + 1, ((0 : Nat) : Int), data, [], []⟩] = [⟨0, d.last + 1, 0, zsec, t, []⟩, ⟨1, d.last + 1, ((0 : Nat) : Int), data, [], []⟩] := by rw [hE.st]; rfl
    have hfe := (hE.fr (d.last + 1) (by omega)).2
    have hfs := (hE.fr (d.last + 1) (by omega)).1
    have hnm : nset d1.now.names t (d.last + 1) = N ++ [(t, d.last + 1)] := by rw [hE.names]; exact nset_new h.tN
    refine ⟨_, _, rfl, hf1, fun q => ⟨rfl, (hq q).2⟩, fun h => absurd rfl h, fun _ => ⟨h3 rfl, d.last + 1, ⟨?_, ?_, ?_, ?_, ?_, ?_, ?_, h.tN, hfn, ?_, ?_⟩, ?_⟩⟩
    · simp only [List.foldl_cons, List.foldl_nil, FS.does]
      simp only [if_pos]
      exact hnm
    · show List.foldl FS.does d1.safe (d1.steps ++ _) = _
      rw [hst, hE.se]
    · exact .inr (by show d1.safe.names = N; rw [hE.se]; exact hE.names)
    · show Ar (d1.safe.files (d.last + 1))
      rw [hfs]; exact Ar.nil
    · show Ot N G d1.safe
      rw [hE.se]; exact hE.g
    · refine ⟨fun g hg => ?_⟩
      have hgl := h.la g hg
      simp [FS.does, updF]
      rw [if_neg (by omega)]
      exact hE.g.g g hg
    · intro i x hx
      have hx : (d1.steps ++ [⟨0, d.last + 1, 0, zsec, t, []⟩, ⟨1, d.last + 1, ((0 : Nat) : Int), data, [], []⟩] : List Stp)[i]? = some x := hx
      rw [hst] at hx
      match i with
      | 0 => simp at hx; subst hx; exact ⟨rfl, .inr (.inr ⟨rfl, rfl, rfl⟩)⟩
      | 1 => simp at hx; subst hx; exact ⟨rfl, .inl ⟨rfl, by simp, hl⟩⟩
      | i + 2 => simp at hx
    · exact ⟨Int.le_refl _, fun g hg => by have := h.la g hg; show g ≤ d.last + 1; omega⟩
    · intro g hg
      have hg : d.last + 1 < g := hg
      obtain ⟨g1, g2⟩ := hE.fr g (by omega)
      refine ⟨g1, ?_⟩
      simp [FS.does, updF]
      rw [if_neg (by omega)]; exact g2
    · simp [FS.does, updF, putS, hfe]
  · simp only [ne_eq, he, not_false_eq_true, if_true]
    exact ⟨_, _, rfl, hf1, fun q => absurd (hq q).1 he, fun _ => hE, fun h => absurd h he⟩
end
end Go.Proofs.Ytgobllfkiannfaa
