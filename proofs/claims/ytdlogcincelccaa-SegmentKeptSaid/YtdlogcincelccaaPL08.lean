/-
  A segment's file on a disk whose power may go, purely: the disk.
  No condition beyond those that each theorem names.
-/
import Derived.Test.YtdlogcincelccaaPK08
set_option linter.unusedSimpArgs false
open Go.Sx
set_option linter.unusedVariables false
set_option linter.unusedSimpArgs false
namespace Go.Proofs.Ytdlogcincelccaa
def SP (b : Byts) (n : Nat) (nm : Byts) (x : Stp) : Prop := (x.what = 0 ∧ x.name = nm) ∨ (x.what = 1 ∧ x.n.toNat < nsec b ∧ PSec b n x.n.toNat x.data) ∨ (x.what = 2 ∧ n ≤ x.n.toNat * 62)
structure Em (d : Dsk) : Prop where
  fault : d.fault = 0
  n1 : d.safe.names = []
  n2 : d.now.names = []
  st : d.steps = []
  f1 : ∀ g, d.safe.files g = []
  f2 : ∀ g, d.now.files g = []
structure Kd (d : Dsk) (nm : Byts) (f : Int) (b : Byts) (n : Nat) : Prop where
  fault : d.fault = 0
  names : d.now.names = [(nm, f)]
  now : d.steps.foldl FS.does d.safe = d.now
  sn : d.safe.names = [(nm, f)] ∨ (d.safe.names = [] ∧ n = 0)
  sf : PF b n (d.safe.files f)
  st : ∀ x ∈ d.steps, SP b n nm x
  st0 : ∀ (i : Nat) (x : Stp), d.steps[i]? = some x → x.file = f ∧ (x.what = 1 ∨ x.what = 2 ∨ (x.what = 0 ∧ i = 0))
  nb : n ≤ b.length
def Dd (d : Dsk) (nm b : Byts) (n : Nat) : Prop := (Em d ∧ n = 0) ∨ ∃ f, Kd d nm f b n
def Lv (d : Dsk) (nm B : Byts) (n : Nat) : Prop := d.down = false ∧ ((Em d ∧ B = [] ∧ n = 0) ∨ ∃ f, Kd d nm f B n ∧ Sect (d.now.files f) B)
structure Same (d d' : Dsk) : Prop where
  s : d'.safe = d.safe
  n : d'.now = d.now
  t : d'.steps = d.steps
  l : d'.last = d.last
  f : d'.fault = d.fault
section
variable {d d' : Dsk} {nm b : Byts} {f : Int} {n n' : Nat}
theorem Lv.dd (h : Lv d nm b n) : Dd d nm b n := by
  rcases h.2 with ⟨h1, _, h3⟩ | ⟨f, h, _⟩
  · exact .inl ⟨h1, h3⟩
  · exact .inr ⟨f, h⟩
theorem Em.same (h : Em d) (e : Same d d') : Em d' := ⟨by rw [e.f]; exact h.fault, by rw [e.s]; exact h.n1, by rw [e.n]; exact h.n2, by rw [e.t]; exact h.st, by rw [e.s]; exact h.f1, by rw [e.n]; exact h.f2⟩
theorem Kd.same (h : Kd d nm f b n) (e : Same d d') : Kd d' nm f b n :=
  ⟨by rw [e.f]; exact h.fault, by rw [e.n]; exact h.names, by rw [e.t, e.s, e.n]; exact h.now, by rw [e.s]; exact h.sn, by rw [e.s]; exact h.sf, by rw [e.t]; exact h.st, by rw [e.t]; exact h.st0, h.nb⟩
theorem Kd.app {t : Byts} (h : Kd d nm f b n) : Kd d nm f (b ++ t) n :=
  ⟨h.fault, h.names, h.now, h.sn, h.sf.app, fun x hx => (h.st x hx).imp id (.imp (fun g => ⟨g.1, by have := g.2.1; unfold nsec at *; simp; omega, g.2.2.app⟩) id), h.st0, by simp; have := h.nb; omega⟩
theorem Kd.le (h : Kd d nm f b n) (hn : n' ≤ n) : Kd d nm f b n' :=
  ⟨h.fault, h.names, h.now, h.sn.imp id fun g => ⟨g.1, by omega⟩, h.sf.le hn, fun x hx => (h.st x hx).imp id (.imp (fun g => ⟨g.1, g.2.1, g.2.2.le hn⟩) fun g => ⟨g.1, by omega⟩), h.st0, by have := h.nb; omega⟩
theorem Dd.app {t : Byts} (h : Dd d nm b n) : Dd d nm (b ++ t) n := h.imp id fun ⟨f, h⟩ => ⟨f, h.app⟩
theorem Dd.le (h : Dd d nm b n) (hn : n' ≤ n) : Dd d nm b n' := h.imp (fun g => ⟨g.1, by omega⟩) fun ⟨f, h⟩ => ⟨f, h.le hn⟩
theorem stop_ap (h : d.fault = 0) : ∃ d1 e, d.stopped = (d1, e) ∧ Same d d1 ∧ e ≠ 70 ∧ (e = 0 → d1.down = false) ∧ (Qu d → e = 0 ∧ d1 = d) := by
  obtain ⟨a, bb, c, l, dn, ar, fa, wt⟩ := d
  simp only at h
  subst h
  unfold Dsk.stopped
  cases dn with
  | true => exact ⟨_, _, rfl, ⟨rfl, rfl, rfl, rfl, rfl⟩, by decide, (fun h => (by cases h)), fun h => (by cases h.1)⟩
  | false =>
    simp only [Bool.false_eq_true, if_false]
    split
    · rename_i h
      refine ⟨_, _, rfl, ⟨rfl, rfl, rfl, rfl, rfl⟩, by decide, (fun h => (by cases h)), fun hq => ?_⟩
      obtain ⟨_, h2, _⟩ := hq
      simp only at h2
      subst h2
      cases h
    · refine ⟨_, _, rfl, ⟨rfl, rfl, rfl, rfl, rfl⟩, by simp [spent], fun _ => rfl, fun hq => ?_⟩
      obtain ⟨_, h2, _⟩ := hq
      simp only at h2
      subst h2
      exact ⟨rfl, rfl⟩
theorem does_file {x : Stp} {s : FS} {f : Int} (hs : PF b n (s.files f)) (hb : n ≤ b.length) (hx : SP b n nm x) (hf : x.file = f) : PF b n ((s.does x).files f) := by
  unfold FS.does
  rcases hx with ⟨g, _⟩ | ⟨g, g2⟩ | ⟨g, g2⟩
  · rw [if_pos g]; exact hs
  · rw [if_neg (by omega), if_pos g]
    show PF b n (updF _ _ _ f)
    unfold updF
    rw [if_pos hf.symm, hf]
    exact hs.put hb g2.1 g2.2
  · rw [if_neg (by omega), if_neg (by omega), if_pos g]
    show PF b n (updF _ _ _ f)
    unfold updF
    rw [if_pos hf.symm, hf]
    exact hs.cut g2
theorem does_names {x : Stp} {s : FS} {f : Int} (hs : s.names = [(nm, f)] ∨ s.names = []) (hx : SP b n nm x) (hf : x.file = f) : ((s.does x).names = [(nm, f)] ∨ (s.does x).names = s.names) := by
  unfold FS.does
  rcases hx with ⟨g, g2⟩ | ⟨g, _⟩ | ⟨g, _⟩
  · rw [if_pos g]
    left
    show nset s.names x.name x.file = _
    rw [g2, hf]
    rcases hs with e | e <;> rw [e] <;> simp [nset]
  · rw [if_neg (by omega), if_pos g]; exact .inr rfl
  · rw [if_neg (by omega), if_neg (by omega), if_pos g]; exact .inr rfl
theorem keep_ok (keep : List Bool) {f : Int} (hb : n ≤ b.length) : ∀ (l : List Stp) (i : Nat) (s : FS), (∀ x ∈ l, SP b n nm x ∧ x.file = f) → (s.names = [(nm, f)] ∨ (s.names = [] ∧ n = 0)) → PF b n (s.files f) →
    ((keepL keep i l s).names = [(nm, f)] ∨ ((keepL keep i l s).names = [] ∧ n = 0)) ∧ PF b n ((keepL keep i l s).files f)
  | [], i, s, _, h1, h2 => ⟨h1, h2⟩
  | x :: l, i, s, h, h1, h2 => by
    obtain ⟨hx, hf⟩ := h x List.mem_cons_self
    simp only [keepL]
    refine keep_ok keep hb l (i + 1) _ (fun y hy => h y (List.mem_cons_of_mem _ hy)) ?_ ?_
    · split
      · rcases does_names (h1.imp id (·.1)) hx hf with g | g
        · exact .inl g
        · rw [g]; exact h1
      · exact h1
    · split
      · exact does_file h2 hb hx hf
      · exact h2
def Cs (d : Dsk) (nm b : Byts) (n : Nat) : Prop := Qu d ∧ d.steps = [] ∧ d.safe = d.now ∧ ((Em d ∧ n = 0) ∨ ∃ f, Kd d nm f b n)
theorem crash_ok (h : Dd d nm b n) (keep : List Bool) : Cs (d.crash keep) nm b n := by
  refine ⟨⟨rfl, rfl, rfl⟩, rfl, rfl, ?_⟩
  rcases h with ⟨h, hn⟩ | ⟨f, h⟩
  · refine .inl ⟨⟨rfl, ?_, ?_, rfl, ?_, ?_⟩, hn⟩
    · unfold Dsk.crash; rw [h.st]; exact h.n1
    · unfold Dsk.crash; rw [h.st]; exact h.n1
    all_goals
      intro g
      unfold Dsk.crash
      rw [h.st]
      show heldF d.safe g = []
      unfold heldF
      rw [h.n1]; simp
  · obtain ⟨h1, h2⟩ := keep_ok (nm := nm) keep (f := f) h.nb d.steps 0 d.safe (fun x hx => ⟨h.st x hx, by
      obtain ⟨i, hi, e⟩ := List.getElem_of_mem hx
      exact (h.st0 i x (by rw [List.getElem?_eq_getElem hi, e])).1⟩) h.sn h.sf
    unfold Dsk.crash
    generalize keepL keep 0 d.steps d.safe = s at *
    rcases h1 with e | ⟨e, hn⟩
    · refine .inr ⟨f, rfl, e, rfl, .inl e, ?_, fun x hx => (by cases hx), fun i x hx => (by simp at hx), h.nb⟩
      show PF b n (heldF s f)
      unfold heldF
      rw [e, if_pos (by simp)]
      exact h2
    · refine .inl ⟨⟨rfl, e, e, rfl, ?_, ?_⟩, hn⟩
      all_goals
        intro g
        show heldF s g = []
        unfold heldF
        rw [e]; simp
theorem Kd.get (h : Kd d nm f b n) : nget d.now.names nm = some f := by rw [h.names]; simp [nget]
theorem Em.get (h : Em d) : nget d.now.names nm = none := by rw [h.n2]; rfl
theorem Kd.step {d1 : Dsk} (h : Kd d1 nm f b n) {x : Stp} (hx : SP b n nm x) (hf : x.file = f) (hw : x.what = 1 ∨ x.what = 2) : Kd { d1 with steps := d1.steps ++ [x], now := [x].foldl FS.does d1.now } nm f b n := by
  refine ⟨h.fault, ?_, ?_, h.sn, h.sf, ?_, st_snoc h.st0 ⟨hf, hw⟩, h.nb⟩
  · rcases hw with e | e <;> simp [FS.does, e, h.names]
  · simp only [List.foldl_append, h.now]
  · intro y hy
    rcases List.mem_append.1 hy with hy | hy
    · exact h.st y hy
    · simp at hy; subst hy; exact hx
theorem Kd.put (h : Kd d nm f b n) (hn : named nm = true) {j : Nat} {data : Byts} (hl : data.length = 64) (hj : j ≤ (d.now.files f).length) (hj2 : j < 4096) (hjb : j < nsec b) (hp : PSec b n j data) :
    ∃ d' e, d.put nm j data = (d', e) ∧ Kd d' nm f b n ∧ (Qu d → e = 0 ∧ Qu d') ∧ (e = 0 → d'.down = false ∧ d'.now.files f = putS (d.now.files f) j data) := by
  unfold Dsk.put
  simp only [h.get, hn, hl, Option.getD_some]
  rw [if_neg (by simp; omega), if_neg (by simp; omega)]
  obtain ⟨d1, e, h1, h2, h70, h3, hq⟩ := stop_ap h.fault
  unfold Dsk.more
  rw [h1]
  by_cases he : e = 0
  · subst he
    rw [if_neg (by simp)]
    refine ⟨_, _, rfl, (h.same h2).step (.inr (.inl ⟨rfl, hjb, hp⟩)) rfl (.inl rfl), fun q => ⟨rfl, by have := (hq q).2; subst this; exact q⟩, fun _ => ⟨h3 rfl, ?_⟩⟩
    simp [FS.does, updF, h2.n]
  · rw [if_pos he]
    exact ⟨_, _, rfl, h.same h2, fun q => absurd (hq q).1 he, fun h => absurd h he⟩
theorem Kd.cut (h : Kd d nm f b n) {k : Nat} (hk : k ≤ (d.now.files f).length) (hp : n ≤ k * 62) :
    ∃ d' e, d.cut nm k = (d', e) ∧ Kd d' nm f b n ∧ (Qu d → e = 0 ∧ Qu d') ∧ (e = 0 → d'.down = false ∧ d'.now.files f = (d.now.files f).take k) := by
  unfold Dsk.cut
  simp only [h.get]
  rw [if_neg (by omega)]
  obtain ⟨d1, e, h1, h2, h70, h3, hq⟩ := stop_ap h.fault
  unfold Dsk.more
  rw [h1]
  by_cases he : e = 0
  · subst he
    rw [if_neg (by simp)]
    refine ⟨_, _, rfl, (h.same h2).step (.inr (.inr ⟨rfl, hp⟩)) rfl (.inr rfl), fun q => ⟨rfl, by have := (hq q).2; subst this; exact q⟩, fun _ => ⟨h3 rfl, ?_⟩⟩
    simp [FS.does, updF, h2.n]
  · rw [if_pos he]
    exact ⟨_, _, rfl, h.same h2, fun q => absurd (hq q).1 he, fun h => absurd h he⟩
theorem fold_ok {f : Int} (hb : n ≤ b.length) : ∀ (l : List Stp) (s : FS), (∀ x ∈ l, SP b n nm x ∧ x.file = f) → PF b n (s.files f) → PF b n ((l.foldl FS.does s).files f)
  | [], s, _, h => h
  | x :: l, s, h, hs => by
    obtain ⟨hx, hf⟩ := h x List.mem_cons_self
    exact fold_ok hb l _ (fun y hy => h y (List.mem_cons_of_mem _ hy)) (does_file hs hb hx hf)
theorem Kd.pn (h : Kd d nm f b n) : PF b n (d.now.files f) := by
  rw [← h.now]
  exact fold_ok (nm := nm) h.nb _ _ (fun x hx => ⟨h.st x hx, by
    obtain ⟨i, hi, e⟩ := List.getElem_of_mem hx
    exact (h.st0 i x (by rw [List.getElem?_eq_getElem hi, e])).1⟩) h.sf
theorem Kd.sync (h : Kd d nm f b n) : ∃ d' e, d.sync nm = (d', e) ∧ e ≠ 70 ∧ Kd d' nm f b n ∧ (Qu d → e = 0 ∧ Qu d') ∧ (e = 0 → d'.down = false ∧ d'.now = d.now ∧ d'.steps = [] ∧ d'.safe = d'.now) := by
  unfold Dsk.sync
  rw [h.get]
  simp only []
  have hall : ∀ (s : FS), settleL (fun i x => if x.what = 1 ∨ x.what = 2 then decide (x.file = f) else decide ((i : Int) ≤ upto f d.steps)) 0 d.steps s = (d.steps.foldl FS.does s, []) := fun s => settle_all d.steps 0 s fun j x hx => by
    obtain ⟨g1, g2⟩ := h.st0 j x hx
    rw [Nat.zero_add]
    rcases g2 with g2 | g2 | ⟨g2, rfl⟩
    · rw [if_pos (.inl g2)]; simpa using g1
    · rw [if_pos (.inr g2)]; simpa using g1
    · rw [if_neg (by rw [g2]; decide)]
      have : upto f d.steps = 0 := by
        cases hs : d.steps with
        | nil => rw [hs] at hx; simp at hx
        | cons y l =>
          rw [hs] at hx
          simp at hx
          subst hx
          unfold upto
          rw [List.findIdx?_cons]
          simp [g1, g2]
      rw [this]; simp
  obtain ⟨d1, e, h1, h2, h70, h3, hq⟩ := stop_ap h.fault
  unfold Dsk.settle
  rw [h1]
  by_cases he : e = 0
  · subst he
    rw [if_neg (by simp)]
    have e1 := hall d1.safe
    rw [← h2.t] at e1
    simp only [h2.t] at e1 ⊢
    rw [e1]
    have hnow : d.steps.foldl FS.does d1.safe = d1.now := by rw [h2.s, h2.n]; exact h.now
    refine ⟨_, _, rfl, by decide, ⟨(h.same h2).fault, (h.same h2).names, hnow, ?_, ?_, fun x hx => (by cases hx), fun i x hx => (by simp at hx), h.nb⟩, fun q => ⟨rfl, by have := (hq q).2; subst this; exact q⟩, fun _ => ⟨h3 rfl, h2.n, rfl, hnow⟩⟩
    · left
      show (d.steps.foldl FS.does d1.safe).names = _
      rw [hnow]; exact (h.same h2).names
    · show PF b n ((d.steps.foldl FS.does d1.safe).files f)
      rw [hnow]; exact (h.same h2).pn
  · rw [if_pos he]
    exact ⟨_, _, rfl, h70, h.same h2, fun q => absurd (hq q).1 he, fun h => absurd h he⟩
theorem kd_puts (hn : named nm = true) {B : Byts} : ∀ (m j : Nat) (d : Dsk), Kd d nm f b n → d.down = false → j ≤ (d.now.files f).length → j + m ≤ 4096 → j + m ≤ nsec b → (∀ i, j ≤ i → i < j + m → PSec b n i (sector B i)) →
    ∃ d' e, puts nm B m j d = (d', e) ∧ Kd d' nm f b n ∧ (Qu d → e = 0 ∧ Qu d') ∧ (e = 0 → d'.down = false ∧ (d'.now.files f).length = max (d.now.files f).length (j + m) ∧ (∀ i, i < j → (d'.now.files f)[i]? = (d.now.files f)[i]?) ∧ ∀ i, j ≤ i → i < j + m → (d'.now.files f)[i]? = some (sector B i))
  | 0, j, d, h, hd, hj, _, _, _ => ⟨d, 0, rfl, h, fun q => ⟨rfl, q⟩, fun _ => ⟨hd, by omega, fun _ _ => rfl, fun i h1 h2 => by omega⟩⟩
  | m + 1, j, d, h, hd, hj, hm, hmb, hp => by
    obtain ⟨d1, e, h1, h2, hq, h3⟩ := h.put hn (data := sector B j) (sector_length B j) hj (by omega) (by omega) (hp j (Nat.le_refl _) (by omega))
    have hu : puts nm B (m + 1) j d = if (d.put nm j (sector B j)).2 ≠ 0 then d.put nm j (sector B j) else puts nm B m (j + 1) (d.put nm j (sector B j)).1 := rfl
    rw [h1] at hu
    by_cases he : e = 0
    · subst he
      rw [if_neg (by simp)] at hu
      obtain ⟨g1, g2⟩ := h3 rfl
      obtain ⟨p1, p2, p3⟩ := putS_get (x := sector B j) hj
      rw [← g2] at p1 p2 p3
      obtain ⟨d2, e2, k1, k2, kq, k3⟩ := kd_puts hn (B := B) m (j + 1) d1 h2 g1 (by rw [p1]; omega) (by omega) (by omega) fun i hi hi2 => hp i (by omega) (by omega)
      refine ⟨d2, e2, hu.trans k1, k2, fun q => kq (hq q).2, fun h0 => ?_⟩
      obtain ⟨a1, a2, a3, a4⟩ := k3 h0
      refine ⟨a1, by rw [a2, p1]; omega, fun i hi => (a3 i (by omega)).trans (p2 i hi), fun i hi hi2 => ?_⟩
      by_cases hij : i = j
      · subst hij; exact (a3 i (by omega)).trans p3
      · exact a4 i (by omega) (by omega)
    · rw [if_pos he] at hu
      exact ⟨d1, e, hu, h2, fun q => absurd (hq q).1 he, fun h => absurd h he⟩
theorem Em.put (h : Em d) (hn : named nm = true) {data : Byts} (hl : data.length = 64) (hjb : 0 < nsec b) (hp : PSec b 0 0 data) :
    ∃ d' e, d.put nm ((0 : Nat) : Int) data = (d', e) ∧ (e ≠ 0 → Em d') ∧ (e = 0 → d'.down = false ∧ ∃ f, Kd d' nm f b 0 ∧ d'.now.files f = [data]) := by
  unfold Dsk.put
  simp only [h.get, h.n2, hn, hl, Option.getD_none]
  rw [if_neg (by simp), if_neg (by simp)]
  obtain ⟨d1, e, h1, h2, h70, h3, hq⟩ := stop_ap h.fault
  unfold Dsk.more
  rw [h1]
  have hE := h.same h2
  by_cases he : e = 0
  · subst he
    simp only [ne_eq, not_true_eq_false, if_false]
    refine ⟨_, _, rfl, fun h => absurd rfl h, fun _ => ⟨h3 rfl, d.last + 1, ⟨hE.fault, ?_, ?_, ?_, ?_, ?_, ?_, Nat.zero_le _⟩, ?_⟩⟩
    · simp [FS.does, nset, hE.n2]
    · show List.foldl FS.does d1.safe (d1.steps ++ _) = _
      rw [hE.st]
      have e1 : d1.safe = d1.now := by
        obtain ⟨⟨a1, a2⟩, ⟨b1, b2⟩, _⟩ := d1
        have h1 := hE.n1; have h2 := hE.n2; have h3 := hE.f1; have h4 := hE.f2
        simp only at h1 h2 h3 h4 ⊢
        rw [h1, h2, funext h3, funext h4]
      rw [e1]; rfl
    · exact .inr ⟨hE.n1, rfl⟩
    · show PF b 0 (d1.safe.files _)
      rw [hE.f1]; exact PF.nil
    · intro x hx
      rw [show ({ d1 with steps := d1.steps ++ [⟨0, d.last + 1, 0, zsec, nm, []⟩, ⟨1, d.last + 1, ((0 : Nat) : Int), data, [], []⟩], now := _, last := d.last + 1 } : Dsk).steps = d1.steps ++ [⟨0, d.last + 1, 0, zsec, nm, []⟩, ⟨1, d.last + 1, ((0 : Nat) : Int), data, [], []⟩] from rfl, hE.st] at hx
      simp at hx
      rcases hx with rfl | rfl
      · exact .inl ⟨rfl, rfl⟩
      · exact .inr (.inl ⟨rfl, hjb, hp⟩)
    · intro i x hx
      rw [show ({ d1 with steps := d1.steps ++ [⟨0, d.last + 1, 0, zsec, nm, []⟩, ⟨1, d.last + 1, ((0 : Nat) : Int), data, [], []⟩], now := _, last := d.last + 1 } : Dsk).steps = d1.steps ++ [⟨0, d.last + 1, 0, zsec, nm, []⟩, ⟨1, d.last + 1, ((0 : Nat) : Int), data, [], []⟩] from rfl, hE.st] at hx
      match i with
      | 0 => simp at hx; subst hx; exact ⟨rfl, .inr (.inr ⟨rfl, rfl⟩)⟩
      | 1 => simp at hx; subst hx; exact ⟨rfl, .inl rfl⟩
      | i + 2 => simp at hx
    · simp [FS.does, updF, putS, hE.f2]
  · simp only [ne_eq, he, not_false_eq_true, if_true]
    exact ⟨_, _, rfl, fun _ => hE, fun h => absurd h he⟩
theorem kd_clean {B : Byts} (h : Kd d nm f b n) (hs : d.steps = []) (he : d.safe = d.now) (hS : Sect (d.now.files f) B) : Kd d nm f B B.length :=
  ⟨h.fault, h.names, h.now, .inl (by rw [he]; exact h.names), by rw [he]; exact hS.pf, fun x hx => (by rw [hs] at hx; cases hx), h.st0, Nat.le_refl _⟩
theorem trim_any (hn : named nm = true) {m : Nat} (h : Kd d nm f b n) (hd : d.down = false) (h1 : n ≤ m) (h2 : m ≤ b.length) (hl : m / 62 ≤ (d.now.files f).length) (hbl : b.length ≤ 200000) :
    ∃ d' e, trimD nm (b.take m) d = (d', e) ∧ Kd d' nm f b n ∧ (Qu d → e = 0 ∧ Qu d') ∧ (e = 0 → d'.down = false ∧ d'.steps = [] ∧ d'.safe = d'.now ∧ (d'.now.files f).length = nsec (b.take m) ∧ (∀ i, i < m / 62 → (d'.now.files f)[i]? = (d.now.files f)[i]?) ∧ ∀ i, m / 62 ≤ i → i < nsec (b.take m) → (d'.now.files f)[i]? = some (sector (b.take m) i)) := by
  have hml : (b.take m).length = m := by simp; omega
  have hns : nsec (b.take m) = (m + 61) / 62 := by unfold nsec; rw [hml]
  have hnb : nsec b = (b.length + 61) / 62 := rfl
  unfold trimD
  rw [hml]
  obtain ⟨d1, e1, p1, p2, pq, p3⟩ := kd_puts hn (B := b.take m) (nsec (b.take m) - m / 62) (m / 62) d h hd hl (by omega) (by omega) fun i _ _ => psec_sector h1 h2
  rw [show m / 62 + (nsec (b.take m) - m / 62) = nsec (b.take m) by omega] at p3
  rw [p1]
  by_cases he1 : e1 = 0
  · subst he1
    simp only [ne_eq, not_true_eq_false, if_false]
    obtain ⟨a1, a2, a3, a4⟩ := p3 rfl
    obtain ⟨d2, e2, c1, c2, cq, c3⟩ := p2.cut (k := nsec (b.take m)) (by rw [a2]; omega) (by omega)
    rw [c1]
    by_cases he2 : e2 = 0
    · subst he2
      simp only [not_true_eq_false, if_false]
      obtain ⟨b1, b2⟩ := c3 rfl
      obtain ⟨d3, e3, y1, _, y2, yq, y3⟩ := c2.sync
      rw [y1]
      refine ⟨d3, e3, rfl, y2, fun q => yq (cq (pq q).2).2, fun h0 => ?_⟩
      obtain ⟨z1, z2, z3, z4⟩ := y3 h0
      have key : ∀ i, i < nsec (b.take m) → (d3.now.files f)[i]? = (d1.now.files f)[i]? := fun i hi => by
        rw [z2, b2, List.getElem?_take, if_pos hi]
      refine ⟨z1, z3, z4, by rw [z2, b2, List.length_take, a2]; omega, fun i hi => (key i (by omega)).trans (a3 i hi), fun i hi hi2 => (key i hi2).trans (a4 i hi hi2)⟩
    · simp only [he2, not_false_eq_true, if_true]
      exact ⟨d2, e2, rfl, c2, fun q => absurd (cq (pq q).2).1 he2, fun h => absurd h he2⟩
  · simp only [ne_eq, he1, not_false_eq_true, if_true]
    exact ⟨d1, e1, rfl, p2, fun q => absurd (pq q).1 he1, fun h => absurd h he1⟩
theorem trim_sect {m : Nat} {ss tt : List Byts} {B : Byts} (hm : m ≤ B.length) (hl : tt.length = nsec (B.take m)) (h1 : ∀ i, i < m / 62 → tt[i]? = ss[i]?) (h2 : ∀ i, m / 62 ≤ i → i < nsec (B.take m) → tt[i]? = some (sector (B.take m) i))
    (hs : ∀ i, (i + 1) * 62 ≤ m → ∃ g : i < ss.length, SecOk (B.take m) i ss[i]) : Sect tt (B.take m) := by
  refine ⟨hl, fun i hi => ?_⟩
  have key : ∀ x, tt[i]? = some x → SecOk (B.take m) i x → SecOk (B.take m) i tt[i] := fun x hx hs => by
    rw [List.getElem?_eq_getElem hi] at hx
    cases hx; exact hs
  by_cases hif : i < m / 62
  · obtain ⟨g, hs⟩ := hs i (by omega)
    exact key _ ((h1 i hif).trans (List.getElem?_eq_getElem g)) hs
  · exact key _ (h2 i (by omega) (by omega)) (sector_ok _ i)
theorem lv_app (hn : named nm = true) {B t : Byts} (h : Lv d nm B n) (hl : B.length + (4 + t.length) ≤ 200000) : ∃ d' e, puts nm (B ++ frame t) (nsec (B ++ frame t) - B.length / 62) (B.length / 62) d = (d', e) ∧ Dd d' nm (B ++ frame t) n ∧ (e = 0 → Lv d' nm (B ++ frame t) n) := by
  have hbl : (B ++ frame t).length = B.length + (4 + t.length) := by rw [List.length_append, frame_length]
  obtain ⟨hd, h⟩ := h
  have hnA : nsec (B ++ frame t) = (B.length + (4 + t.length) + 61) / 62 := by unfold nsec; rw [hbl]
  rcases h with ⟨hE, rfl, rfl⟩ | ⟨f, hK, hS⟩
  · rw [List.nil_append] at hbl hnA ⊢
    obtain ⟨m, hm⟩ : ∃ m, nsec (frame t) = m + 1 := ⟨nsec (frame t) - 1, by omega⟩
    have hsec : ∀ i, PSec (frame t) 0 i (sector (frame t) i) := fun i => by
      have := psec_sector (b := frame t) (n := 0) (m := (frame t).length) (i := i) (Nat.zero_le _) (Nat.le_refl _)
      rw [List.take_length] at this; exact this
    obtain ⟨d1, e1, q1, q2, q3⟩ := hE.put hn (b := frame t) (sector_length (frame t) 0) (by omega) (hsec 0)
    have hu : puts nm (frame t) (nsec (frame t) - ([] : Byts).length / 62) (([] : Byts).length / 62) d = if (d.put nm ((0 : Nat) : Int) (sector (frame t) 0)).2 ≠ 0 then d.put nm ((0 : Nat) : Int) (sector (frame t) 0) else puts nm (frame t) m 1 (d.put nm ((0 : Nat) : Int) (sector (frame t) 0)).1 := by
      show puts nm (frame t) (nsec (frame t)) 0 d = _
      rw [hm]; rfl
    rw [q1] at hu
    rw [hu]
    by_cases he : e1 = 0
    · subst he
      simp only [ne_eq, not_true_eq_false, if_false]
      obtain ⟨g1, f, g2, g3⟩ := q3 rfl
      obtain ⟨d2, e2, k1, k2, _, k3⟩ := kd_puts hn (B := frame t) m 1 d1 g2 g1 (by rw [g3]; simp) (by omega) (by omega) fun i _ _ => hsec i
      refine ⟨d2, e2, k1, .inr ⟨f, k2⟩, fun h0 => ?_⟩
      obtain ⟨a1, a2, a3, a4⟩ := k3 h0
      rw [g3] at a2 a3
      refine ⟨a1, .inr ⟨f, k2, ⟨by rw [a2]; simp; omega, fun i hi => ?_⟩⟩⟩
      have hi' : i < 1 + m := by rw [a2] at hi; simp at hi; omega
      have key : ∀ x, (d2.now.files f)[i]? = some x → SecOk (frame t) i x → SecOk (frame t) i (d2.now.files f)[i] := fun x hx hs => by
        rw [List.getElem?_eq_getElem hi] at hx
        cases hx; exact hs
      by_cases hif : i < 1
      · obtain rfl : i = 0 := by omega
        exact key _ ((a3 0 (by omega)).trans rfl) (sector_ok _ 0)
      · exact key _ (a4 i (by omega) (by omega)) (sector_ok _ i)
    · simp only [ne_eq, he, not_false_eq_true, if_true]
      exact ⟨d1, e1, rfl, .inl ⟨q2 he, rfl⟩, fun h => absurd h he⟩
  · have hlen := hS.len
    have hnB : nsec B = (B.length + 61) / 62 := rfl
    obtain ⟨d1, e1, p1, p2, _, p3⟩ := kd_puts hn (B := B ++ frame t) (nsec (B ++ frame t) - B.length / 62) (B.length / 62) d (hK.app (t := frame t)) hd (by omega) (by omega) (by omega) fun i _ _ => by
      have := psec_sector (b := B ++ frame t) (n := n) (m := (B ++ frame t).length) (i := i) (by have := hK.nb; omega) (Nat.le_refl _)
      rw [List.take_length] at this; exact this
    rw [show B.length / 62 + (nsec (B ++ frame t) - B.length / 62) = nsec (B ++ frame t) by omega] at p3
    refine ⟨d1, e1, p1, .inr ⟨f, p2⟩, fun h0 => ?_⟩
    obtain ⟨a1, a2, a3, a4⟩ := p3 h0
    refine ⟨a1, .inr ⟨f, p2, ⟨by omega, fun i hi => ?_⟩⟩⟩
    have key : ∀ x, (d1.now.files f)[i]? = some x → SecOk (B ++ frame t) i x → SecOk (B ++ frame t) i (d1.now.files f)[i] := fun x hx hs => by
      rw [List.getElem?_eq_getElem hi] at hx
      cases hx; exact hs
    by_cases hif : i < B.length / 62
    · have g : i < (d.now.files f).length := by omega
      exact key _ ((a3 i hif).trans (List.getElem?_eq_getElem g)) ((hS.ok i g).app (by omega))
    · exact key _ (a4 i (by omega) (by omega)) (sector_ok _ i)
theorem lv_trim (hn : named nm = true) {B : Byts} {m : Nat} (h : Lv d nm B n) (hm : m < B.length) (hl : B.length ≤ 200000) : ∃ d' e, trimD nm (B.take m) d = (d', e) ∧ Dd d' nm B (min n m) ∧ (e = 0 → Lv d' nm (B.take m) m) := by
  obtain ⟨hd, ⟨_, rfl, _⟩ | ⟨f, hK, hS⟩⟩ := h
  · simp at hm
  · have hlen := hS.len
    have hnB : nsec B = (B.length + 61) / 62 := rfl
    obtain ⟨d1, e1, p1, p2, _, p3⟩ := trim_any hn (hK.le (n' := min n m) (by omega)) hd (by omega) (by omega : m ≤ B.length) (by omega) hl
    refine ⟨d1, e1, p1, .inr ⟨f, p2⟩, fun h0 => ?_⟩
    obtain ⟨a1, a2, a3, a4, a5, a6⟩ := p3 h0
    have hS' := trim_sect (by omega) a4 a5 a6 fun i hi => by
      have g : i < (d.now.files f).length := by omega
      exact ⟨g, (hS.ok i g).take hi⟩
    have hk := kd_clean p2 a2 a3 hS'
    rw [show (B.take m).length = m by simp; omega] at hk
    exact ⟨a1, .inr ⟨f, hk, hS'⟩⟩
theorem lv_sync {B : Byts} (h : Lv d nm B n) : ∃ d' e, d.sync nm = (d', e) ∧ Dd d' nm B n ∧ (e = 70 → d' = d ∧ B = [] ∧ n = 0) ∧ (e = 0 → Lv d' nm B B.length) := by
  obtain ⟨hd, ⟨hE, rfl, rfl⟩ | ⟨f, hK, hS⟩⟩ := h
  · refine ⟨d, 70, ?_, .inl ⟨hE, rfl⟩, fun _ => ⟨rfl, rfl, rfl⟩, fun h => by cases h⟩
    unfold Dsk.sync
    rw [hE.get]
  · obtain ⟨d1, e1, y1, y70, y2, _, y3⟩ := hK.sync
    refine ⟨d1, e1, y1, .inr ⟨f, y2⟩, fun h => absurd h y70, fun h0 => ?_⟩
    obtain ⟨z1, z2, z3, z4⟩ := y3 h0
    have hS' : Sect (d1.now.files f) B := by rw [z2]; exact hS
    exact ⟨z1, .inr ⟨f, kd_clean y2 z3 z4 hS', hS'⟩⟩
def Cq (d : Dsk) (nm : Byts) (l : List Byts) : Prop := Qu d ∧ d.steps = [] ∧ d.safe = d.now ∧ Lv d nm (cat l) (cat l).length
theorem open_dd (hn : named nm = true) {l : List Byts} {s : Nat} (h : Dd d nm (cat l) (cat (l.take s)).length) (hs : s ≤ l.length) (hd : d.down = false) (h64 : ∀ t ∈ l, t.length ≤ 65536) (hl : (cat l).length ≤ 200000) :
    ∃ q, s ≤ q ∧ q ≤ l.length ∧ kept (d.read nm).1 = cat (l.take q) ∧ ends (stream (d.read nm).1) = ends (cat (l.take q)) ∧ (d.read nm).1.length ≤ 253952 ∧
      ∃ d' e, openD nm d = (d', e) ∧ Dd d' nm (cat l) (cat (l.take s)).length ∧ (Qu d → d.steps = [] → d.safe = d.now → e = 0 ∧ Cq d' nm (l.take q)) := by
  rcases h with ⟨hE, h0⟩ | ⟨f, hK⟩
  · have hr : d.read nm = ([], 70) := by unfold Dsk.read; rw [hE.get]
    have hc : cat (l.take s) = [] := List.length_eq_zero_iff.1 h0
    refine ⟨s, Nat.le_refl _, hs, by rw [hr, hc]; rfl, by rw [hr, hc]; rfl, by rw [hr]; exact Nat.zero_le _, d, 0, ?_, .inl ⟨hE, h0⟩, fun hq _ _ => ⟨rfl, hq, ‹_›, ‹_›, ?_⟩⟩
    · unfold openD
      rw [hr]
      simp only []
      rw [if_neg (by simp)]
      have : (clean (kept []) == ([] : Byts)) = true := by rfl
      rw [this, if_pos rfl]
    · rw [hc]; exact ⟨hd, .inl ⟨hE, rfl, rfl⟩⟩
  · have hpn := hK.pn
    generalize hss : d.now.files f = ss at *
    have hr : d.read nm = (ss.flatten, 0) := by
      unfold Dsk.read
      rw [hK.get]
      simp [hd, hss]
    obtain ⟨m, m1, m2, hst⟩ := hpn.stream hK.nb
    obtain ⟨q, q1, q2, q3, q4⟩ := cat_take l.length l m rfl h64 m2
    have hsq : s ≤ q := q4 s hs m1
    have hc1 := cat_pre l q
    have hkl := cat_told (l.take q).length (l.take q) rfl fun t ht => h64 t (List.mem_of_mem_take ht)
    have hkp : kept ss.flatten = cat (l.take q) := by
      unfold kept
      rw [hst, q2, hkl.2.1, List.take_take, Nat.min_eq_left q3, hc1]
    have hfl := flat_len hpn.l64
    have hup := hpn.up
    have hnb : nsec (cat l) = ((cat l).length + 61) / 62 := rfl
    have hmono := cat_mono l hsq
    have hqm : (cat (l.take q)).length ≤ (cat l).length := by omega
    have hstl : (stream ss.flatten).length ≤ ss.flatten.length := streamN_length _ _
    have hsec : ∀ i, (i + 1) * 62 ≤ (cat (l.take q)).length → ∃ g : i < ss.length, SecOk (cat (l.take q)) i ss[i] := fun i hi => by
      have hk2 : (cat (l.take q)).length ≤ (stream ss.flatten).length := by rw [hst, List.length_take]; omega
      obtain ⟨g1, g2⟩ := stream_sec ss (ss.flatten.length / 64 + 1) i hpn.l64 (Nat.le_trans hi hk2)
      have g2 : SecOk (stream ss.flatten) i ss[i] := g2
      have := SecOk.take g2 hi
      rw [hst, List.take_take, Nat.min_eq_left q3, hc1] at this
      exact ⟨g1, this⟩
    refine ⟨q, hsq, q1, by rw [hr]; exact hkp, by rw [hr, hst, q2], by rw [hr]; show ss.flatten.length ≤ _; omega, ?_⟩
    unfold openD
    rw [hr]
    simp only []
    rw [if_neg (by simp), hkp]
    by_cases hc : clean (cat (l.take q)) = ss.flatten
    · rw [if_pos (by simpa using hc)]
      refine ⟨d, 0, rfl, .inr ⟨f, hK⟩, fun hq hst hse => ⟨rfl, hq, hst, hse, hd, .inr ⟨f, ?_⟩⟩⟩
      have e : (List.range (nsec (cat (l.take q)))).map (sector (cat (l.take q))) = ss := flat_inj (fun s hs => by
        obtain ⟨i, _, rfl⟩ := List.mem_map.1 hs
        exact sector_length _ _) hpn.l64 hc
      have hS := Sect.map (cat (l.take q))
      rw [e, ← hss] at hS
      exact ⟨kd_clean hK hst hse hS, hS⟩
    · rw [if_neg (by simpa using hc)]
      have hfr : (cat (l.take q)).length / 62 ≤ ss.length := by
        cases hq : (cat (l.take q)).length / 62 with
        | zero => exact Nat.zero_le _
        | succ r =>
          obtain ⟨g, _⟩ := hsec r (by omega)
          omega
      obtain ⟨d1, e1, p1, p2, pq, p3⟩ := trim_any hn hK hd (m := (cat (l.take q)).length) hmono hqm (by rw [hss]; exact hfr) hl
      rw [hc1] at p1 p3
      refine ⟨d1, e1, p1, .inr ⟨f, p2⟩, fun hq hst hse => ?_⟩
      obtain ⟨e0, q0⟩ := pq hq
      obtain ⟨a1, a2, a3, a4, a5, a6⟩ := p3 e0
      have hS : Sect (d1.now.files f) (cat (l.take q)) := by
        have := trim_sect (B := cat (l.take q)) (m := (cat (l.take q)).length) (ss := ss) (tt := d1.now.files f) (Nat.le_refl _) (by rw [List.take_length]; exact a4) (by rw [← hss]; exact a5) (by rw [List.take_length]; exact a6) (by rw [List.take_length]; exact hsec)
        rw [List.take_length] at this; exact this
      exact ⟨e0, q0, a2, a3, a1, .inr ⟨f, kd_clean p2 a2 a3 hS, hS⟩⟩
theorem dd_arm {B : Byts} {a : Int} (h : Dd d nm B n) : Dd { d with arm := a } nm B n := by
  rcases h with ⟨h, h0⟩ | ⟨f, h⟩
  · exact .inl ⟨h.same ⟨rfl, rfl, rfl, rfl, rfl⟩, h0⟩
  · exact .inr ⟨f, h.same ⟨rfl, rfl, rfl, rfl, rfl⟩⟩
theorem lv_arm {B : Byts} {a : Int} (h : Lv d nm B n) : Lv { d with arm := a } nm B n := by
  obtain ⟨hd, h⟩ := h
  refine ⟨hd, ?_⟩
  rcases h with ⟨h, h0⟩ | ⟨f, h, hS⟩
  · exact .inl ⟨h.same ⟨rfl, rfl, rfl, rfl, rfl⟩, h0⟩
  · exact .inr ⟨f, h.same ⟨rfl, rfl, rfl, rfl, rfl⟩, hS⟩
end
end Go.Proofs.Ytdlogcincelccaa
