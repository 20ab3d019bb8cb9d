/-
  The steps of Save, purely; and what Load finds.
  No condition beyond those that each theorem names.
-/
import Derived.Test.YtgobllfkiannfaaPT11
set_option linter.unusedSimpArgs false
open Go.Sx
set_option linter.unusedVariables false
set_option linter.unusedSimpArgs false
namespace Go.Proofs.Ytgobllfkiannfaa
def EX (b : Byts) : List Byts := (List.range (nsec (frame b))).map (sector (frame b))
theorem EX_sect (b : Byts) : Sect (EX b) (frame b) := Sect.map _
theorem EX_clean (b : Byts) : clean (frame b) = (EX b).flatten := rfl
theorem stream_len : ∀ (m : Nat) (ss : List Byts), (∀ s ∈ ss, s.length = 64) → (streamN m ss.flatten).length ≤ 62 * ss.length
  | 0, ss, _ => by simp [streamN]
  | m + 1, [], _ => by simp [streamN]
  | m + 1, s :: ss, h64 => by
    have hs64 := h64 s List.mem_cons_self
    have ih := stream_len m ss fun t ht => h64 t (List.mem_cons_of_mem _ ht)
    unfold streamN
    rw [if_neg (by simp; omega)]
    simp only [List.flatten_cons]
    rw [getD_app (by omega), drop_app hs64]
    generalize hn : (if 62 < (s.getD 0 0).toNat then 0 else (s.getD 0 0).toNat) = n
    have hn62 : n ≤ 62 := by rw [← hn]; split <;> omega
    rw [List.length_append, List.length_take, List.length_cons]
    split
    · simp; omega
    · omega
def Md (d : Dsk) (t : Byts) (N : Nms) (G : Int → List Byts) : Prop := d.fault = 0 ∧ (Tn d t N G ∨ ∃ f, Tk d t N G f)
def Rest (d : Dsk) : Prop := d.steps = [] ∧ d.safe = d.now
section
variable {d d' : Dsk} {t nm b : Byts} {N : Nms} {G : Int → List Byts} {f : Int}
theorem trim_tk (hn : named t = true) {B : Byts} (h : Tk d t N G f) (hf : d.fault = 0) (hd : d.down = false) (hl : B.length / 62 ≤ (d.now.files f).length) (hB : B.length ≤ 744) :
    ∃ d' e, trimD t B d = (d', e) ∧ Tk d' t N G f ∧ d'.fault = 0 ∧ (Qu d → e = 0 ∧ Qu d') ∧ (e = 0 → d'.down = false ∧ Rest d' ∧ (d'.now.files f).length = nsec B ∧ (∀ i, i < B.length / 62 → (d'.now.files f)[i]? = (d.now.files f)[i]?) ∧ ∀ i, B.length / 62 ≤ i → i < nsec B → (d'.now.files f)[i]? = some (sector B i)) := by
  have hns : nsec B = (B.length + 61) / 62 := rfl
  unfold trimD
  obtain ⟨d1, e1, p1, p2, pf, pq, p3⟩ := tk_puts hn (B := B) (nsec B - B.length / 62) (B.length / 62) d h hf hd hl (by omega)
  rw [show B.length / 62 + (nsec B - B.length / 62) = nsec B by omega] at p3
  rw [p1]
  by_cases he1 : e1 = 0
  · subst he1
    simp only [ne_eq, not_true_eq_false, if_false]
    obtain ⟨a1, a2, a3, a4⟩ := p3 rfl
    obtain ⟨d2, e2, c1, c2, cf, cq, c3⟩ := p2.cut pf (k := nsec B) (by rw [a2]; omega)
    rw [c1]
    by_cases he2 : e2 = 0
    · subst he2
      simp only [not_true_eq_false, if_false]
      obtain ⟨b1, b2⟩ := c3 rfl
      obtain ⟨d3, e3, y1, _, y2, yf, yq, y3⟩ := c2.sync cf
      rw [y1]
      refine ⟨d3, e3, rfl, y2, yf, fun q => yq (cq (pq q).2).2, fun h0 => ?_⟩
      obtain ⟨z1, z2, z3, z4⟩ := y3 h0
      have key : ∀ i, i < nsec B → (d3.now.files f)[i]? = (d1.now.files f)[i]? := fun i hi => by
        rw [z2, b2, List.getElem?_take, if_pos hi]
      refine ⟨z1, ⟨z3, z4⟩, by rw [z2, b2, List.length_take, a2]; omega, fun i hi => (key i (by omega)).trans (a3 i hi), fun i hi hi2 => (key i hi2).trans (a4 i hi hi2)⟩
    · simp only [he2, not_false_eq_true, if_true]
      exact ⟨d2, e2, rfl, c2, cf, fun q => absurd (cq (pq q).2).1 he2, fun h => absurd h he2⟩
  · simp only [ne_eq, he1, not_false_eq_true, if_true]
    exact ⟨d1, e1, rfl, p2, pf, fun q => absurd (pq q).1 he1, fun h => absurd h he1⟩
theorem open_md (hn : named t = true) (h : Md d t N G) (hd : d.down = false) (hr : Rest d) :
    (d.read t).1.length ≤ 1000 ∧ (kept (d.read t).1).length ≤ 744 ∧ ∃ d' e, openD t d = (d', e) ∧ Md d' t N G ∧ (Qu d → e = 0 ∧ Qu d') ∧
      (e = 0 → d'.down = false ∧ Rest d' ∧ ((Tn d' t N G ∧ kept (d.read t).1 = []) ∨ ∃ f, Tk d' t N G f ∧ Sect (d'.now.files f) (kept (d.read t).1))) := by
  obtain ⟨hf, h⟩ := h
  rcases h with h | ⟨f, h⟩
  · have hrd : d.read t = ([], 70) := by unfold Dsk.read; rw [h.get]
    rw [hrd]
    refine ⟨Nat.zero_le _, Nat.zero_le _, d, 0, ?_, ⟨hf, .inl h⟩, fun q => ⟨rfl, q⟩, fun _ => ⟨hd, hr, .inl ⟨h, rfl⟩⟩⟩
    unfold openD
    rw [hrd]
    simp only []
    rw [if_neg (by simp)]
    have : (clean (kept []) == ([] : Byts)) = true := by rfl
    rw [this, if_pos rfl]
  · have har := h.ar
    generalize hss : d.now.files f = ss at *
    obtain ⟨hl, h64⟩ := har
    have hrd : d.read t = (ss.flatten, 0) := by
      unfold Dsk.read
      rw [h.get]
      simp [hd, hss]
    have hfl := flat_len h64
    have hst : (stream ss.flatten).length ≤ ss.flatten.length := streamN_length _ _
    have hk := kept_le (fb := ss.flatten)
    have hkt : kept ss.flatten = (stream ss.flatten).take (sizeE (ends (stream ss.flatten))) := rfl
    have hkl : (kept ss.flatten).length = sizeE (ends (stream ss.flatten)) := (ends_take (stream ss.flatten)).2
    have hsec : ∀ i, (i + 1) * 62 ≤ (kept ss.flatten).length → ∃ g : i < ss.length, SecOk (kept ss.flatten) i ss[i] := fun i hi => by
      obtain ⟨g1, g2⟩ := stream_sec ss (ss.flatten.length / 64 + 1) i h64 (Nat.le_trans hi hk)
      exact ⟨g1, by rw [hkt]; exact SecOk.take g2 (by rw [← hkl]; exact hi)⟩
    rw [hrd]
    refine ⟨by show ss.flatten.length ≤ _; omega, ?_⟩
    have hfr : (kept ss.flatten).length / 62 ≤ ss.length := by
      cases hq : (kept ss.flatten).length / 62 with
      | zero => exact Nat.zero_le _
      | succ q =>
        obtain ⟨g, _⟩ := hsec q (by omega)
        omega
    have hk7 : (kept ss.flatten).length ≤ 744 := by
      have := stream_len (ss.flatten.length / 64 + 1) ss h64
      have hsl : (stream ss.flatten).length ≤ 62 * ss.length := this
      omega
    refine ⟨hk7, ?_⟩
    unfold openD
    rw [hrd]
    simp only []
    rw [if_neg (by simp)]
    by_cases hc : clean (kept ss.flatten) = ss.flatten
    · rw [if_pos (by simpa using hc)]
      refine ⟨d, 0, rfl, ⟨hf, .inr ⟨f, h⟩⟩, fun q => ⟨rfl, q⟩, fun _ => ⟨hd, hr, .inr ⟨f, h, ?_⟩⟩⟩
      have e : (List.range (nsec (kept ss.flatten))).map (sector (kept ss.flatten)) = ss := flat_inj (fun s hs => by
        obtain ⟨i, _, rfl⟩ := List.mem_map.1 hs
        exact sector_length _ _) h64 hc
      have hS := Sect.map (kept ss.flatten)
      rw [e] at hS
      rw [hss]; exact hS
    · rw [if_neg (by simpa using hc)]
      obtain ⟨d1, e1, p1, p2, pf, pq, p3⟩ := trim_tk hn h hf hd (by rw [hss]; exact hfr) hk7
      refine ⟨d1, e1, p1, ⟨pf, .inr ⟨f, p2⟩⟩, pq, fun h0 => ?_⟩
      obtain ⟨a1, a2, a3, a4, a5⟩ := p3 h0
      refine ⟨a1, a2, .inr ⟨f, p2, ⟨a3, fun i hi => ?_⟩⟩⟩
      have key : ∀ x, (d1.now.files f)[i]? = some x → SecOk (kept ss.flatten) i x → SecOk (kept ss.flatten) i (d1.now.files f)[i] := fun x hx hs => by
        rw [List.getElem?_eq_getElem hi] at hx
        cases hx; exact hs
      by_cases hif : i < (kept ss.flatten).length / 62
      · obtain ⟨g, hs⟩ := hsec i (by omega)
        exact key _ ((a4 i hif).trans (by rw [hss]; exact List.getElem?_eq_getElem g)) hs
      · exact key _ (a5 i (by omega) (by omega)) (sector_ok _ i)
def Rd (d : Dsk) (t : Byts) (N : Nms) (G : Int → List Byts) : Prop := d.fault = 0 ∧ d.down = false ∧ Rest d ∧ (Tn d t N G ∨ ∃ f, Tk d t N G f ∧ d.now.files f = [])
theorem trunc_md (hn : named t = true) (h : Tk d t N G f) (hf : d.fault = 0) (hd : d.down = false) :
    ∃ d' e, trimD t [] d = (d', e) ∧ Md d' t N G ∧ (Qu d → e = 0 ∧ Qu d') ∧ (e = 0 → Rd d' t N G) := by
  obtain ⟨d1, e1, p1, p2, pf, pq, p3⟩ := trim_tk hn (B := []) h hf hd (Nat.zero_le _) (by simp)
  refine ⟨d1, e1, p1, ⟨pf, .inr ⟨f, p2⟩⟩, pq, fun h0 => ?_⟩
  obtain ⟨a1, a2, a3, _⟩ := p3 h0
  exact ⟨pf, a1, a2, .inr ⟨f, p2, List.length_eq_zero_iff.1 a3⟩⟩
def Fu (d : Dsk) (t : Byts) (N : Nms) (G : Int → List Byts) (f : Int) (b : Byts) : Prop := d.fault = 0 ∧ d.down = false ∧ Tk d t N G f ∧ d.now.files f = EX b
theorem ex_of {ss : List Byts} (hl : ss.length = nsec (frame b)) (h : ∀ i, i < nsec (frame b) → ss[i]? = some (sector (frame b) i)) : ss = EX b := by
  apply List.ext_getElem?
  intro i
  by_cases hi : i < nsec (frame b)
  · rw [h i hi]; unfold EX; simp [hi]
  · rw [List.getElem?_eq_none (by omega), List.getElem?_eq_none (by unfold EX; simp; omega)]
theorem app_md (hn : named t = true) (hN : N.length < 256) (h : Rd d t N G) (hb : b.length ≤ 600) :
    ∃ d' e, puts t ([] ++ frame b) (nsec ([] ++ frame b) - ([] : Byts).length / 62) (([] : Byts).length / 62) d = (d', e) ∧ Md d' t N G ∧ (Qu d → e = 0 ∧ Qu d') ∧ (e = 0 → ∃ f, Fu d' t N G f b) := by
  obtain ⟨hf, hd, hr, h⟩ := h
  have hbl : (frame b).length = 4 + b.length := frame_length b
  have hns : nsec (frame b) = (4 + b.length + 61) / 62 := by unfold nsec; rw [hbl]
  show ∃ d' e, puts t (frame b) (nsec (frame b)) 0 d = (d', e) ∧ _
  rcases h with h | ⟨f, h, hfe⟩
  · obtain ⟨m, hm⟩ : ∃ m, nsec (frame b) = m + 1 := ⟨nsec (frame b) - 1, by omega⟩
    obtain ⟨d1, e1, q1, qf, qq, q2, q3⟩ := h.put hf hn hN (sector_length (frame b) 0)
    have hu : puts t (frame b) (nsec (frame b)) 0 d = if (d.put t ((0 : Nat) : Int) (sector (frame b) 0)).2 ≠ 0 then d.put t ((0 : Nat) : Int) (sector (frame b) 0) else puts t (frame b) m 1 (d.put t ((0 : Nat) : Int) (sector (frame b) 0)).1 := by
      rw [hm]; rfl
    rw [q1] at hu
    rw [hu]
    by_cases he : e1 = 0
    · subst he
      simp only [ne_eq, not_true_eq_false, if_false]
      obtain ⟨g1, f, g2, g3⟩ := q3 rfl
      obtain ⟨d2, e2, k1, k2, kf, kq, k3⟩ := tk_puts hn (B := frame b) m 1 d1 g2 qf g1 (by rw [g3]; simp) (by omega)
      refine ⟨d2, e2, k1, ⟨kf, .inr ⟨f, k2⟩⟩, fun q => kq (qq q).2, fun h0 => ?_⟩
      obtain ⟨a1, a2, a3, a4⟩ := k3 h0
      rw [g3] at a2 a3
      refine ⟨f, kf, a1, k2, ex_of (by rw [a2]; simp; omega) fun i hi => ?_⟩
      by_cases hif : i < 1
      · obtain rfl : i = 0 := by omega
        rw [a3 0 (by omega)]; rfl
      · exact a4 i (by omega) (by omega)
    · simp only [ne_eq, he, not_false_eq_true, if_true]
      exact ⟨d1, e1, rfl, ⟨qf, .inl (q2 he)⟩, fun q => absurd (qq q).1 he, fun h => absurd h he⟩
  · obtain ⟨d2, e2, k1, k2, kf, kq, k3⟩ := tk_puts hn (B := frame b) (nsec (frame b)) 0 d h hf hd (Nat.zero_le _) (by omega)
    refine ⟨d2, e2, k1, ⟨kf, .inr ⟨f, k2⟩⟩, kq, fun h0 => ?_⟩
    obtain ⟨a1, a2, a3, a4⟩ := k3 h0
    rw [hfe] at a2
    exact ⟨f, kf, a1, k2, ex_of (by rw [a2]; simp) fun i hi => a4 i (by omega) (by omega)⟩
theorem sync_md (h : Fu d t N G f b) : ∃ d' e, d.sync t = (d', e) ∧ e ≠ 70 ∧ Md d' t N G ∧ (Qu d → e = 0 ∧ Qu d') ∧ (e = 0 → Fu d' t N G f b ∧ Rest d') := by
  obtain ⟨hf, hd, h, he⟩ := h
  obtain ⟨d1, e1, y1, y70, y2, yf, yq, y3⟩ := h.sync hf
  refine ⟨d1, e1, y1, y70, ⟨yf, .inr ⟨f, y2⟩⟩, yq, fun h0 => ?_⟩
  obtain ⟨z1, z2, z3, z4⟩ := y3 h0
  exact ⟨⟨yf, z1, y2, by rw [z2]; exact he⟩, z3, z4⟩
structure Rn (d : Dsk) (t nm : Byts) (N : Nms) (G : Int → List Byts) (f : Int) (b : Byts) : Prop where
  st : d.steps = [⟨3, f, 0, zsec, t, nm⟩]
  sn : d.safe.names = N ++ [(t, f)]
  sf : d.safe.files f = EX b
  g : Ot N G d.safe
  now : d.safe.does ⟨3, f, 0, zsec, t, nm⟩ = d.now
  tN : nget N t = none
  fN : f ∉ N.map (·.2)
  la : f ≤ d.last ∧ ∀ g ∈ N.map (·.2), g ≤ d.last
  fr : Fresh d
  ar : Ar (EX b)
def Gx (G : Int → List Byts) (f : Int) (ss : List Byts) : Int → List Byts := fun g => if g = f then ss else G g
theorem ndel_end : ∀ {N : Nms}, nget N t = none → ndel (N ++ [(t, f)]) t = N
  | [], _ => by simp [ndel]
  | a :: N, h => by
    unfold nget at h
    rw [List.find?_cons] at h
    by_cases ha : a.1 = t
    · simp [ha] at h
    · simp only [ha, decide_false] at h
      show (if a.1 = t then _ else a :: ndel (N ++ [(t, f)]) t) = _
      rw [if_neg ha, ndel_end (N := N) h]
theorem does_ren {s : FS} (hn : s.names = N ++ [(t, f)]) (ht : nget N t = none) : s.does ⟨3, f, 0, zsec, t, nm⟩ = ⟨nset N nm f, s.files⟩ := by
  unfold FS.does
  rw [if_neg (show ¬ (3 : Int) = 0 by decide), if_neg (show ¬ (3 : Int) = 1 by decide), if_neg (show ¬ (3 : Int) = 2 by decide)]
  simp only [hn, nget_new ht, if_true, ndel_end ht]
theorem nset_files {g : Int} (hg : g ∈ (nset N nm f).map (·.2)) : g = f ∨ g ∈ N.map (·.2) := by
  obtain ⟨u, hu, rfl⟩ := List.mem_map.1 hg
  rcases nset_mem u hu with rfl | hu
  · exact .inl rfl
  · exact .inr (List.mem_map.2 ⟨u, hu, rfl⟩)
theorem tn_new {d : Dsk} (hnt : t ≠ nm) (hn : d.now.names = nset N nm f) (hse : d.safe = d.now) (hst : d.steps = []) (hf : d.now.files f = EX b) (hg : ∀ g ∈ N.map (·.2), g ∈ (nset N nm f).map (·.2) → d.now.files g = G g) (tN : nget N t = none) (fN : f ∉ N.map (·.2)) (la : f ≤ d.last ∧ ∀ g ∈ N.map (·.2), g ≤ d.last) (fr : Fresh d) : Tn d t (nset N nm f) (Gx G f (EX b)) := by
  refine ⟨hn, hse, hst, ⟨fun g hg' => ?_⟩, by rw [nget_nset_ne hnt]; exact tN, fun g hg' => ?_, fr⟩
  · unfold Gx
    split
    · rename_i e; rw [e]; exact hf
    · rename_i e
      rcases nset_files hg' with h | h
      · exact absurd h e
      · exact hg g h hg'
  · rcases nset_files hg' with h | h
    · rw [h]; exact la.1
    · exact la.2 g h
theorem nset_mem_self : ∀ {N : Nms}, f ∈ (nset N nm f).map (·.2)
  | [] => by simp [nset]
  | a :: N => by
    unfold nset
    split
    · simp
    · rw [List.map_cons]; exact List.mem_cons_of_mem _ (nset_mem_self (N := N))
theorem Rn.crash (h : Rn d t nm N G f b) (hnt : t ≠ nm) (keep : List Bool) : Cq (d.crash keep) t N G ∨ Cq (d.crash keep) t (nset N nm f) (Gx G f (EX b)) := by
  unfold Dsk.crash
  rw [h.st]
  simp only [keepL]
  cases hk : keep.getD 0 false with
  | false =>
    left
    simp only [Bool.false_eq_true, if_false]
    exact cq_of (.inl h.sn) (by rw [h.sf]; exact h.ar) h.g h.tN h.fN h.la
  | true =>
    right
    simp only [if_true]
    rw [does_ren h.sn h.tN]
    have hin : ∀ g, g ∈ (nset N nm f).map (·.2) → heldF ⟨nset N nm f, d.safe.files⟩ g = d.safe.files g := fun g hg => held_in hg
    refine ⟨⟨rfl, rfl, rfl⟩, rfl, rfl, .inl (tn_new hnt rfl rfl rfl ?_ (fun g hg hg' => ?_) h.tN h.fN h.la fun g hg => ?_)⟩
    · show heldF ⟨nset N nm f, d.safe.files⟩ f = _
      rw [hin f nset_mem_self]; exact h.sf
    · show heldF ⟨nset N nm f, d.safe.files⟩ g = _
      rw [hin g hg']; exact h.g.g g hg
    · have hg : d.last < g := hg
      have : heldF ⟨nset N nm f, d.safe.files⟩ g = [] := held_out fun hm => by
        rcases nset_files hm with e | e
        · have := h.la.1; omega
        · have := h.la.2 g e; omega
      exact ⟨this, this⟩
theorem ren_md (hnt : t ≠ nm) (hnm : named nm = true) (h : Fu d t N G f b) (hr : Rest d) : ∃ d' e, d.rename t nm = (d', e) ∧ (Qu d → e = 0 ∧ Qu d') ∧ (e ≠ 0 → Md d' t N G) ∧ (e = 0 → d'.fault = 0 ∧ d'.down = false ∧ Rn d' t nm N G f b) := by
  obtain ⟨hf, hd, h, he⟩ := h
  obtain ⟨hr1, hr2⟩ := hr
  unfold Dsk.rename
  rw [hnm, h.get]
  simp only [Bool.not_true, Bool.false_eq_true, if_false]
  rw [if_neg hnt]
  obtain ⟨d1, e, h1, h2, hf1, h70, h3, hq⟩ := stop_ap hf
  unfold Dsk.more
  rw [h1]
  have hs := h.same h2
  by_cases he0 : e = 0
  · subst he0
    simp only [ne_eq, not_true_eq_false, if_false]
    have hse : d1.safe = d1.now := by rw [h2.s, h2.n]; exact hr2
    have hns : d1.now.names = N ++ [(t, f)] := hs.names
    refine ⟨_, _, rfl, fun q => ⟨rfl, (hq q).2⟩, fun h => absurd rfl h, fun _ => ⟨hf1, h3 rfl, ⟨?_, ?_, ?_, hs.g1, ?_, h.tN, h.fN, hs.la, fun g hg => ?_, by rw [← he]; exact h.ar⟩⟩⟩
    · show d1.steps ++ _ = _
      rw [h2.t, hr1]; rfl
    · show d1.safe.names = _
      rw [hse]; exact hns
    · show d1.safe.files f = _
      rw [hse, h2.n]; exact he
    · simp only [hse, List.foldl_cons, List.foldl_nil]
    · obtain ⟨g1, g2⟩ := hs.fr g hg
      refine ⟨g1, ?_⟩
      simp only [List.foldl_cons, List.foldl_nil]
      rw [does_ren hns h.tN]; exact g2
  · simp only [ne_eq, he0, not_false_eq_true, if_true]
    exact ⟨_, _, rfl, fun q => absurd (hq q).1 he0, fun _ => ⟨hf1, .inr ⟨f, hs⟩⟩, fun h => absurd h he0⟩
theorem names_md (hnt : t ≠ nm) (hf : d.fault = 0) (h : Rn d t nm N G f b) : ∃ d' e, d.syncNames = (d', e) ∧ d'.fault = 0 ∧ (Qu d → e = 0 ∧ Qu d') ∧ (e ≠ 0 → Rn d' t nm N G f b) ∧ (e = 0 → d'.down = false ∧ Tn d' t (nset N nm f) (Gx G f (EX b)) ∧ Rest d') := by
  unfold Dsk.syncNames Dsk.settle
  obtain ⟨d1, e, h1, h2, hf1, h70, h3, hq⟩ := stop_ap hf
  rw [h1]
  by_cases he : e = 0
  · subst he
    simp only [ne_eq, not_true_eq_false, if_false]
    have e1 : settleL (fun _ x => decide (x.what ≠ 1) && decide (x.what ≠ 2)) 0 d1.steps d1.safe = (d1.now, []) := by
      rw [h2.t, h.st, h2.s, h2.n]
      show (d.safe.does _, []) = _
      rw [h.now]
    simp only [ne_eq] at e1
    rw [e1]
    have hnow : d1.now = ⟨nset N nm f, d.safe.files⟩ := by rw [h2.n, ← h.now, does_ren h.sn h.tN]
    have hnn : d1.now.names = nset N nm f := by rw [hnow]
    have hnf : d1.now.files = d.safe.files := by rw [hnow]
    refine ⟨_, _, rfl, hf1, fun q => ⟨rfl, (hq q).2⟩, fun h => absurd rfl h, fun _ => ⟨h3 rfl, tn_new hnt hnn rfl rfl ?_ (fun g hg _ => ?_) h.tN h.fN (by show f ≤ d1.last ∧ _; rw [h2.l]; exact h.la) fun g hg => ?_, rfl, rfl⟩⟩
    · show d1.now.files f = _
      rw [hnf]; exact h.sf
    · show d1.now.files g = _
      rw [hnf]; exact h.g.g g hg
    · have hg : d1.last < g := hg
      rw [h2.l] at hg
      have := (h.fr g hg).1
      rw [← hnf] at this
      exact ⟨this, this⟩
  · simp only [ne_eq, he, not_false_eq_true, if_true]
    refine ⟨_, _, rfl, hf1, fun q => absurd (hq q).1 he, fun _ => ?_, fun h => absurd h he⟩
    exact ⟨by rw [h2.t]; exact h.st, by rw [h2.s]; exact h.sn, by rw [h2.s]; exact h.sf, by rw [h2.s]; exact h.g, by rw [h2.s, h2.n]; exact h.now, h.tN, h.fN, by rw [h2.l]; exact h.la, by unfold Fresh; rw [h2.l, h2.s, h2.n]; exact h.fr, h.ar⟩
def SaveEnd (d' : Dsk) (e : Int) (t nm : Byts) (N : Nms) (G : Int → List Byts) (b : Byts) : Prop :=
  (e ≠ 0 ∧ (Md d' t N G ∨ ∃ f, Rn d' t nm N G f b)) ∨ (e = 0 ∧ d'.fault = 0 ∧ d'.down = false ∧ ∃ f, Tn d' t (nset N nm f) (Gx G f (EX b)) ∧ Rest d' ∧ f ∉ N.map (·.2))
theorem cq_get (hnt : t ≠ nm) (h : Cq d t N G) : nget d.now.names nm = nget N nm := by
  rcases h.tt with h | ⟨f, h⟩
  · rw [h.names]
  · rw [h.names]
    unfold nget
    rw [List.find?_append]
    cases hq : N.find? (fun x => decide (x.1 = nm)) with
    | some y => simp
    | none => simp [hnt]
theorem load_some (hnt : t ≠ nm) (h : Cq d t N G) (hg : nget N nm = some f) (hG : G f = EX b) : d.read nm = ((EX b).flatten, 0) := by
  have hf : d.now.files f = EX b := by
    have hm := nget_mem hg
    have hm : f ∈ N.map (·.2) := List.mem_map.2 ⟨_, hm, rfl⟩
    rcases h.tt with h | ⟨f, h⟩
    · rw [h.g.g _ hm]; exact hG
    · rw [h.g2.g _ hm]; exact hG
  unfold Dsk.read
  rw [cq_get hnt h, hg]
  simp [h.qu.1, hf]
theorem ends_frame (hb : b.length ≤ 600) : ends (frame b) = [(frame b).length] := by
  have := ends_app (b := []) (t := b) (by omega) rfl
  rw [List.nil_append] at this
  exact this
theorem kept_ex (hb : b.length ≤ 600) : stream (EX b).flatten = frame b ∧ kept (EX b).flatten = frame b := by
  have h1 := (EX_sect b).stream
  refine ⟨h1, ?_⟩
  unfold kept
  rw [h1, ends_frame hb]
  unfold sizeE
  simp
theorem open_ex {d : Dsk} (hb : b.length ≤ 600) (hr : d.read nm = ((EX b).flatten, 0)) : openD nm d = (d, 0) := by
  unfold openD
  rw [hr]
  simp only []
  rw [if_neg (by simp), (kept_ex hb).2, EX_clean]
  simp
end
end Go.Proofs.Ytgobllfkiannfaa
