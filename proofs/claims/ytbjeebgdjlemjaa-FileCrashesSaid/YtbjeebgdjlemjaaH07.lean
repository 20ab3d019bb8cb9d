/-
  FileCrashes, over memory.
  No condition beyond those that each theorem names.
-/
import Derived.Test.YtbjeebgdjlemjaaG07
import Derived.Test.YtbjeebgdjlemjaaSxs
set_option linter.unusedSimpArgs false
open Go.Sx
set_option linter.unusedVariables false
namespace Go.Proofs.Ytbjeebgdjlemjaa

theorem call_calls' {d : Dsk} (hq : d.Q) (n : Nat) {kp : Byts} (hk : 2 ≤ kp.length) : Calls' d (Dsk.call d n) kp := by
  have hne : ∀ m, nameOf m ≠ kp := fun m e => by rw [← e] at hk; simp [nameOf] at hk
  have hk0 : kp ≠ [] := fun e => by rw [e] at hk; simp at hk
  unfold Dsk.call
  simp only []
  split
  · exact cut_calls hk0 (hne _)
  · split
    · exact rename_calls hk0 (hne _) (hne _)
    · split
      · exact remove_calls hk0 (hne _)
      · exact put_calls hq hk0 (hne _)
/-- Short names, and few. -/
def NI (d : Dsk) (c : Nat) : Prop := (∀ u ∈ d.now.names, u.1.length ≤ 1) ∧ d.now.names.length ≤ c
theorem foldl_mem : ∀ {l : List Stp} {s : FS}, ∀ u ∈ (l.foldl FS.does s).names, u ∈ s.names ∨ ∃ x ∈ l, u.1 = x.name ∨ u.1 = x.to
  | [], s, u, h => .inl h
  | a :: l, s, u, h => by
    rcases foldl_mem (l := l) (s := s.does a) u h with h | ⟨x, hx, e⟩
    · rcases does_mem u h with h | ⟨_, h⟩
      · exact .inl h
      · exact .inr ⟨a, List.mem_cons_self, h⟩
    · exact .inr ⟨x, List.mem_cons_of_mem _ hx, e⟩
theorem NI.call {d : Dsk} {c : Nat} (hq : d.Q) (h : NI d c) (n : Nat) : NI (Dsk.call d n) (c + 2) := by
  refine ⟨fun u hu => Classical.byContradiction fun hl => ?_, ?_⟩
  · have hl : 2 ≤ u.1.length := by omega
    rcases call_calls' hq n hl with e | ⟨ls, h1, _, h2⟩
    · rw [e] at hu; have := h.1 u hu; omega
    · have hu' : u ∈ (d.more ls).1.now.names := by
        rcases h2 with ⟨e, _⟩ | e
        · rw [e] at hu; exact hu
        · rw [e] at hu; exact hu
      rw [more_q hq] at hu'
      rcases foldl_mem u hu' with hu' | ⟨x, hx, e⟩
      · have := h.1 u hu'; omega
      · obtain ⟨a, b, _⟩ := h1 x hx
        rcases e with e | e
        · exact a e.symm
        · exact b e.symm
  · rcases call_calls' hq n (kp := [0, 0]) (by simp) with e | ⟨ls, h1, hl, h2⟩
    · rw [e]; have := h.2; omega
    · have hm : (d.more ls).1.now.names.length ≤ c + 2 := by
        rw [more_q hq]
        have := foldl_length (l := ls) (s := d.now)
        have := h.2
        simp only []; omega
      rcases h2 with ⟨e, _⟩ | e
      · rw [e]; exact hm
      · rw [e]; exact hm
theorem namesOf_eq {d e : Dsk} (hd : keysN d.now.names) (he : keysN e.now.names) (h : nget d.now.names = nget e.now.names) : namesOf d = namesOf e := by
  unfold namesOf
  exact kindS_good.sorts (keys_perm hd he h)
theorem allOf_eq {d e : Dsk} (hd : keysN d.now.names) (he : keysN e.now.names) (h : nget d.now.names = nget e.now.names) (hr : ∀ s, d.read s = e.read s) : allOf d = allOf e := by
  unfold allOf told
  rw [namesOf_eq hd he h]
  congr 1; funext s; rw [hr]

section
variable {hk : Hook} {w0 w : AW} {D : Nat} {d : Dsk} {k : Nat} {X : List Nat} {K : AV → AW → Prop}
/-- A disk without steps, beside another that turns. -/
theorem besideN {w' : AW} {Y : List Nat} (h : Ls w0 w D d k X) (hN : ∃ n1 f1 n2 f2, DkM X w D n1 f1 n2 f2 .nilslice d) (ht : Tz Y w w') (hY : ∀ y ∈ Y, w0.size ≤ y) (hX : ∀ x ∈ X, x ∉ Y) : Ls w0 w' D d k X ∧ ∃ n1 f1 n2 f2, DkM X w' D n1 f1 n2 f2 .nilslice d := by
  obtain ⟨n1, f1, n2, f2, hd⟩ := hN
  have hs := ht.ch.size
  have hs0 := h.sz
  have hd' := hd.keep h.mem (fun c hc hq => ht.ch.old c hc (by
    rcases hq with hq | hq
    · exact hX c hq
    · cases hq)) ht.cells
  exact ⟨⟨ht.ch.mem, by omega, h.pos, fun c hc => (ht.ch.old c (by omega) fun hx => by have := hY c hx; omega).trans (h.old c hc), ⟨_, _, _, _, _, hd'⟩, h.V, fun x hx => ⟨(h.X1 x hx).1, by have := (h.X1 x hx).2; omega⟩⟩, ⟨_, _, _, _, hd'⟩⟩
theorem lAll (hh : HK hk) (h : Ls w0 w D d k X) {c : Nat} (hn : NI d c) (hc : c ≤ 60000) (hK : ∀ v w', Fr w.size w w' → RsS w' v (allOf d) → K v w') : Cl Try.prog hk 26 [.ptr D 0] w K :=
  s26 hh h (fun u hu => by have := hn.1 u hu; omega) (by have := hn.2; omega) hK

theorem insS_mem {α : Type} {le : α → α → Bool} {x y : α} : ∀ {l : List α}, y ∈ insS le x l ↔ y = x ∨ y ∈ l
  | [] => by simp [insS]
  | z :: l => by
    unfold insS
    cases le x z with
    | true => simp
    | false =>
      have := insS_mem (le := le) (x := x) (y := y) (l := l)
      simp [this]
      constructor
      · rintro (h | h | h)
        · exact .inr (.inl h)
        · exact .inl h
        · exact .inr (.inr h)
      · rintro (h | h | h)
        · exact .inr (.inl h)
        · exact .inl h
        · exact .inr (.inr h)
theorem isort_mem {α : Type} {le : α → α → Bool} {y : α} : ∀ {l : List α}, y ∈ isort le l ↔ y ∈ l
  | [] => Iff.rfl
  | x :: l => by
    show y ∈ insS le x (isort le l) ↔ _
    rw [insS_mem, isort_mem]; simp
theorem ni_of {d e : Dsk} {c : Nat} (h : NI d c) (he : keysN e.now.names) (hd : keysN d.now.names) (hn : nget e.now.names = nget d.now.names) : NI e c := by
  have hp := keys_perm he hd hn
  refine ⟨fun u hu => ?_, ?_⟩
  · obtain ⟨v, hv, e⟩ := List.mem_map.1 (hp.mem_iff.1 (List.mem_map_of_mem (f := fun x : Byts × Int => x.1) hu))
    rw [← e]; exact h.1 v hv
  · have := hp.length_eq
    simp only [List.length_map] at this
    rw [this]; exact h.2
theorem lCrashN' {keep : List Bool} {kv : AV} (hh : HK hk) (h : Ls w0 w D d k X) (hkk : k < 2 ^ 27) (hkl : keep.length < 2 ^ 64) (hkv : RsT w kv keep) (hkD : blk kv ≠ some D)
    (hK : ∀ X' w', Ls w0 w' D (d.crash keep) k X' → (∃ n1 f1 n2 f2, DkM X' w' D n1 f1 n2 f2 .nilslice (d.crash keep)) → (∀ x ∈ X', x ∈ X ∨ w.size ≤ x) → Tz X w w' → K (.int .i64 0) w') : Cl Try.prog hk 17 [.ptr D 0, kv] w K := by
  obtain ⟨n1, f1, n2, f2, sv, hd1⟩ := h.dk
  refine s17 hh h.mem (Ls.pos' h) hd1 h.V hkk hkl hkv hkD fun X' n1 f1 n2 f2 w' _ h2 h3 h4 => ?_
  obtain ⟨a, b⟩ := h.next h2 h3 h4 (h.V.crash keep)
  exact hK _ w' a ⟨_, _, _, _, h4.trim h3.ch.mem⟩ b h3
/-- FileCrashes. -/
theorem s6 {vw vk : AV} {work : List Int} {keep : List Bool} (hh : HK hk) (hm : Mem w0) (hw : 0 < w0.size) (hwk : RsI w0 vw work) (hkv : RsT w0 vk keep) (hkl : keep.length < 2 ^ 64) : Cl Try.prog hk 6 [vw, vk] w0 fun r _ => r = .bool true := by
  apply in6 (hh.no _ _ _ (by decide) (by decide))
  unfold F6
  have awake : ∀ {w : AW}, Cl Try.prog hk 14 [] w fun r w => ∃ x : Bool, r = .bool x ∧ (AV.bool x) = .bool true := fun {w} => Cl_hook (hh.awake _) ⟨_, rfl, rfl⟩
  refine lNew hh hm hw fun D X0 w3 hL3 => ?_
  refine join_of (fun lv w5 => lv = [] ∧ ∃ (d : Dsk) (X : List Nat), Ls w0 w5 D d 80 X ∧ RI d ∧ NI d 80) ?_ ?_
  · rintro lv w5 ⟨rfl, d, Xd, hL5, hR, hN⟩
    refine ⟨rfl, fun _ => ?_⟩
    refine lAll hh hL5 hN (by omega) fun r7 w8 f8 hr7 => ?_
    have hL8 := hL5.fr f8
    refine lCopy hh hL8 (by omega) fun Dx Xx w10 f10 hLx hXx => ?_
    have hL10 := hL8.fr f10
    refine lCopy hh hL10 (by omega) fun Dy Xy w12 f12 hLy hXy => ?_
    have hLx12 := hLx.fr f12
    refine lNames hh hLy (fun u hu => by have := hN.1 u hu; omega) (by have := hN.2; omega) fun r13 w14 f14 hr13 hbx13 => ?_
    have hLy14 := hLy.fr f14
    have hr8 : ∀ {w' : AW}, Fr w8.size w8 w' → RsS w' r7 (allOf d) := fun hf => Rs.fr hr7 f8.mem hf (Nat.le_refl _)
    have hs8 := f8.size
    have hs10 := f10.size
    have hs12 := f12.size
    have hs14 := f14.size
    have hnl : (namesOf d).length ≤ 80 := by unfold namesOf; rw [isort_length, List.length_map]; exact hN.2
    have hmem : ∀ s ∈ namesOf d, s ∈ d.now.names.map (·.1) := fun s hs => by
      unfold namesOf at hs
      exact (isort_mem).1 hs
    have hmem' : ∀ s ∈ d.now.names.map (·.1), s ∈ namesOf d := fun s hs => by
      unfold namesOf
      exact (isort_mem).2 hs
    refine loopP_ind (fun m lv w17 => ∃ (i : Nat) (e : Dsk) (X : List Nat), i ≤ (namesOf d).length ∧ m = (namesOf d).length - i ∧ lv = [.int .i64 i] ∧ Ls w0 w17 Dy e 80 X ∧ SA d e ((namesOf d).take i) ∧ (∀ x ∈ X, w10.size ≤ x) ∧ Fr w10.size w10 w17 ∧ (RsS w17 r13 (namesOf d) ∧ ∀ c, blk r13 = some c → Box w17 c ((namesOf d).map AV.str)) ∧ Tz Xy w14 w17 ∧ (∀ x ∈ X, x ∈ Xy ∨ w14.size ≤ x)) ?_
      ⟨0, d, Xy, Nat.zero_le _, rfl, rfl, hLy14, ⟨hR, rfl, by simp⟩, hXy, f12.trans f14 hs12, ⟨hr13, fun c hc => (hbx13 c hc).2⟩, Tz.refl f14.mem, fun x hx => .inl hx⟩
    rintro m lv w17 ⟨i, e, X, hi, rfl, rfl, hL17, hS, hX, f17, ⟨hr17, hb17⟩, t17, hX17⟩ R ih
    have hs17 := t17.ch.size
    refine ⟨_, rfl, fun _ => ⟨_, Rs.len hr17, ifT_d (fun hc => ?_) fun hc => ?_⟩⟩
    · have hil : i < (namesOf d).length := by omega
      refine hr17.at hil fun b o hld => ⟨_, hld, ?_⟩
      obtain ⟨a1, a2⟩ := hS.sync (hmem _ (List.getElem_mem hil))
      refine lSync hh hL17 (by omega) fun X24 w24 hL24 hX24 t24 => ⟨_, rfl, ?_⟩
      rw [a1]
      refine ifT_nd (fun h => absurd rfl h) fun _ => ?_
      have htk : (namesOf d).take (i + 1) = (namesOf d).take i ++ [(namesOf d)[i]] := (List.take_append_getElem hil).symm
      refine ih ((namesOf d).length - (i + 1)) (by omega) _ _ ⟨i + 1, _, X24, by omega, rfl, by rw [wi_eq (by omega) (by omega)]; rfl, hL24, by rw [htk]; exact a2, fun x hx => ?_, f17.trans (t24.ch.fr (n := w10.size) f17.size hX) (Nat.le_refl _), ?_, t17.trans' t24 hX17, fun x hx => ?_⟩
      · rcases hX24 x hx with h | h
        · exact hX x h
        · omega
      · have hb24 : ∀ c, blk r13 = some c → Box w24 c ((namesOf d).map AV.str) := fun c hc => by
          refine t24.ch.box hL17.mem (hb17 c hc) fun hx => ?_
          have h1 := (hbx13 c hc).1
          have h2 := (hbx13 c hc).2.lt f14.mem
          rcases hX17 c hx with h | h
          · have := (hLy.X1 c h).2; omega
          · omega
        exact ⟨Rs.via hr17 fun c all hc ha => by
          have e := (hb17 c hc).cells
          rw [e] at ha; rw [← ha]; exact (hb24 c hc).cells, hb24⟩
      · rcases hX24 x hx with h | h
        · exact hX17 x h
        · right; have := t17.ch.size; omega
    · have hil : i = (namesOf d).length := by omega
      subst hil
      rw [List.take_length] at hS
      have hLx17 : Ls w0 w17 Dx d 80 Xx := hLx.fr f17
      have hL8' : Fr w8.size w8 w17 := f10.trans f17 hs10
      obtain ⟨n1, f1, n2, f2, svx, hdx⟩ := hLx17.dk
      refine s28 hh hdx ⟨_, rfl, ?_⟩
      have hslx := hLx17.V.steps
      refine s27 hh hL17.mem (Ls.pos' hL17) (by omega) fun r29 w30 f30 hr29 hb29 => ?_
      have hLx30 := hLx17.fr f30
      have hLy30 := hL17.fr f30
      have hs30 := f30.size
      refine lCrashN' hh hLx30 (by omega) (by simp; omega) hr29 (fun e => by have := hb29 _ e; have := (Ls.D hLx17).2; omega) fun X32 w32 hL32 hN32 hX32 t32 => ⟨_, rfl, ?_⟩
      have hXxlt : ∀ y ∈ Xx, w0.size ≤ y ∧ y < w10.size := fun y hy => hLx.X1 y hy
      have hLy32 := beside hLy30 t32 hXxlt hX
      have hs32 := t32.ch.size
      obtain ⟨sd1, sd2, sd3, sd4⟩ := hS.done hmem' keep
      refine lSyncNames hh hLy32 (by omega) fun X35 w35 hL35 hX35 t35 => ⟨_, rfl, ?_⟩
      have hdis : ∀ x ∈ X32, x ∉ X := fun x hx hxc => by
        have h1 := hX x hxc
        have h2 := (hLy30.X1 x hxc).2
        rcases hX32 x hx with h | h
        · have := (hXxlt x h).2; omega
        · omega
      obtain ⟨hLx35, hNx35⟩ := besideN hL32 hN32 t35 (fun y hy => (hLy32.X1 y hy).1) hdis
      refine lCrash hh hL35 hm (by omega) hkl hkv fun X38 w38 hL38 hX38 t38 => ⟨_, rfl, ?_⟩
      have hdis2 : ∀ x ∈ X32, x ∉ X35 := fun x hx hxc => by
        rcases hX35 x hxc with h | h
        · exact hdis x hx h
        · have := (hL32.X1 x hx).2; omega
      obtain ⟨hLx38, _⟩ := besideN hLx35 hNx35 t38 (fun y hy => (hL35.X1 y hy).1) hdis2
      rw [sd1]
      have e0 : wi (wi (0 + 0) + 0) = 0 := by decide
      unfold be
      refine ifT_d (fun _ => ?_) ?_
      rotate_left
      · intro h; exact absurd e0 h
      -- all three
      obtain ⟨c1, c2, c3⟩ := crash_all hR (keep := List.replicate d.steps.length true) fun j hj => by simp [List.getD_eq_getElem?_getD, List.getElem?_replicate, hj]
      have hax : allOf (d.crash (List.replicate d.steps.length true)) = allOf d := allOf_eq c2 hR.kn c1 c3
      have hay : allOf (e.syncNames.1.crash keep) = allOf d := allOf_eq sd3 hR.kn sd2 fun s => by
        rw [sd4]
        have hnow : e.syncNames.1.now = d.now := (hS.ri.syncNames.2.2).trans hS.now
        exact read_of hS.ri.syncNames.1.q.1 hR.q.1 (by rw [hnow]) s fun f _ => by rw [hnow]
      have f838 : Fr w8.size w8 w38 := by
        have g1 := hL8'.trans f30 (by omega)
        have g2 := g1.trans (t32.ch.fr (n := w8.size) (by omega) hXx) (Nat.le_refl _)
        have g3 := g2.trans (t35.ch.fr (n := w8.size) (by omega) fun x hx => by have := hX x hx; omega) (Nat.le_refl _)
        exact g3.trans (t38.ch.fr (n := w8.size) (by have := t35.ch.size; omega) fun x hx => by rcases hX35 x hx with h | h; have := hX x h; omega; omega) (Nat.le_refl _)
      have nx : NI (d.crash (List.replicate d.steps.length true)) 80 := ni_of hN c2 hR.kn c1
      have ny : NI (e.syncNames.1.crash keep) 80 := ni_of hN sd3 hR.kn sd2
      have hlen : (allOf d).length < 2 ^ 40 := by unfold allOf; rw [told_length]; unfold namesOf; rw [isort_length, List.length_map]; have := hN.2; omega
      refine lAll hh hLx38 nx (by omega) fun r41 w42 f42 hr41 => ?_
      rw [hax] at hr41
      refine s29 hh hr41 (hr8 (f838.trans f42 f838.size)) hlen ⟨_, rfl, ?_⟩
      rw [decide_eq_true rfl]
      refine ifT_t (lAll hh (hL38.fr f42) ny (by omega) fun r46 w47 f47 hr46 => ?_)
      rw [hay] at hr46
      refine s29 hh hr46 (hr8 ((f838.trans f42 f838.size).trans f47 (f838.trans f42 f838.size).size)) hlen ⟨_, rfl, ?_⟩
      rw [decide_eq_true rfl]
      have f847 := (f838.trans f42 f838.size).trans f47 (f838.trans f42 f838.size).size
      refine ifT_t (lAll hh (hL8.fr f847) hN (by omega) fun r51 w52 f52 hr51 => ?_)
      refine s29 hh hr51 (hr8 (f847.trans f52 f847.size)) hlen ⟨_, rfl, ?_⟩
      rw [decide_eq_true rfl]
      exact ifT_t awake
  · intro J hJ
    refine loopP_ind (fun i lv w61 => ∃ (d : Dsk) (n : Nat) (X : List Nat), lv = [.int .i64 n] ∧ i = 40 - n ∧ n ≤ 40 ∧ Ls w0 w61 D d (2 * n) X ∧ RI d ∧ NI d (2 * n)) ?_
      ⟨Dsk.none, 0, X0, rfl, rfl, by omega, hL3, RI.none, by simp [Dsk.none, FS.none], by simp [Dsk.none, FS.none]⟩
    rintro i lv w61 ⟨d, n, X, rfl, rfl, hn, hL, hR, hN⟩ R ih
    have hm61 := hwk.fr hm hL.fr0 (Nat.le_refl _)
    have hfin : Ls w0 w61 D d 80 X ∧ RI d ∧ NI d 80 := ⟨hL.le (by omega), hR, hN.1, by have := hN.2; omega⟩
    refine ⟨_, rfl, fun _ => ⟨_, hm61.len, ifT_d (fun hc => ifT_d (fun hc2 => ?_) fun hc2 => ?_) fun hc => ?_⟩⟩
    rotate_left
    · exact hJ _ _ ⟨rfl, d, X, hfin⟩
    · exact hJ _ _ ⟨rfl, d, X, hfin⟩
    have hnl : n < work.length := by omega
    refine hm61.atN hnl fun b o hld => ⟨_, hld, ?_⟩
    refine s21 hh (by omega) ⟨_, rfl, ?_⟩
    obtain ⟨hq0, hq1⟩ := pick_range (x := work[n]) (n := 1000003) (by omega)
    generalize pick work[n] 1000003 = q at *
    obtain ⟨qn, rfl⟩ := Int.eq_ofNat_of_zero_le hq0
    have hqn : qn < 1000003 := by have : ((qn : Nat) : Int) < 1000003 := hq1; omega
    have go : ∀ {w' : AW} {d' : Dsk} {X' : List Nat}, Ls w0 w' D d' (2 * n + 2) X' → RI d' → NI d' (2 * n + 2) → R [.int .i64 (wi ((n : Int) + 1))] w' := fun {w' d' X'} h1 h2 h3 => ih (40 - (n + 1)) (by omega) _ _ ⟨d', n + 1, X', by rw [wi_eq (by omega) (by omega)]; rfl, rfl, by omega, h1, h2, h3⟩
    refine ifT_d (fun _ => ?_) fun _ => ifT_d (fun _ => ?_) fun _ => ?_
    · refine s25 hh hL.mem (by omega) fun w71 f71 => ⟨_, rfl, ?_⟩
      refine lSync hh (hL.fr f71) (by omega) fun X74 w74 hL74 _ _ => ⟨_, rfl, ?_⟩
      obtain ⟨b1, b2⟩ := hR.sync (nameOf qn)
      exact go (hL74.le (by omega)) b1 (by unfold NI; rw [b2]; exact ⟨hN.1, by have := hN.2; omega⟩)
    · refine lSyncNames hh hL (by omega) fun X74 w74 hL74 _ _ => ⟨_, rfl, ?_⟩
      obtain ⟨b1, _, b2⟩ := hR.syncNames
      exact go (hL74.le (by omega)) b1 (by unfold NI; rw [b2]; exact ⟨hN.1, by have := hN.2; omega⟩)
    · have e13 : wi (Int.tdiv (qn : Int) 13) = ((qn / 13 : Nat) : Int) := by
        rw [show Int.tdiv (qn : Int) 13 = ((qn / 13 : Nat) : Int) from rfl, wi_eq (by omega) (by omega)]
      rw [e13]
      exact s20 hh hL (by omega) (by omega) fun X' w' h1 h2 h3 => ⟨rfl, go h1 (hR.calls (call_calls' hR.q _ (kp := [0, 0]) (by simp))) (hN.call hR.q _)⟩
end
end Go.Proofs.Ytbjeebgdjlemjaa
