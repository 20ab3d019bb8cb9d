/-
  The disk's calls, over memory.
  No condition beyond those that each theorem names.
-/
import Derived.Test.YtbjeebgdjlemjaaM07
set_option linter.unusedSimpArgs false
open Go.Sx
set_option linter.unusedVariables false
namespace Go.Proofs.Ytbjeebgdjlemjaa

theorem listPut_step (a b c n t : AV) {cs : List AV} (h : cs.length = 64) : listPut (stepC a b c z64 n t) 3 cs = stepC a b c cs n t := by
  have hz : z64.length = 64 := by rw [z64_eq, cellsOfBytes_length]; simp [zsec]
  simp only [listPut, stepC, h]
  show [a, b, c] ++ cs ++ ((z64 ++ [n, t]).drop 64) = _
  rw [List.drop_left' hz]; simp

/-- What a call of the disk comes to. -/
def Out (X : List Nat) (w : AW) (D n1 f1 n2 f2 : Nat) (r : Dsk × Int) (K : AV → AW → Prop) : Prop :=
  ∀ X' sv' w', (∀ x ∈ X, x ∈ X') → (∀ x ∈ X', x ∈ X ∨ w.size ≤ x) → Tz X w w' → DkM X' w' D n1 f1 n2 f2 sv' r.1 → K (.int .i64 r.2) w'

section
variable {hk : Hook} {X : List Nat} {w : AW} {D n1 f1 n2 f2 : Nat} {sv : AV} {d : Dsk} {k : Nat} {K : AV → AW → Prop}

theorem Out.same {e : Int} (hm : Mem w) (h : DkM X w D n1 f1 n2 f2 sv d) (hK : Out X w D n1 f1 n2 f2 (d, e) K) : K (.int .i64 e) w := hK X sv w (fun _ h => h) (fun _ h => .inl h) (Tz.refl hm) h
/-- New memory ahead of a call. -/
theorem Out.fr {w1 : AW} {r : Dsk × Int} (hm : Mem w) (hf : Fr w.size w w1) (hK : Out X w D n1 f1 n2 f2 r K) : Out X w1 D n1 f1 n2 f2 r K :=
  fun X' sv' w' h1 h2 h3 h4 => hK X' sv' w' h1 (fun x hx => by rcases h2 x hx with h | h; exact .inl h; right; have := hf.size; omega) ((Tz.of_fr hm hf).trans h3) h4

/-- New steps in a row of their own are carried out. -/
theorem s42n {l : List Stp} {b : Nat} (hh : HK hk) (hm : Mem w) (hw : 0 < w.size) (h : DkM X w D n1 f1 n2 f2 sv d) (hV : d.V k) (hkk : k < 2 ^ 27) (hl : ∀ x ∈ l, x.V) (hll : l.length ≤ 1000) (hb : Box w b (stpsC l)) (hbD : b ≠ D)
    (hK : Out X w D n1 f1 n2 f2 (d.more l) K) : Cl Try.prog hk 42 [.ptr D 0, .slice b 0 l.length l.length none] w K := by
  have h69 := stpsC_length fun x hx => (hl x hx).1
  refine s42 hh hm hw h hV hkk hl hll (.inr ⟨b, 0, l.length, none, _, rfl, hb.cells, by omega, by rw [List.drop_zero, ← h69, List.take_length]⟩) (fun e => hbD (by cases e; rfl)) hK

/-- Cut. -/
theorem s30 {a : Byts} {n : Int} (hh : HK hk) (hm : Mem w) (hw : 0 < w.size) (h : DkM X w D n1 f1 n2 f2 sv d) (hV : d.V k) (hkk : k < 2 ^ 27) (hK : Out X w D n1 f1 n2 f2 (d.cut a n) K) : Cl Try.prog hk 30 [.ptr D 0, .str a, .int .i64 n] w K := by
  apply in30 (hh.no _ _ _ (by decide) (by decide))
  unfold F30
  refine s40 hh h ⟨_, _, rfl, ?_⟩
  unfold Dsk.cut at hK
  cases hg : nget d.now.names a with
  | none => rw [hg] at hK; exact ifT_nd (fun _ => hK.same hm h) fun h => by cases h
  | some f =>
    rw [hg] at hK
    refine ifT_nd (fun h => absurd rfl h) fun _ => ?_
    simp only [Option.getD_some] at hK ⊢
    refine ifT_d (fun hn => ?_) fun hn => ?_
    · rw [if_pos (.inl hn)] at hK; exact hK.same hm h
    simp only [onP]
    obtain ⟨v, hlk, hsl⟩ := h.F2.look f
    refine onM_s (v := .map f2) (by rw [h.box.ld]; rfl) (onM_s hlk ⟨_, hsl.len, ifT_d (fun hc => ?_) fun hc => ?_⟩)
    · rw [if_pos (.inr hc)] at hK; exact hK.same hm h
    rw [if_neg (by omega)] at hK
    refine new_of hm fun w13 f13 b13 z13 => ?_
    have e : stepC (.int .i64 2) (.int .i64 f) (.int .i64 n) z64 (.str []) (.str []) = stpsC [⟨2, f, n, zsec, [], []⟩] := by
      rw [z64_eq]; simp [stpsC, Stp.cells, stepC]
    rw [e] at b13
    have hnow := (hV.now f).1
    refine s42n (l := [⟨2, f, n, zsec, [], []⟩]) hh f13.mem (by omega) (h.fr hm f13) hV hkk (fun x hx => ?_) (by simp) b13 (by have := (h.lt hm).1; omega) fun X' sv' w' h1 h2 h3 h4 => ⟨_, rfl, hK.fr hm f13 X' sv' w' h1 h2 h3 h4⟩
    simp at hx; subst hx
    exact ⟨by simp [zsec], by show 0 ≤ n; omega, by show n ≤ 4096; omega, fun e => by cases e⟩

/-- Remove. -/
theorem s31 {a : Byts} (hh : HK hk) (hm : Mem w) (hw : 0 < w.size) (h : DkM X w D n1 f1 n2 f2 sv d) (hV : d.V k) (hkk : k < 2 ^ 27) (hK : Out X w D n1 f1 n2 f2 (d.remove a) K) : Cl Try.prog hk 31 [.ptr D 0, .str a] w K := by
  apply in31 (hh.no _ _ _ (by decide) (by decide))
  unfold F31
  refine s40 hh h ⟨_, _, rfl, ?_⟩
  unfold Dsk.remove at hK
  cases hg : nget d.now.names a with
  | none => rw [hg] at hK; exact ifT_nd (fun _ => hK.same hm h) fun h => by cases h
  | some f =>
    rw [hg] at hK
    refine ifT_nd (fun h => absurd rfl h) fun _ => ?_
    simp only [Option.getD_some] at hK ⊢
    refine new_of hm fun w13 f13 b13 z13 => ?_
    have e : stepC (.int .i64 4) (.int .i64 f) (.int .i64 0) z64 (.str a) (.str []) = stpsC [⟨4, f, 0, zsec, a, []⟩] := by
      rw [z64_eq]; simp [stpsC, Stp.cells, stepC]
    rw [e] at b13
    refine s42n (l := [⟨4, f, 0, zsec, a, []⟩]) hh f13.mem (by omega) (h.fr hm f13) hV hkk (fun x hx => ?_) (by simp) b13 (by have := (h.lt hm).1; omega) fun X' sv' w' h1 h2 h3 h4 => ⟨_, rfl, hK.fr hm f13 X' sv' w' h1 h2 h3 h4⟩
    simp at hx; subst hx
    exact ⟨by simp [zsec], Int.le_refl 0, by show (0 : Int) ≤ 4096; omega, fun e => by cases e⟩

/-- Rename. -/
theorem s15 {a b : Byts} (hh : HK hk) (hm : Mem w) (hw : 0 < w.size) (h : DkM X w D n1 f1 n2 f2 sv d) (hV : d.V k) (hkk : k < 2 ^ 27) (hK : Out X w D n1 f1 n2 f2 (d.rename a b) K) : Cl Try.prog hk 15 [.ptr D 0, .str a, .str b] w K := by
  apply in15 (hh.no _ _ _ (by decide) (by decide))
  unfold F15
  refine s40 hh h ⟨_, _, rfl, ?_⟩
  unfold Dsk.rename at hK
  refine ifT_d (fun e => by split at e <;> cases e) fun _ => ?_
  refine s41 hh ⟨_, rfl, ?_⟩
  cases hnb : named b with
  | false => rw [hnb, if_pos (by simp)] at hK; exact ifT_t (hK.same hm h)
  | true =>
    rw [hnb, if_neg (by simp)] at hK
    refine ifT_f ?_
    cases hg : nget d.now.names a with
    | none => rw [hg] at hK; exact ifT_nd (fun _ => hK.same hm h) fun h => by cases h
    | some f =>
      rw [hg] at hK
      refine ifT_nd (fun h => absurd rfl h) fun _ => ?_
      simp only [Option.getD_some] at hK ⊢
      by_cases hab : a = b
      · rw [if_pos hab] at hK
        rw [show (a == b) = true by simp [hab]]
        refine ifT_t (s42 (l := []) hh hm hw h hV hkk (fun x hx => by cases hx) (by simp) Rs.nil (by simp [blk]) fun X' sv' w' h1 h2 h3 h4 => ⟨_, rfl, hK X' sv' w' h1 h2 h3 h4⟩)
      · rw [if_neg hab] at hK
        rw [show (a == b) = false by simp [hab]]
        refine ifT_f (new_of hm fun w13 f13 b13 z13 => ?_)
        have e : stepC (.int .i64 3) (.int .i64 f) (.int .i64 0) z64 (.str a) (.str b) = stpsC [⟨3, f, 0, zsec, a, b⟩] := by
          rw [z64_eq]; simp [stpsC, Stp.cells, stepC]
        rw [e] at b13
        refine s42n (l := [⟨3, f, 0, zsec, a, b⟩]) hh f13.mem (by omega) (h.fr hm f13) hV hkk (fun x hx => ?_) (by simp) b13 (by have := (h.lt hm).1; omega) fun X' sv' w' h1 h2 h3 h4 => ⟨_, rfl, hK.fr hm f13 X' sv' w' h1 h2 h3 h4⟩
        simp at hx; subst hx
        exact ⟨by simp [zsec], Int.le_refl 0, by show (0 : Int) ≤ 4096; omega, fun e => by cases e⟩

/-- SyncNames. -/
theorem s16 (hh : HK hk) (hm : Mem w) (hw : 0 < w.size) (h : DkM X w D n1 f1 n2 f2 sv d) (hV : d.V k) (hkk : k < 2 ^ 27) (hK : Out X w D n1 f1 n2 f2 d.syncNames K) : Cl Try.prog hk 16 [.ptr D 0] w K := by
  apply in16 (hh.no _ _ _ (by decide) (by decide))
  unfold F16
  refine s47 hh h.box ⟨false, rfl, ifT_f ?_⟩
  refine s45 hh hm hw h hV hkk (so := fun _ x => decide (x.what ≠ 1) && decide (x.what ≠ 2)) ?_ fun X' sv' w' h1 h2 h3 h4 => ⟨_, rfl, hK X' sv' w' h1 h2 h3 h4⟩
  intro i x w' hi hx hm' hsz hbx K' hK'
  show Cl Try.prog hk 48 [.int .i64 (i : Int), .agg x.cells] w' K'
  apply in48 (hh.no _ _ _ (by decide) (by decide))
  unfold F48
  simp only [onA]
  refine gd_t x.all (new_of hm' fun w4 f4 b4 z4 => ⟨x.what, by rw [b4.ld]; rfl, ?_⟩)
  have hK4 : K' (.bool (decide (x.what ≠ 1) && decide (x.what ≠ 2))) w4 := hK' w4 f4
  refine ifT_nd (fun e1 => ⟨x.what, by rw [b4.ld]; rfl, ?_⟩) fun e1 => ?_
  · have : (decide (x.what ≠ 1) && decide (x.what ≠ 2)) = !decide (x.what = 2) := by simp [e1]
    rw [this] at hK4; exact hK4
  · have : (decide (x.what ≠ 1) && decide (x.what ≠ 2)) = false := by simp [e1]
    rw [this] at hK4; exact hK4

theorem s44 {x : Stp} {b6 : Nat} {f : Int} (hh : HK hk) (hm : Mem w) (hb : Box w b6 [.int .i64 f]) (hK : ∀ w', Fr w.size w w' → K (.bool (decide (x.file = f) && decide (x.what = 0))) w') : Cl Try.prog hk 44 [.agg x.cells, .ptr b6 0] w K := by
  apply in44 (hh.no _ _ _ (by decide) (by decide))
  unfold F44
  simp only [onA, onP]
  refine gd_t x.all (new_of hm fun w4 f4 b4 z4 => ⟨x.file, by rw [b4.ld]; rfl, f, by rw [(hb.fr f4 (hb.lt hm)).ld]; rfl, ?_⟩)
  have hK4 := hK w4 f4
  refine ifT_d (fun e => ⟨x.what, by rw [b4.ld]; rfl, ?_⟩) fun e => ?_
  · rw [decide_eq_true e, Bool.true_and] at hK4; exact hK4
  · rw [decide_eq_false e, Bool.false_and] at hK4; exact hK4

/-- slices.IndexFunc. -/
theorem s43 {l : List Stp} {v : AV} {b6 : Nat} {f : Int} (hh : HK hk) (hm : Mem w) (hl : ∀ x ∈ l, x.data.length = 64) (hll : l.length < 2 ^ 40) (hv : Rs w 69 l.length v (stpsC l)) (hb : Box w b6 [.int .i64 f]) (hK : ∀ w', Fr w.size w w' → K (.int .i64 (upto f l)) w') :
    Cl Try.prog hk 43 [v, .func 44 [] [.ptr b6 0]] w K := by
  apply in43 (hh.no _ _ _ (by decide) (by decide))
  unfold F43
  refine ⟨_, hv.len, ?_⟩
  refine loopP_ind (fun m lv w5 => ∃ j : Nat, j ≤ l.length ∧ m = l.length - j ∧ lv = [.int .i64 j] ∧ Fr w.size w w5 ∧ ∀ i (hi : i < l.length), i < j → (decide (l[i].file = f) && decide (l[i].what = 0)) = false) ?_ ⟨0, Nat.zero_le _, rfl, rfl, Fr.refl hm, fun i _ h => by omega⟩
  rintro m lv w5 ⟨j, hj, rfl, rfl, f5, hno⟩ R ih
  refine ⟨_, rfl, fun _ => ifT_d (fun hc => ?_) fun hc => ?_⟩
  · have hjl : j < l.length := by omega
    refine (hv.fr hm f5 (Nat.le_refl _)).at (i := (j : Int)) (by omega) (by omega) fun bb oo _ hN => ?_
    have hN : ldN 69 w5 bb oo = some (.agg l[j].cells) := by rw [hN]; exact congrArg (fun t => some (AV.agg t)) (stpsC_at hl hjl)
    refine onM_s hN ?_
    show Cl Try.prog hk 44 [.agg l[j].cells, .ptr b6 0] w5 _
    refine s44 hh f5.mem (hb.fr f5 (hb.lt hm)) fun w11 f11 => ⟨_, rfl, ?_⟩
    have f011 := f5.trans f11 f5.size
    cases hp : (decide (l[j].file = f) && decide (l[j].what = 0)) with
    | true =>
      refine ifT_t ?_
      have : upto f l = j := by
        unfold upto
        have : l.findIdx? (fun x => decide (x.file = f) && decide (x.what = 0)) = some j := by
          rw [List.findIdx?_eq_some_iff_getElem]
          exact ⟨hjl, hp, fun i hi => by rw [hno i (by omega) hi]; simp⟩
        rw [this]
      rw [← this]; exact hK w11 f011
    | false =>
      refine ifT_f (ih (l.length - (j + 1)) (by omega) _ _ ⟨j + 1, by omega, rfl, by rw [wi_eq (by omega) (by omega)]; rfl, f011, fun i hi hij => ?_⟩)
      by_cases h : i = j
      · subst h; exact hp
      · exact hno i hi (by omega)
  · have : upto f l = -1 := by
      unfold upto
      have : l.findIdx? (fun x => decide (x.file = f) && decide (x.what = 0)) = none := by
        rw [List.findIdx?_eq_none_iff]
        intro x hx
        obtain ⟨i, hi, rfl⟩ := List.getElem_of_mem hx
        exact hno i hi (by omega)
      rw [this]
    rw [this] at hK
    exact hK w5 f5

/-- Sync. -/
theorem s13 {a : Byts} (hh : HK hk) (hm : Mem w) (hw : 0 < w.size) (h : DkM X w D n1 f1 n2 f2 sv d) (hV : d.V k) (hkk : k < 2 ^ 27) (hK : Out X w D n1 f1 n2 f2 (d.sync a) K) : Cl Try.prog hk 13 [.ptr D 0, .str a] w K := by
  apply in13 (hh.no _ _ _ (by decide) (by decide))
  unfold F13
  refine s40 hh h ⟨_, _, rfl, new_of hm fun w7 f7 b7 z7 => ?_⟩
  refine fill_of (vs := [.int .i64 ((nget d.now.names a).getD 0)]) b7 f7.mem (by omega) rfl fun w8 c8 b8 z8 => ?_
  have f8 : Fr w.size w w8 := (Ch.new f7 c8 [] fun z hz => by simp at hz; omega).fr (Nat.le_refl _) (by simp)
  unfold Dsk.sync at hK
  have h8 := h.fr hm f8
  cases hg : nget d.now.names a with
  | none => rw [hg] at hK; exact ifT_nd (fun _ => (hK.fr hm f8).same c8.mem h8) fun h => by cases h
  | some f =>
    rw [hg] at hK b8
    refine ifT_nd (fun h => absurd rfl h) fun _ => ?_
    simp only [Option.getD_some] at hK b8 ⊢
    simp only [onP]
    have hDl := (h.lt hm).1
    refine onM_s (v := sv) (by rw [h8.box.ld]; rfl) ?_
    refine s43 hh c8.mem h8.sd (by have := hV.steps; omega) h8.rs b8 fun w13 f13 => ⟨_, rfl, new_of f13.mem fun w16 f16 b16 z16 => ?_⟩
    refine fill_of (vs := [.int .i64 (upto f d.steps)]) b16 f16.mem (by have := f13.size; omega) rfl fun w17 c17 b17 z17 => ?_
    have hs13 := f13.size
    have f817 : Fr w8.size w8 w17 := f13.trans ((Ch.new f16 c17 [] fun z hz => by simp at hz; omega).fr (Nat.le_refl _) (by simp)) (by omega)
    have f17 := f8.trans f817 f8.size
    have b8' := b8.fr f817 (by omega)
    refine s45 hh c17.mem (by omega) (h.fr hm f17) hV hkk (so := fun i x => if x.what = 1 ∨ x.what = 2 then decide (x.file = f) else decide ((i : Int) ≤ upto f d.steps)) ?_ fun X' sv' w' h1 h2 h3 h4 => ⟨_, rfl, hK.fr hm f17 X' sv' w' h1 h2 h3 h4⟩
    intro i x w' hi hx hm' hsz hbx K' hK'
    show Cl Try.prog hk 46 [.int .i64 (i : Int), .agg x.cells, .ptr w.size 0, .ptr w13.size 0] w' K'
    have q8 := hbx _ _ (by omega) b8'
    have q17 := hbx _ _ (by omega) b17
    apply in46 (hh.no _ _ _ (by decide) (by decide))
    unfold F46
    simp only [onA, onP]
    refine gd_t x.all (new_of hm' fun w6 f6 b6 z6 => ⟨x.what, by rw [b6.ld]; rfl, ?_⟩)
    have hK6 : K' (.bool (if x.what = 1 ∨ x.what = 2 then decide (x.file = f) else decide ((i : Int) ≤ upto f d.steps))) w6 := hK' w6 f6
    have q8' := q8.fr f6 (q8.lt hm')
    have q17' := q17.fr f6 (q17.lt hm')
    refine ifT_d (fun e1 => ⟨x.file, by rw [b6.ld]; rfl, f, by rw [q8'.ld]; rfl, ?_⟩) fun e1 => ⟨x.what, by rw [b6.ld]; rfl, ifT_d (fun e2 => ⟨x.file, by rw [b6.ld]; rfl, f, by rw [q8'.ld]; rfl, ?_⟩) fun e2 => ⟨_, by rw [q17'.ld]; rfl, ?_⟩⟩
    · rw [if_pos (.inl e1)] at hK6; exact hK6
    · rw [if_pos (.inr e2)] at hK6; exact hK6
    · rw [if_neg (by simp [e1, e2])] at hK6; exact hK6

/-- Pending. -/
theorem s28 (hh : HK hk) (h : DkM X w D n1 f1 n2 f2 sv d) (hK : K (.int .i64 d.steps.length) w) : Cl Try.prog hk 28 [.ptr D 0] w K := by
  apply in28 (hh.no _ _ _ (by decide) (by decide))
  unfold F28
  refine s47 hh h.box ⟨false, rfl, ifT_f ?_⟩
  simp only [onP]
  exact onM_s (v := sv) (by rw [h.box.ld]; rfl) ⟨_, h.rs.len, hK⟩
/-- Arm. -/
theorem s32 {n : Int} (hh : HK hk) (hm : Mem w) (h : DkM X w D n1 f1 n2 f2 sv d) (h0 : 0 ≤ n) (hK : ∀ w', Tz [D] w w' → DkM X w' D n1 f1 n2 f2 sv { d with arm := wi (imin n 4611686018427387904 + 1) } → K (.int .i64 0) w') : Cl Try.prog hk 32 [.ptr D 0, .int .i64 n] w K := by
  apply in32 (hh.no _ _ _ (by decide) (by decide))
  unfold F32
  refine s47 hh h.box ⟨false, rfl, ifT_f (ifT_d (fun h => by omega) fun _ => ?_)⟩
  simp only [onP, be]
  exact s51 hh (h.put (o := 8) (d' := { d with arm := wi (imin n 4611686018427387904 + 1) }) hm (by simp) rfl rfl rfl rfl fun w' t z h' => ⟨rfl, hK w' t h'⟩)
end
end Go.Proofs.Ytbjeebgdjlemjaa
