/-
  What the disk's functions do, over memory (the first part).
  No condition beyond those that each theorem names.
-/
import Derived.Test.YtbjeebgdjlemjaaF07
import Derived.Test.YtbjeebgdjlemjaaSxs
import Derived.Test.YtbjeebgdjlemjaaSxo
set_option linter.unusedSimpArgs false
open Go.Sx
set_option linter.unusedVariables false
namespace Go.Proofs.Ytbjeebgdjlemjaa

/-- What is hooked, and what not. -/
structure HK (hk : Hook) : Prop where
  no : ∀ f a w, f ≠ 14 → f ≠ 55 → hk f a w = none
  sorted : ∀ a w x, hookS kindS 55 76 w a = some x → hk 55 a w = some (some x)
  awake : ∀ w, hk 14 [] w = some (some (.bool true, w))

theorem z64_eq : z64 = cellsOfBytes zsec := by simp [z64, zsec, cellsOfBytes]
theorem stepC_eq (x : Stp) : stepC (.int .i64 x.what) (.int .i64 x.file) (.int .i64 x.n) (cellsOfBytes x.data) (.str x.name) (.str x.to) = x.cells := rfl

/-! ### Small functions -/
theorem s47 {hk : Hook} {w : AW} {D : Nat} {cs : List AV} {K : AV → AW → Prop} (hh : HK hk) (h : Box w D (.bool true :: cs)) (hK : K (.bool false) w) : Cl Try.prog hk 47 [.ptr D 0] w K := by
  apply in47 (hh.no _ _ _ (by decide) (by decide))
  unfold F47
  exact ⟨false, by kernel_rfl, ifT_f ⟨true, by rw [h.ld]; rfl, hK⟩⟩
theorem s41 {hk : Hook} {w : AW} {s : Byts} {K : AV → AW → Prop} (hh : HK hk) (hK : K (.bool (named s)) w) : Cl Try.prog hk 41 [.str s] w K := by
  apply in41 (hh.no _ _ _ (by decide) (by decide))
  unfold F41
  have e : Int.ofNat s.length = ((s.length : Nat) : Int) := rfl
  rw [e]
  refine ifT_d (fun h => ?_) fun h => ?_
  · have : named s = decide (((s.length : Nat) : Int) ≤ 64) := by
      unfold named
      rw [decide_eq_decide]; omega
    rw [← this]; exact hK
  · have : named s = false := by
      unfold named
      rw [decide_eq_false_iff_not]; omega
    rw [← this]; exact hK
theorem s53 {hk : Hook} {w : AW} {b o : Nat} {n : Int} {K : AV → AW → Prop} (hh : HK hk) (h : ld w b o = some (.int .i64 n)) (hK : K (.int .i64 n) w) : Cl Try.prog hk 53 [.ptr b o] w K := by
  apply in53 (hh.no _ _ _ (by decide) (by decide))
  unfold F53
  simp only [onP, Nat.add_zero]
  exact Cl_ext (hh.no _ _ _ (by decide) (by decide)) Try.func73 rfl (ext_load h) ⟨n, rfl, hK⟩
theorem s51 {hk : Hook} {w : AW} {b o : Nat} {n : Int} {K : AV → AW → Prop} (hh : HK hk) (h : onM (w.putCells b o [.int .i64 n]) fun w' => K (.tup []) w') : Cl Try.prog hk 51 [.ptr b o, .int .i64 n] w K := by
  apply in51 (hh.no _ _ _ (by decide) (by decide))
  unfold F51
  simp only [onP, Nat.add_zero]
  obtain ⟨w', h1, h2⟩ := onM_iff.1 h
  exact Cl_ext (hh.no _ _ _ (by decide) (by decide)) Try.func72 rfl (ext_store h1) ⟨rfl, h2⟩
theorem s92 {hk : Hook} {w : AW} {b o : Nat} {n d : Int} {K : AV → AW → Prop} (hh : HK hk) (h0 : ld w b o = some (.int .i64 n)) (h : onM (w.putCells b o [.int .i64 (wi (n + d))]) fun w' => K (.int .i64 (wi (n + d))) w') : Cl Try.prog hk 92 [.ptr b o, .int .i64 d] w K := by
  apply in92 (hh.no _ _ _ (by decide) (by decide))
  unfold F92
  simp only [onP, Nat.add_zero]
  obtain ⟨w', h1, h2⟩ := onM_iff.1 h
  exact Cl_ext (hh.no _ _ _ (by decide) (by decide)) Try.func104 rfl (ext_add h0 h1) ⟨_, rfl, h2⟩
theorem s86 {hk : Hook} {w : AW} {b o : Nat} {n : Int} {K : AV → AW → Prop} (hh : HK hk) (h0 : ld w b o = some (.int .i64 n)) (hz : n = 0 → K (.bool false) w) (h : n ≠ 0 → onM (w.putCells b o [.int .i64 (wi (n + -1))]) fun w' => K (.bool (decide (wi (n + -1) = 0))) w') : Cl Try.prog hk 86 [.ptr b o] w K := by
  apply in86 (hh.no _ _ _ (by decide) (by decide))
  unfold F86
  refine s53 hh h0 ⟨n, rfl, ifT_d hz fun hn => ?_⟩
  refine s92 hh h0 ?_
  obtain ⟨w', h1, h2⟩ := onM_iff.1 (h hn)
  exact onM_s h1 ⟨_, rfl, h2⟩

section
variable {hk : Hook} {X : List Nat} {w : AW} {D n1 f1 n2 f2 : Nat} {sv : AV} {d : Dsk} {K : AV → AW → Prop}

/-- find. -/
theorem s40 {s : Byts} (hh : HK hk) (h : DkM X w D n1 f1 n2 f2 sv d) (hK : K (.tup [.int .i64 ((nget d.now.names s).getD 0), .int .i64 (if (nget d.now.names s).isSome then 0 else 70)]) w) : Cl Try.prog hk 40 [.ptr D 0, .str s] w K := by
  apply in40 (hh.no _ _ _ (by decide) (by decide))
  unfold F40
  refine s47 hh h.box ⟨false, rfl, ifT_f ?_⟩
  refine onM_s (v := .map n2) (by rw [h.box.ld]; rfl) ⟨_, _, h.N2.look s, ?_⟩
  cases hg : nget d.now.names s with
  | none => rw [hg] at hK; exact ifT_t hK
  | some f => rw [hg] at hK; exact ifT_f hK

/-- stopped. -/
theorem s68 (hh : HK hk) (hm : Mem w) (h : DkM X w D n1 f1 n2 f2 sv d) (hK : ∀ w', Tz [D] w w' → w'.size = w.size → DkM X w' D n1 f1 n2 f2 sv d.stopped.1 → K (.int .i64 d.stopped.2) w') : Cl Try.prog hk 68 [.ptr D 0] w K := by
  apply in68 (hh.no _ _ _ (by decide) (by decide))
  unfold F68
  simp only [onP]
  refine ⟨d.down, by rw [h.box.ld]; rfl, ?_⟩
  unfold Dsk.stopped at hK
  cases hd : d.down with
  | true =>
    rw [hd] at hK
    exact ifT_t (hK w (Tz.refl hm) rfl h)
  | false =>
    rw [hd] at hK
    refine ifT_f ?_
    -- the fault
    have step1 : ∀ {K' : AV → AW → Prop}, (∀ w', Tz [D] w w' → w'.size = w.size → DkM X w' D n1 f1 n2 f2 sv { d with fault := (spent d.fault).1 } → K' (.bool (spent d.fault).2) w') → Cl Try.prog hk 86 [.ptr D (0 + 9)] w K' := fun {K'} hK' => by
      refine s86 hh (n := d.fault) (by rw [h.box.ld]; rfl) (fun e => ?_) fun e => ?_
      · have : spent d.fault = (0, false) := by unfold spent; rw [if_pos e]
        rw [this] at hK'
        refine hK' w (Tz.refl hm) rfl ?_
        have e2 : { d with fault := 0 } = d := by rw [← e]
        rw [e2]; exact h
      · have : spent d.fault = (wi (d.fault + -1), decide (wi (d.fault + -1) = 0)) := by unfold spent; rw [if_neg e]
        rw [this] at hK'
        exact h.put (d' := { d with fault := wi (d.fault + -1) }) hm (by simp) rfl rfl rfl rfl fun w' t z h' => hK' w' t z h'
    refine step1 fun w9 t9 z9 h9 => ⟨_, rfl, ?_⟩
    have hm9 := t9.ch.mem
    have step2 : ∀ {K' : AV → AW → Prop}, (∀ w', Tz [D] w9 w' → w'.size = w9.size → DkM X w' D n1 f1 n2 f2 sv { d with fault := (spent d.fault).1, arm := (spent d.arm).1 } → K' (.bool (spent d.arm).2) w') → Cl Try.prog hk 86 [.ptr D (0 + 8)] w9 K' := fun {K'} hK' => by
      refine s86 hh (n := d.arm) (by rw [h9.box.ld]; rfl) (fun e => ?_) fun e => ?_
      · have : spent d.arm = (0, false) := by unfold spent; rw [if_pos e]
        rw [this] at hK'
        refine hK' w9 (Tz.refl hm9) rfl ?_
        have e2 : { d with fault := (spent d.fault).1, arm := 0 } = { d with fault := (spent d.fault).1 } := by rw [← e]
        rw [e2]; exact h9
      · have : spent d.arm = (wi (d.arm + -1), decide (wi (d.arm + -1) = 0)) := by unfold spent; rw [if_neg e]
        rw [this] at hK'
        exact h9.put (d' := { d with fault := (spent d.fault).1, arm := wi (d.arm + -1) }) hm9 (by simp) rfl rfl rfl rfl fun w' t z h' => hK' w' t z h'
    refine step2 fun w12 t12 z12 h12 => ⟨_, rfl, ?_⟩
    have hm12 := t12.ch.mem
    have t := t9.trans t12
    cases ha : (spent d.arm).2 with
    | true =>
      rw [ha] at hK
      refine ifT_t (h12.put (d' := { d with fault := (spent d.fault).1, arm := (spent d.arm).1, down := true }) hm12 (by simp) rfl rfl rfl rfl fun w' t' z' h' => hK w' (t.trans t') (by omega) h')
    | false =>
      rw [ha] at hK
      refine ifT_f ?_
      have h12' : DkM X w12 D n1 f1 n2 f2 sv { d with fault := (spent d.fault).1, arm := (spent d.arm).1 } := h12
      rw [hd] at h12'
      cases hf : (spent d.fault).2 with
      | true =>
        rw [hf] at hK
        exact ifT_t ⟨_, by rw [h12.box.ld]; rfl, hK w12 t (by omega) h12'⟩
      | false =>
        rw [hf] at hK
        exact ifT_f (hK w12 t (by omega) h12')
end

/-! ### What a step does -/
theorem s69 {hk : Hook} {w : AW} {v : AV} {l : List Byts} {K : AV → AW → Prop} (hh : HK hk) (hm : Mem w) (hw : 0 < w.size) (h : SL w v l) (hs : l.length < 2 ^ 30) (hK : ∀ v' w', Fr w.size w w' → Gc (w.size ≤ ·) 64 w' v' (cellsOfBytes l.flatten) → K v' w') : Cl Try.prog hk 69 [v] w K := by
  apply in69 (hh.no _ _ _ (by decide) (by decide))
  unfold F69
  have hr := h.rs
  by_cases hv : v = .nilslice
  · subst hv
    have : l = [] := by
      rcases h.2 with ⟨_, h⟩ | ⟨b, o, cap, ex, bs, h, _⟩
      · exact h
      · cases h
    subst this
    exact ⟨true, by kernel_rfl, ifT_t (hK _ _ (Fr.refl hm) Gc.nil)⟩
  · have hsl : ∃ b o n cap ex, v = .slice b o n cap ex := by
      rcases h.2 with ⟨h, _⟩ | ⟨b, o, cap, ex, bs, h, _⟩
      · exact absurd h hv
      · exact ⟨b, o, _, cap, ex, h⟩
    obtain ⟨b, o, n, cap, ex, rfl⟩ := hsl
    refine ⟨false, by kernel_rfl, ifT_f (new_of hm fun w3 f3 b3 z3 => ?_)⟩
    have h0 : Gc (w.size ≤ ·) 64 w3 (.slice w.size 0 0 0 none) [] := .inr ⟨w.size, w.size, 0, none, w.size, false, rfl, by simp, .inl rfl, Nat.le_refl _, by omega, b3, AW.root?_iff.2 ⟨_, b3, rfl⟩⟩
    refine h0.app f3.mem (by show w.size ≤ w3.size; omega) (by omega) (by decide) (hr.fr hm f3 (Nat.le_refl _)) (by simp; omega) (by simp; omega) fun v' w5 hg hgr _ => hK v' w5 ?_ (by simpa using hg)
    exact f3.trans ⟨hgr.size, fun c hc => hgr.old c (by omega) (by omega), hgr.mem⟩ (Nat.le_refl _)

theorem flat_len {l : List Byts} (h : ∀ s ∈ l, s.length = 64) : l.flatten.length = l.length * 64 := by
  induction l with
  | nil => rfl
  | cons a l ih => rw [List.flatten_cons, List.length_append, h a List.mem_cons_self, ih fun s hs => h s (List.mem_cons_of_mem _ hs), List.length_cons, Nat.add_mul]; omega
theorem flat_set {l : List Byts} (h : ∀ s ∈ l, s.length = 64) {n : Nat} (hn : n < l.length) {x : Byts} (hx : x.length = 64) : listPut (cellsOfBytes l.flatten) (n * 64) (cellsOfBytes x) = cellsOfBytes (l.set n x).flatten := by
  induction l generalizing n with
  | nil => simp at hn
  | cons a l ih =>
    have ha := h a List.mem_cons_self
    cases n with
    | zero =>
      simp only [List.set_cons_zero, List.flatten_cons, listPut, Nat.zero_mul, List.take_zero, List.nil_append, Nat.zero_add, cellsOfBytes_append, cellsOfBytes_length, hx]
      rw [List.drop_left' (by rw [cellsOfBytes_length, ha])]
    | succ n =>
      have := ih (fun s hs => h s (List.mem_cons_of_mem _ hs)) (n := n) (by simpa using hn)
      simp only [List.set_cons_succ, List.flatten_cons, cellsOfBytes_append]
      rw [← this]
      simp only [listPut]
      have hal : (cellsOfBytes a).length = 64 := by rw [cellsOfBytes_length, ha]
      rw [show (n + 1) * 64 = (cellsOfBytes a).length + n * 64 by rw [hal]; omega, List.take_length_add_append]
      rw [show (cellsOfBytes a).length + n * 64 + (cellsOfBytes x).length = (cellsOfBytes a).length + (n * 64 + (cellsOfBytes x).length) by omega, List.drop_length_add_append]
      simp only [List.append_assoc]
theorem Gc_SL {Q : Nat → Prop} {w w' : AW} {v : AV} {cs : List AV} {l : List Byts} (h : Gc Q 64 w v cs) (hl : ∀ s ∈ l, s.length = 64) (hlen : cs.length = l.length * 64) (hc : ∀ c, blk v = some c → w'.cells? c = some (cellsOfBytes l.flatten)) : SL w' v l := by
  refine ⟨hl, ?_⟩
  rcases h with ⟨rfl, rfl⟩ | ⟨b, f, n, ex, o, d, rfl, h2, h3, h4, h5, h6, h7⟩
  · exact .inl ⟨rfl, List.eq_nil_of_length_eq_zero (by simp at hlen; omega)⟩
  · have : n = l.length := by omega
    subst this
    refine .inr ⟨b, 0, _, ex, _, rfl, Nat.le_refl _, ?_, hc b rfl, by rw [flat_len hl]; omega, by rw [List.drop_zero, ← flat_len hl, List.take_length]⟩
    rcases h3 with rfl | rfl <;> rfl
theorem FMp.set {w w' : AW} {r : Nat} {F : Int → List Byts} {k : Int} {v : AV} {l : List Byts} {es : List (AV × AV)} {cl cl' : Nat} (h1 : w.get r = some (.map es cl)) (h2 : ∀ e ∈ es, ∃ k : Int, e.1 = .int .i64 k) (h3 : ∀ k, match lookM (.int .i64 k) es with | some v => SL w v (F k) | none => F k = [])
    (hg : w'.get r = some (.map (insM (.int .i64 k) v es) cl')) (hb : ∀ b bs, w.cells? b = some (cellsOfBytes bs) → w'.cells? b = some (cellsOfBytes bs)) (hv : SL w' v l) : FMp w' r (updF F k l) := by
  refine ⟨_, _, hg, ints_ins h2, fun j => ?_⟩
  rw [lookM_ins h2]
  unfold updF
  by_cases hj : j = k
  · simp only [if_pos hj]; exact hv
  · simp only [if_neg hj]
    have := h3 j
    cases hl : lookM (.int .i64 j) es with
    | none => rw [hl] at this; exact this
    | some u => rw [hl] at this; exact SL.mono hb this

theorem s49 {hk : Hook} {w : AW} {n f : Nat} {s : FS} {x : Stp} {K : AV → AW → Prop} (hh : HK hk) (hm : Mem w) (hw : 0 < w.size) (hN : NMp w n s.names) (hF : FMp w f s.files) (hnf : n ≠ f) (hx : x.data.length = 64) (hxn : 0 ≤ x.n ∧ x.n < 2 ^ 20) (hfl : (s.files x.file).length < 2 ^ 20)
    (hK : ∀ w', Tz [n, f] w w' → NMp w' n (s.does x).names → FMp w' f (s.does x).files → K (.tup []) w') : Cl Try.prog hk 49 [.agg [.map n, .map f], .agg x.cells] w K := by
  apply in49 (hh.no _ _ _ (by decide) (by decide))
  unfold F49
  refine gd_t rfl (new_of hm fun w4 f4 b4 z4 => ?_)
  simp only [onA]
  refine gd_t x.all (new_of f4.mem fun w7 f7 b7 z7 => ?_)
  have f07 : Fr w.size w w7 := f4.trans f7 (by omega)
  have b4' : Box w7 w.size [.map n, .map f] := b4.fr f7 (by omega)
  have hnl : n < w.size := by obtain ⟨_, _, h⟩ := hN.isMap; exact hm.lt _ _ h
  have hfl' : f < w.size := by obtain ⟨_, _, h⟩ := hF.isMap; exact hm.lt _ _ h
  have hN7 := hN.fr (f07.old _ hnl)
  have hF7 := hF.mono (f07.old _ hfl') fun b bs hb => f07.cells hm hb (Nat.le_refl _)
  have t7 : Tz [n, f] w w7 := Tz.of_fr hm f07
  refine onM_s (v := .map n) (by rw [b4'.ld]; rfl) ⟨x.name, by rw [b7.ld]; exact Stp.cname hx, _, _, hN7.look x.name, ?_⟩
  obtain ⟨lv, hlk, hsl⟩ := hF7.look x.file
  refine onM_s (v := .map f) (by rw [b4'.ld]; rfl) ⟨x.file, by rw [b7.ld]; rfl, onM_s hlk ⟨x.what, by rw [b7.ld]; rfl, ?_⟩⟩
  unfold FS.does at hK
  refine ifT_d (fun e0 => ?_) fun e0 => ?_
  · -- made
    rw [if_pos e0] at hK
    obtain ⟨cl, hcl⟩ := hN7
    refine onM_s (v := .map n) (by rw [b4'.ld]; rfl) ⟨x.name, by rw [b7.ld]; exact Stp.cname hx, x.file, by rw [b7.ld]; rfl, ?_⟩
    refine kvSet_of f07.mem hcl (nEnts_like _ _) fun w20 t20 z20 g20 => ?_
    refine hK w20 (t7.trans (t20.mono (by simp))) ⟨_, by rw [g20, nEnts_ins]⟩ (hF7.mono (t20.ch.old _ (by omega) (by simp; exact Ne.symm hnf)) t20.cells)
  rw [if_neg e0] at hK
  refine ifT_d (fun e1 => ?_) fun e1 => ?_
  · -- put
    rw [if_pos e1] at hK
    have hl64 := hsl.1
    refine s69 hh f07.mem (by omega) hsl (by omega) fun v22 w22 f22 hg22 => ?_
    have hs22 := f22.size
    obtain ⟨m, hm'⟩ := Int.eq_ofNat_of_zero_le hxn.1
    have hml : m < 2 ^ 20 := by omega
    have hz : zsec.length = 64 := by simp [zsec]
    have h64 : ∀ j, ∀ t ∈ s.files x.file ++ List.replicate j zsec, t.length = 64 := fun j t ht => by
      rcases List.mem_append.1 ht with ht | ht
      · exact hl64 t ht
      · rw [(List.mem_replicate.1 ht).2]; exact hz
    refine loopP_ind (fun i l w25 => ∃ (j : Nat) (v : AV), j ≤ m + 1 - (s.files x.file).length ∧ i = m + 1 - (s.files x.file).length - j ∧ l = [v] ∧ Fr w7.size w7 w25 ∧ Gc (w7.size ≤ ·) 64 w25 v (cellsOfBytes (s.files x.file ++ List.replicate j zsec).flatten)) ?_
      ⟨0, v22, Nat.zero_le _, rfl, rfl, f22, by simpa using hg22⟩
    rintro i l w25 ⟨j, v, hj, rfl, rfl, f25, hg25⟩ R ih
    have hs25 := f25.size
    have hlj := flat_len (h64 j)
    have hljl : (s.files x.file ++ List.replicate j zsec).length = (s.files x.file).length + j := by simp
    have hcl : (cellsOfBytes (s.files x.file ++ List.replicate j zsec).flatten).length = ((s.files x.file).length + j) * 64 := by rw [cellsOfBytes_length, hlj, hljl]
    have hrs := hg25.rs (k := (s.files x.file).length + j) (by decide) hcl
    have b7' := b7.fr f25 (by omega)
    have b4'' := b4'.fr f25 (by omega)
    refine ⟨v, rfl, fun _ => ⟨_, hrs.len, x.n, by rw [b7'.ld]; rfl, ?_⟩⟩
    refine ifT_d (fun hc => ?_) fun hc => ?_
    · -- one sector more
      refine new_of f25.mem fun w30 f30 b30 z30 => ?_
      have hrz : Rs w30 64 1 (.slice w25.size 0 1 1 none) (cellsOfBytes zsec) := by
        refine .inr ⟨w25.size, 0, 1, none, _, rfl, b30.cells, by rw [z64_eq, cellsOfBytes_length, hz]; omega, ?_⟩
        rw [z64_eq, List.drop_zero, List.take_of_length_le (by rw [cellsOfBytes_length, hz]; omega)]
      refine (hg25.fr f25.mem f30).app f30.mem (by show w7.size ≤ w30.size; omega) (by omega) (by decide) hrz (by rw [hcl, Nat.mul_div_cancel _ (by decide)]; omega) (by rw [hcl, Nat.mul_div_cancel _ (by decide)]; omega) fun v' w32 hg hgr _ => ?_
      refine ih _ (by omega) _ _ ⟨j + 1, v', by omega, rfl, rfl, (f25.trans f30 (by omega)).trans ⟨hgr.size, fun c hc => hgr.old c (by omega) (by omega), hgr.mem⟩ (Nat.le_refl _), ?_⟩
      have e : (s.files x.file ++ List.replicate (j + 1) zsec).flatten = (s.files x.file ++ List.replicate j zsec).flatten ++ zsec := by
        rw [List.replicate_succ', ← List.append_assoc, List.flatten_append]; simp
      rw [e, cellsOfBytes_append]; exact hg
    · -- the sector
      have hjm : j = m + 1 - (s.files x.file).length := by omega
      have hmlt : m < (s.files x.file).length + j := by omega
      refine ⟨x.n, by rw [b7'.ld]; rfl, onM_s (v := .agg (cellsOfBytes x.data)) (by rw [b7'.ldN (by rw [Stp.length hx]; omega)]; exact congrArg (fun t => some (AV.agg t)) (Stp.cdata hx)) ?_⟩
      rw [hm']
      refine hg25.put (n0 := w7.size) f25.mem (by rw [hcl]; exact Nat.mul_le_mul_right _ hmlt) (fun f h => h) (by rw [cellsOfBytes_length, hx]) (by decide) fun bb hput => ?_
      simp only [onA]
      refine gd_t (ok_bytes _) (gd_t (by rw [cellsOfBytes_length, hx]; rfl) (hput _ fun w38 f38 z38 hrs38 hcl38 => ?_))
      rw [flat_set (h64 j) (by rw [hljl]; exact hmlt) hx] at hcl38
      have f738 := f25.trans f38 (Nat.le_refl _)
      have hs38 := f738.size
      have hset : (s.files x.file ++ List.replicate j zsec).set m x.data = putS (s.files x.file) x.n.toNat x.data := by
        unfold putS; rw [hm', hjm]; rfl
      rw [hset] at hcl38
      have hp64 : ∀ t ∈ putS (s.files x.file) x.n.toNat x.data, t.length = 64 := fun t ht => by
        rw [← hset] at ht
        rcases List.mem_or_eq_of_mem_set ht with ht | rfl
        · exact h64 j t ht
        · exact hx
      have hpl : (putS (s.files x.file) x.n.toNat x.data).length = (s.files x.file).length + j := by rw [← hset, List.length_set, hljl]
      have hSL : SL w38 v (putS (s.files x.file) x.n.toNat x.data) := Gc_SL hg25 hp64 (by rw [hpl]; exact hcl) hcl38
      have b4x := b4'.fr f738 (by omega)
      have b7x := b7.fr f738 (by omega)
      obtain ⟨es, cl, g1, g2, g3⟩ := hF7.mono (f738.old _ (by omega)) fun b bs hb => f738.cells f07.mem hb (Nat.le_refl _)
      refine onM_s (v := .map f) (by rw [b4x.ld]; rfl) ⟨x.file, by rw [b7x.ld]; rfl, ?_⟩
      refine kvSet_of f738.mem g1 (ints_like g2 _) fun w42 t42 z42 g42 => ?_
      have t38 : Tz [n, f] w w38 := Tz.of_fr hm (f07.trans f738 (by omega))
      refine hK w42 (t38.trans (t42.mono (by simp))) (hN7.fr (by rw [t42.ch.old _ (by omega) (by simp; exact hnf), f738.old _ (by omega)])) (FMp.set g1 g2 g3 g42 t42.cells (hSL.mono t42.cells))
  rw [if_neg e1] at hK
  refine ifT_d (fun e2 => ?_) fun e2 => ?_
  · -- cut
    rw [if_pos e2] at hK
    obtain ⟨m, hm'⟩ := Int.eq_ofNat_of_zero_le hxn.1
    refine onM_s (v := .map f) (by rw [b4'.ld]; rfl) ⟨x.file, by rw [b7.ld]; rfl, _, hsl.len, x.n, by rw [b7.ld]; rfl, ?_⟩
    rw [hm', show imin (((s.files x.file).length : Nat) : Int) (m : Int) = ((min (s.files x.file).length m : Nat) : Int) from imin_nat _ _]
    obtain ⟨v', h1, h2⟩ := hsl.cut (k := min (s.files x.file).length m) (by omega)
    refine onM_s h1 ?_
    have hcutl : ((s.files x.file).take (min (s.files x.file).length m)).length < 2 ^ 30 := by simp; omega
    refine s69 hh f07.mem (by omega) h2 hcutl fun v48 w49 f49 hg49 => ?_
    have hs49 := f49.size
    have b4x := b4'.fr f49 (by omega)
    have b7x := b7.fr f49 (by omega)
    refine ⟨by rw [b7x.ld]; rfl, by rw [b4x.ld]; rfl, ?_⟩
    obtain ⟨es, cl, g1, g2, g3⟩ := hF7.mono (f49.old _ (by omega)) fun b bs hb => f49.cells f07.mem hb (Nat.le_refl _)
    have htk : (s.files x.file).take (min (s.files x.file).length m) = (s.files x.file).take x.n.toNat := by
      rw [hm']
      show _ = (s.files x.file).take m
      by_cases h : m ≤ (s.files x.file).length
      · rw [Nat.min_eq_right h]
      · rw [Nat.min_eq_left (by omega), List.take_of_length_le (by omega), List.take_of_length_le (by omega)]
    rw [htk] at hg49 h2
    have hSL : SL w49 v48 ((s.files x.file).take x.n.toNat) := Gc_SL hg49 h2.1 (by rw [cellsOfBytes_length, flat_len h2.1]) fun c hc => by
      rcases hg49 with ⟨e, _⟩ | ⟨b, f', k, ex, o, dd, e, q2, q3, q4, q5, q6, q7⟩
      · rw [e] at hc; cases hc
      · rw [e] at hc; cases hc
        exact AW.cells?_iff.2 ⟨(f', _, false), o, dd, AW.fam?_iff.2 ⟨_, o, dd, q6, q7⟩, .inl rfl, q6⟩
    refine kvSet_of f49.mem g1 (ints_like g2 _) fun w51 t51 z51 g51 => ?_
    have t49 : Tz [n, f] w w49 := Tz.of_fr hm (f07.trans f49 (by omega))
    exact hK w51 (t49.trans (t51.mono (by simp))) (hN7.fr (by rw [t51.ch.old _ (by omega) (by simp; exact hnf), f49.old _ (by omega)])) (FMp.set g1 g2 g3 g51 t51.cells (hSL.mono t51.cells))
  rw [if_neg e2] at hK
  cases hg : nget s.names x.name with
  | none =>
    rw [hg] at hK
    exact ifT_t (hK w7 t7 hN7 hF7)
  | some g =>
    rw [hg] at hK
    refine ifT_f ⟨x.file, by rw [b7.ld]; rfl, ?_⟩
    by_cases hgf : g = x.file
    · have hK : ∀ w', Tz [n, f] w w' → NMp w' n (if x.what = 3 then (⟨nset (ndel s.names x.name) x.to x.file, s.files⟩ : FS) else ⟨ndel s.names x.name, s.files⟩).names → FMp w' f s.files → K (.tup []) w' := fun w' a b c => hK w' a (by simp only [if_pos hgf]; exact b) (by simp only [if_pos hgf]; split <;> exact c)
      refine ifT_nd (fun h => absurd hgf h) fun _ => ?_
      obtain ⟨cl, hcl⟩ := hN7
      refine onM_s (v := .map n) (by rw [b4'.ld]; rfl) ⟨x.name, by rw [b7.ld]; exact Stp.cname hx, ?_⟩
      refine kvDel_of f07.mem hcl (nEnts_like _ _) fun w56 t56 z56 g56 => ?_
      rw [nEnts_del] at g56
      have hs56 := t56.ch.size
      have b4x := t56.ch.box f07.mem b4' (by simp; omega)
      have b7x := t56.ch.box f07.mem b7 (by simp; omega)
      have hF56 := hF7.mono (t56.ch.old _ (by omega) (by simp; exact Ne.symm hnf)) t56.cells
      refine ⟨x.what, by rw [b7x.ld]; rfl, ifT_d (fun e3 => ?_) fun e3 => ?_⟩
      · rw [if_pos e3] at hK
        refine onM_s (v := .map n) (by rw [b4x.ld]; rfl) ⟨x.to, by rw [b7x.ld]; exact Stp.cto hx, x.file, by rw [b7x.ld]; rfl, ?_⟩
        refine kvSet_of t56.ch.mem g56 (nEnts_like _ _) fun w62 t62 z62 g62 => ?_
        exact hK w62 ((t7.trans (t56.mono (by simp))).trans (t62.mono (by simp))) ⟨_, by rw [g62, nEnts_ins]⟩ (hF56.mono (t62.ch.old _ (by omega) (by simp; exact Ne.symm hnf)) t62.cells)
      · rw [if_neg e3] at hK
        exact hK w56 (t7.trans (t56.mono (by simp))) ⟨_, g56⟩ hF56
    · simp only [if_neg hgf] at hK
      exact ifT_nd (fun _ => hK w7 t7 hN7 hF7) fun h => absurd h hgf
end Go.Proofs.Ytbjeebgdjlemjaa
