/-
  What the disk's functions do, over memory, with its own blocks (the first part).
  No condition beyond those that each theorem names.
-/
import Derived.Test.YthpjoogmmjikmaaGreatDoorF10
import Derived.Test.YthpjoogmmjikmaaGreatDoorSxw
import Derived.Test.YthpjoogmmjikmaaGreatDoorSxv
set_option linter.unusedSimpArgs false
open Go.Sx
set_option linter.unusedVariables false
namespace Go.Proofs.YthpjoogmmjikmaaGreatDoor
structure HK (hk : Hook) : Prop where
  no : ∀ f a w, f ≠ 15 → (f ≠ 73 ∧ f ≠ 42) → hk f a w = none
  sorted : ∀ a w x, hookS kindS 73 112 w a = some x → hk 73 a w = some (some x)
  sortI : ∀ a w x, hookSort w a = some x → hk 42 a w = some (some x)
  awake : ∀ w, hk 15 [] w = some (some (.bool true, w))
theorem z64_eq : z64 = cellsOfBytes zsec := by simp [z64, zsec, cellsOfBytes]
theorem listPut_all {cs vs : List AV} (h : cs.length = vs.length) : listPut cs 0 vs = vs := by
  simp only [listPut, List.take_zero, List.nil_append, Nat.zero_add]
  rw [List.drop_eq_nil_of_le (by omega), List.append_nil]
theorem zstep_length : (stepC (.int .i64 0) (.int .i64 0) (.int .i64 0) z64 (.str []) (.str [])).length = 69 := by
  show (AV.int .i64 0 :: AV.int .i64 0 :: AV.int .i64 0 :: (z64 ++ [AV.str [], AV.str []])).length = 69
  rw [z64_eq]; simp [cellsOfBytes_length, zsec]
section
variable {hk : Hook} {A B : Nat → Prop} {I : List Nat} {w0 w w' : AW} {D : Nat} {i i' : DI} {d d' : Dsk} {k k' : Nat} {L L' : Obs} {K : AV → AW → Prop}
theorem s62 (hh : HK hk) (h : ld w D 0 = some (.bool true)) (hK : K (.bool false) w) : Cl Tryz.prog hk 62 [.ptr D 0] w K := by
  apply in62 (hh.no _ _ _ (by decide) (by decide))
  unfold F62
  exact ⟨false, by kernel_rfl, ifT_f ⟨true, h, hK⟩⟩
theorem s60 {s : Byts} (hh : HK hk) (hK : K (.bool (named s)) w) : Cl Tryz.prog hk 60 [.str s] w K := by
  apply in60 (hh.no _ _ _ (by decide) (by decide))
  unfold F60
  have e : Int.ofNat s.length = ((s.length : Nat) : Int) := rfl
  rw [e]
  refine ifT_d (fun h => ?_) fun h => ?_
  · have : named s = decide (((s.length : Nat) : Int) ≤ 64) := by
      unfold named
      rw [decide_eq_decide]; omega
    rw [← this]; exact hK
  · have : named s = false := by
      unfold named
      rw [decide_eq_false_iff_not]; omega
    rw [← this]; exact hK
theorem s154 {b o : Nat} {n : Int} (hh : HK hk) (h : ld w b o = some (.int .i64 n)) (hK : K (.int .i64 n) w) : Cl Tryz.prog hk 154 [.ptr b o] w K := by
  apply in154 (hh.no _ _ _ (by decide) (by decide))
  unfold F154
  simp only [onP, Nat.add_zero]
  exact Cl_ext (hh.no _ _ _ (by decide) (by decide)) Tryz.func176 rfl (ext_load h) ⟨_, rfl, hK⟩
theorem nlook (ns : List (Byts × Int)) (s : Byts) : lookV (.int .i64 0) true (lookM (.str s) (nEnts ns)) = some (.tup [.int .i64 ((nget ns s).getD 0), .bool (nget ns s).isSome]) := by
  rw [nEnts_look]
  cases nget ns s <;> rfl
theorem s59 {s : Byts} (hh : HK hk) (h : Dk A I w0 w D i d k L) (hK : K (.tup [.int .i64 ((nget d.now.names s).getD 0), .int .i64 (if (nget d.now.names s).isSome then 0 else 70)]) w) : Cl Tryz.prog hk 59 [.ptr D 0, .str s] w K := by
  apply in59 (hh.no _ _ _ (by decide) (by decide))
  unfold F59
  refine s62 hh (h.ow.ld 0 rfl rfl) ⟨false, rfl, ifT_f ?_⟩
  refine onM_s (h.ow.ld 0 rfl rfl) ⟨_, _, (h.ow.look 3 rfl (nEnts_like _ _)).trans (nlook _ s), ?_⟩
  cases hg : nget d.now.names s with
  | none => rw [hg] at hK; exact ifT_t hK
  | some f => rw [hg] at hK; exact ifT_f hK
theorem s155 {b o : Nat} {n e : Int} (hh : HK hk) (h0 : ld w b o = some (.int .i64 n)) (h : onM (w.putCells b o [.int .i64 (wi (n + e))]) fun w' => K (.int .i64 (wi (n + e))) w') : Cl Tryz.prog hk 155 [.ptr b o, .int .i64 e] w K := by
  apply in155 (hh.no _ _ _ (by decide) (by decide))
  unfold F155
  simp only [onP, Nat.add_zero]
  obtain ⟨w', h1, h2⟩ := onM_iff.1 h
  exact Cl_ext (hh.no _ _ _ (by decide) (by decide)) Tryz.func177 rfl (ext_add h0 h1) ⟨_, rfl, h2⟩
theorem s133 {b o : Nat} {n : Int} (hh : HK hk) (h0 : ld w b o = some (.int .i64 n)) (hz : n = 0 → K (.bool false) w) (h : n ≠ 0 → onM (w.putCells b o [.int .i64 (wi (n + -1))]) fun w' => K (.bool (decide (wi (n + -1) = 0))) w') : Cl Tryz.prog hk 133 [.ptr b o] w K := by
  apply in133 (hh.no _ _ _ (by decide) (by decide))
  unfold F133
  refine s154 hh h0 ⟨n, rfl, ifT_d hz fun hn => ?_⟩
  refine s155 hh h0 ?_
  obtain ⟨w', h1, h2⟩ := onM_iff.1 (h hn)
  exact onM_s h1 ⟨_, rfl, h2⟩
theorem s95 (hh : HK hk) (h : Dk A I w0 w D i d k L) (hK : Od A I w0 w D i L d.stopped k K) : Cl Tryz.prog hk 95 [.ptr D 0] w K := by
  apply in95 (hh.no _ _ _ (by decide) (by decide))
  unfold F95
  simp only [onP]
  refine ⟨d.down, h.ow.ld 0 rfl rfl, ?_⟩
  have hst : d.stopped.1.V k := h.V.stopped
  unfold Dsk.stopped at hK hst
  cases hd : d.down with
  | true =>
    rw [hd] at hK
    exact ifT_t (Od.now h hK (Nat.le_refl _) h.k27)
  | false =>
    rw [hd] at hK hst
    refine ifT_f ?_
    have V1 : ∀ a b : Int, Dsk.V { d with fault := a, arm := b } k := fun a b => ⟨h.V.steps, h.V.sv, h.V.safe, h.V.now, h.V.last⟩
    have step1 : ∀ {K' : AV → AW → Prop}, (∀ w', Dk A I w0 w' D i { d with fault := (spent d.fault).1 } k L → Xt (dkU D i L) w (dkU D i L) w' → K' (.bool (spent d.fault).2) w') → Cl Tryz.prog hk 133 [.ptr D (0 + 9)] w K' := fun {K'} hK' => by
      refine s133 hh (n := d.fault) (h.ow.ld 0 rfl rfl) (fun e => ?_) fun e => ?_
      · have : spent d.fault = (0, false) := by unfold spent; rw [if_pos e]
        rw [this] at hK'
        refine hK' w ?_ Xt.refl
        have e2 : { d with fault := 0 } = d := by rw [← e]
        rw [e2]; exact h
      · have : spent d.fault = (wi (d.fault + -1), decide (wi (d.fault + -1) = 0)) := by unfold spent; rw [if_neg e]
        rw [this] at hK'
        exact h.put (d' := { d with fault := wi (d.fault + -1) }) (by simp) rfl rfl rfl rfl (V1 _ _) h.k27 hK'
    refine step1 fun w9 h9 x9 => ⟨_, rfl, ?_⟩
    have step2 : ∀ {K' : AV → AW → Prop}, (∀ w', Dk A I w0 w' D i { d with fault := (spent d.fault).1, arm := (spent d.arm).1 } k L → Xt (dkU D i L) w9 (dkU D i L) w' → K' (.bool (spent d.arm).2) w') → Cl Tryz.prog hk 133 [.ptr D (0 + 8)] w9 K' := fun {K'} hK' => by
      refine s133 hh (n := d.arm) (h9.ow.ld 0 rfl rfl) (fun e => ?_) fun e => ?_
      · have : spent d.arm = (0, false) := by unfold spent; rw [if_pos e]
        rw [this] at hK'
        refine hK' w9 ?_ Xt.refl
        have e2 : { d with fault := (spent d.fault).1, arm := 0 } = { d with fault := (spent d.fault).1 } := by rw [← e]
        rw [e2]; exact h9
      · have : spent d.arm = (wi (d.arm + -1), decide (wi (d.arm + -1) = 0)) := by unfold spent; rw [if_neg e]
        rw [this] at hK'
        exact h9.put (d' := { d with fault := (spent d.fault).1, arm := wi (d.arm + -1) }) (by simp) rfl rfl rfl rfl (V1 _ _) h.k27 hK'
    refine step2 fun w12 h12 x12 => ⟨_, rfl, ?_⟩
    have x := x9.trans x12
    cases ha : (spent d.arm).2 with
    | true =>
      rw [ha] at hK hst
      refine ifT_t (h12.put (d' := { d with fault := (spent d.fault).1, arm := (spent d.arm).1, down := true }) (by simp) rfl rfl rfl rfl hst h.k27 fun w' h' x' => hK i w' h' (x.trans x'))
    | false =>
      rw [ha] at hK
      refine ifT_f ?_
      have h12' : Dk A I w0 w12 D i { d with fault := (spent d.fault).1, arm := (spent d.arm).1 } k L := h12
      rw [hd] at h12'
      cases hf : (spent d.fault).2 with
      | true =>
        rw [hf] at hK
        exact ifT_t ⟨_, h12.ow.ld 0 rfl rfl, hK i w12 h12' x⟩
      | false =>
        rw [hf] at hK
        exact ifT_f (hK i w12 h12' x)
/-! ### What a step does -/
theorem s97 {v : AV} {l : List Byts} (hh : HK hk) (pv : Pv A w) (h : (rL rSec).rd B w [v] l) (hs : l.length < 2 ^ 30) (hK : ∀ v' w', Fr w.size w w' → Ga rSec A w w' v' l → K v' w') : Cl Tryz.prog hk 97 [v] w K := by
  apply in97 (hh.no _ _ _ (by decide) (by decide))
  unfold F97
  obtain ⟨all, hr, hc⟩ := h.rs
  have hm := pv.mem
  by_cases hv : v = .nilslice
  · subst hv
    have : l = [] := by
      rcases h.sl with ⟨_, h⟩ | ⟨b, o, cap, ex, f, all, h, _⟩
      · exact h
      · cases h
    subst this
    exact ⟨true, by kernel_rfl, ifT_t (hK _ _ (Fr.refl hm) Ga.nil)⟩
  · have hsl : ∃ b o n cap ex, v = .slice b o n cap ex := by
      rcases h.sl with ⟨h, _⟩ | ⟨b, o, cap, ex, f, all, h, _⟩
      · exact absurd h hv
      · exact ⟨b, o, _, cap, ex, h⟩
    obtain ⟨b, o, n, cap, ex, rfl⟩ := hsl
    have hpos := pv.pos
    refine ⟨false, by kernel_rfl, ifT_f (new_of hm fun w3 f3 b3 z3 => ?_)⟩
    have h0 : Gc (fun f => w.size ≤ f ∧ A f) 64 w3 (.slice w.size 0 0 0 none) [] := .inr ⟨w.size, w.size, 0, none, w.size, false, rfl, by simp, .inl rfl, ⟨Nat.le_refl _, pv.new _ (Nat.le_refl _)⟩, by omega, b3, AW.root?_iff.2 ⟨_, b3, rfl⟩⟩
    refine h0.app f3.mem ⟨by omega, pv.new _ (by omega)⟩ (by omega) (by decide) (hr.fr hm f3 (Nat.le_refl _)) (by simp; omega) (by simp; omega) fun v' w5 hg hgr hfr => hK v' w5 ?_ ⟨fun b' hb' => ?_, all, hg, hc.secs⟩
    · exact f3.trans ⟨hgr.size, fun c hc => hgr.old c (by omega) (by omega), hgr.mem⟩ (Nat.le_refl _)
    · by_cases hlt : b' < w3.size
      · have e := hfr b' hb' hlt
        rw [e] at hb'
        cases hb'
        exact pv.new _ (Nat.le_refl _)
      · exact pv.new _ (by omega)
theorem s64 {a b n f : Nat} {s : FS} {x : Stp} {es : List (AV × AV)} (hh : HK hk) (st : Ow A I w0 w L) (ha : nth L a = some (n, .map (nEnts s.names))) (hb : nth L b = some (f, .map es)) (hab : a ≠ b) (hF : FEn (fz A (ids L)) w es s.files)
    (hx : x.data.length = 64) (hxn : 0 ≤ x.n ∧ x.n < 2 ^ 20) (hfl : (s.files x.file).length < 2 ^ 20)
    (hK : ∀ w' es', Ow A I w0 w' (stN (stN L a (n, .map (nEnts (s.does x).names))) b (f, .map es')) → Xt (ids L) w (ids L) w' → FEn (fz A (ids L)) w' es' (s.does x).files → K (.tup []) w') : Cl Tryz.prog hk 64 [.agg [.map n, .map f], .agg x.cells] w K := by
  apply in64 (hh.no _ _ _ (by decide) (by decide))
  unfold F64
  refine gd_t rfl (st.new' fun b3 w4 st4 e4 => ?_)
  simp only [onA]
  refine gd_t x.all (st4.new' fun b6 w7 st7 e7 => ?_)
  have x7 := e4.trans e7
  have hF7 : FEn (fz A (b6 :: b3 :: ids L)) w7 es s.files := hF.x x7
  have ha7 : nth ((b6, Ob.row x.cells) :: (b3, Ob.row [.map n, .map f]) :: L) (a + 2) = some (n, .map (nEnts s.names)) := ha
  have hb7 : nth ((b6, Ob.row x.cells) :: (b3, Ob.row [.map n, .map f]) :: L) (b + 2) = some (f, .map es) := hb
  have hname : ∀ {w L'}, Ow A I w0 w ((b6, Ob.row x.cells) :: L') → ld w b6 (0 + 67) = some (.str x.name) := fun st => st.ld 0 rfl (Stp.cname hx)
  refine onM_s (st7.ld 1 rfl rfl) ⟨x.name, hname st7, _, _, (st7.look _ ha7 (nEnts_like _ _)).trans (nlook _ x.name), ?_⟩
  obtain ⟨lv, hlk, hsl⟩ := hF7.look x.file
  refine onM_s (st7.ld 1 rfl rfl) ⟨x.file, st7.ld 0 rfl rfl, onM_s ((st7.look _ hb7 (hF7.like _)).trans hlk) ⟨x.what, st7.ld 0 rfl rfl, ?_⟩⟩
  -- how it ends: names alone; files alone; nothing
  have endN : ∀ {w' : AW} {ns : List (Byts × Int)}, Ow A I w0 w' ((b6, Ob.row x.cells) :: (b3, Ob.row [.map n, .map f]) :: stN L a (n, .map (nEnts ns))) → Xt (b6 :: b3 :: ids L) w7 (b6 :: b3 :: ids L) w' → s.does x = ⟨ns, s.files⟩ → K (.tup []) w' := fun {w' ns} st' x' e => by
    have he : ids (stN L a (n, Ob.map (nEnts ns))) = ids L := stN_ids ha rfl
    obtain ⟨st1, y1, _⟩ := st'.drop
    obtain ⟨st2, y2, _⟩ := st1.drop
    have y1 : Xt (b6 :: b3 :: ids (stN L a (n, Ob.map (nEnts ns)))) w' (b3 :: ids (stN L a (n, Ob.map (nEnts ns)))) w' := y1
    have y2 : Xt (b3 :: ids (stN L a (n, Ob.map (nEnts ns)))) w' (ids (stN L a (n, Ob.map (nEnts ns)))) w' := y2
    rw [he] at y1 y2
    have xx := ((x7.trans x').trans y1).trans y2
    rw [e] at hK
    refine hK w' es ?_ xx (hF.x xx)
    rw [stN_self (by rw [nth_set_ne hab]; exact hb)]
    exact st2
  have endF : ∀ {w' : AW} {v : AV} {l : List Byts}, Ow A I w0 w' ((b6, Ob.row x.cells) :: (b3, Ob.row [.map n, .map f]) :: stN L b (f, .map (insM (.int .i64 x.file) v es))) → Xt (b6 :: b3 :: ids L) w7 (b6 :: b3 :: ids L) w' → (rL rSec).rd (fz A (b6 :: b3 :: ids L)) w' [v] l → s.does x = ⟨s.names, updF s.files x.file l⟩ → K (.tup []) w' := fun {w' v l} st' x' hv e => by
    have he : ids (stN L b (f, Ob.map (insM (.int .i64 x.file) v es))) = ids L := stN_ids hb rfl
    obtain ⟨st1, y1, _⟩ := st'.drop
    obtain ⟨st2, y2, _⟩ := st1.drop
    have y1 : Xt (b6 :: b3 :: ids (stN L b (f, Ob.map (insM (.int .i64 x.file) v es)))) w' (b3 :: ids (stN L b (f, Ob.map (insM (.int .i64 x.file) v es)))) w' := y1
    have y2 : Xt (b3 :: ids (stN L b (f, Ob.map (insM (.int .i64 x.file) v es)))) w' (ids (stN L b (f, Ob.map (insM (.int .i64 x.file) v es)))) w' := y2
    rw [he] at y1 y2
    have xx := ((x7.trans x').trans y1).trans y2
    rw [e] at hK
    refine hK w' _ ?_ xx ((hF.x xx).set (hv.x (y1.trans y2)))
    rw [stN_self ha]
    exact st2
  unfold FS.does at endN endF hK
  refine ifT_d (fun e0 => ?_) fun e0 => ?_
  · -- made
    rw [if_pos e0] at endN
    refine onM_s (st7.ld 1 rfl rfl) ⟨x.name, hname st7, x.file, st7.ld 0 rfl rfl, ?_⟩
    refine st7.kvSet (a + 2) ha7 (nEnts_like _ _) fun w20 st20 e20 => ?_
    rw [nEnts_ins] at st20
    exact endN st20 e20 rfl
  rw [if_neg e0] at endN endF hK
  refine ifT_d (fun e1 => ?_) fun e1 => ?_
  · -- put
    rw [if_pos e1] at endF
    obtain ⟨all0, _, hc0⟩ := hsl.rs
    have hl64 := hc0.sec64
    refine s97 hh st7.P hsl (by omega) fun v22 w22 f22 hg22 => ?_
    obtain ⟨m, hm'⟩ := Int.eq_ofNat_of_zero_le hxn.1
    have hml : m < 2 ^ 20 := by omega
    have hz : zsec.length = 64 := by simp [zsec]
    have hB := st7.P.new
    -- the sectors, in memory of their own
    refine loopP_ind (fun i l w25 => ∃ (j : Nat) (v : AV), j ≤ m + 1 - (s.files x.file).length ∧ i = m + 1 - (s.files x.file).length - j ∧ l = [v] ∧ Ow (fz A (b6 :: b3 :: ids L)) [] w7 w25 [] ∧ Ga rSec (fz (fz A (b6 :: b3 :: ids L)) []) w7 w25 v (s.files x.file ++ List.replicate j zsec)) ?_
      ⟨0, v22, Nat.zero_le _, rfl, rfl, (st7.P.st.call f22).1, by rw [show s.files x.file ++ List.replicate 0 zsec = s.files x.file by simp]; exact hg22.inn⟩
    rintro i l w25 ⟨j, v, hj, rfl, rfl, so25, hg25⟩ R ih
    have f25 := so25.fr
    obtain ⟨st25, x25⟩ := st7.call f25
    have hljl : (s.files x.file ++ List.replicate j zsec).length = (s.files x.file).length + j := by simp
    have hrd := hg25.rd (by decide)
    refine ⟨v, rfl, fun _ => ⟨_, hrd.len', x.n, st25.ld 0 rfl rfl, ?_⟩⟩
    refine ifT_d (fun hc => ?_) fun hc => ?_
    · -- one sector more
      refine so25.new' fun b29 w30 so30 x30 => ?_
      obtain ⟨so31, x31, hA31, hb31⟩ := so30.drop
      have hb31 : Box w30 b29 z64 := hb31
      rw [z64_eq] at hb31
      have hrz : (rL rSec).rd (fz (fz A (b6 :: b3 :: ids L)) []) w30 [.slice b29 0 1 1 none] [zsec] := Box.rd1 hb31 hA31 ⟨rfl, hz⟩
      have hg30 : Ga rSec (fz (fz A (b6 :: b3 :: ids L)) []) w7 w30 v (s.files x.file ++ List.replicate j zsec) := (Ga.x x30 so25 hg25).x' x31 so30
      refine Ow.app (r := rSec) (bytes := 64) so31 hg30 hrz (by decide) (fun c hc => so31.P0.new c hc) (by rw [hljl]; simp; omega) (by rw [hljl]; simp; omega) fun v' w32 so32 x32 hg32 => ?_
      refine ih _ (by omega) _ _ ⟨j + 1, v', by omega, rfl, rfl, so32, ?_⟩
      rw [List.replicate_succ', ← List.append_assoc]
      exact hg32
    · -- the sector
      have hjm : j = m + 1 - (s.files x.file).length := by omega
      have hmlt : m < (s.files x.file ++ List.replicate j zsec).length := by rw [hljl]; omega
      refine ⟨x.n, st25.ld 0 rfl rfl, onM_s (v := .agg (cellsOfBytes x.data)) (st25.ldN 0 rfl (by rw [Stp.length hx]; decide) (congrArg AV.agg (Stp.cdata hx))) ?_⟩
      rw [hm']
      refine Ga.put hg25.out so25.mem hB rSec_flat (by decide) hmlt (vs := cellsOfBytes x.data) (x := x.data) ⟨rfl, hx⟩ fun bb hput => ?_
      simp only [onA]
      refine gd_t (ok_bytes _) (gd_t (by rw [cellsOfBytes_length, hx]; rfl) (hput _ fun w38 f38 z38 hrd38 => ?_))
      have hset : (s.files x.file ++ List.replicate j zsec).set m x.data = putS (s.files x.file) x.n.toNat x.data := by
        unfold putS; rw [hm', hjm]; rfl
      rw [hset] at hrd38
      obtain ⟨st38, x38⟩ := st7.call (f25.trans f38 (Nat.le_refl _))
      refine onM_s (st38.ld 1 rfl rfl) ⟨x.file, st38.ld 0 rfl rfl, ?_⟩
      refine st38.kvSet (b + 2) hb7 ((hF7.x x38).like _) fun w42 st42 e42 => ?_
      exact endF st42 (x38.trans e42) (hrd38.x e42) rfl
  rw [if_neg e1] at endN endF hK
  refine ifT_d (fun e2 => ?_) fun e2 => ?_
  · -- cut
    rw [if_pos e2] at endF
    obtain ⟨m, hm'⟩ := Int.eq_ofNat_of_zero_le hxn.1
    refine onM_s (st7.ld 1 rfl rfl) ⟨x.file, st7.ld 0 rfl rfl, _, hsl.len', x.n, st7.ld 0 rfl rfl, ?_⟩
    rw [hm', show imin (((s.files x.file).length : Nat) : Int) (m : Int) = ((min (s.files x.file).length m : Nat) : Int) from imin_nat _ _]
    obtain ⟨v', h1, h2⟩ := hsl.cut (i := 0) (j := min (s.files x.file).length m) (by omega) (by omega) (lo := none) (hi := some (.int .i64 ((min (s.files x.file).length m : Nat) : Int))) (.inr ⟨rfl, rfl⟩) (.inl rfl)
    refine onM_s h1 ?_
    rw [List.drop_zero] at h2
    have hcutl : ((s.files x.file).take (min (s.files x.file).length m)).length < 2 ^ 30 := by simp; omega
    refine s97 hh st7.P h2 hcutl fun v48 w49 f49 hg49 => ?_
    obtain ⟨st49, x49⟩ := st7.call f49
    refine ⟨st49.ld 0 rfl rfl, st49.ld 1 rfl rfl, ?_⟩
    have htk : (s.files x.file).take (min (s.files x.file).length m) = (s.files x.file).take x.n.toNat := by
      rw [hm']
      show _ = (s.files x.file).take m
      by_cases h : m ≤ (s.files x.file).length
      · rw [Nat.min_eq_right h]
      · rw [Nat.min_eq_left (by omega), List.take_of_length_le (by omega), List.take_of_length_le (by omega)]
    rw [htk] at hg49
    refine st49.kvSet (b + 2) hb7 ((hF7.x x49).like _) fun w51 st51 e51 => ?_
    exact endF st51 (x49.trans e51) ((hg49.rd (by decide)).x e51) rfl
  rw [if_neg e2] at endN hK
  cases hg : nget s.names x.name with
  | none =>
    rw [hg] at endN
    refine ifT_t (endN (ns := s.names) (by rw [stN_self ha]; exact st7) Xt.refl rfl)
  | some g =>
    rw [hg] at endN
    refine ifT_f ⟨x.file, st7.ld 0 rfl rfl, ?_⟩
    by_cases hgf : g = x.file
    · simp only [if_pos hgf] at endN
      refine ifT_nd (fun h => absurd hgf h) fun _ => ?_
      refine onM_s (st7.ld 1 rfl rfl) ⟨x.name, hname st7, ?_⟩
      refine st7.kvDel (a + 2) ha7 (nEnts_like _ _) fun w56 st56 e56 => ?_
      rw [nEnts_del] at st56
      have st56 : Ow A I w0 w56 ((b6, Ob.row x.cells) :: (b3, Ob.row [.map n, .map f]) :: stN L a (n, .map (nEnts (ndel s.names x.name)))) := st56
      refine ⟨x.what, st56.ld 0 rfl rfl, ifT_d (fun e3 => ?_) fun e3 => ?_⟩
      · simp only [if_pos e3] at endN
        refine onM_s (st56.ld 1 rfl rfl) ⟨x.to, st56.ld 0 rfl (Stp.cto hx), x.file, st56.ld 0 rfl rfl, ?_⟩
        have ha56 : nth ((b6, Ob.row x.cells) :: (b3, Ob.row [.map n, .map f]) :: stN L a (n, .map (nEnts (ndel s.names x.name)))) (a + 2) = some (n, .map (nEnts (ndel s.names x.name))) := nth_set_eq ha
        refine st56.kvSet (a + 2) ha56 (nEnts_like _ _) fun w62 st62 e62 => ?_
        rw [nEnts_ins] at st62
        have he : ids (stN L a (n, Ob.map (nEnts (ndel s.names x.name)))) = ids L := stN_ids ha rfl
        have e62 : Xt (b6 :: b3 :: ids (stN L a (n, Ob.map (nEnts (ndel s.names x.name))))) w56 (b6 :: b3 :: ids (stN L a (n, Ob.map (nEnts (ndel s.names x.name))))) w62 := e62
        rw [he] at e62
        have st62 : Ow A I w0 w62 ((b6, Ob.row x.cells) :: (b3, Ob.row [.map n, .map f]) :: stN (stN L a (n, .map (nEnts (ndel s.names x.name)))) a (n, .map (nEnts (nset (ndel s.names x.name) x.to x.file)))) := st62
        rw [stN_stN] at st62
        exact endN st62 (e56.trans e62) rfl
      · simp only [if_neg e3] at endN
        exact endN st56 e56 rfl
    · simp only [if_neg hgf] at endN
      exact ifT_nd (fun _ => endN (ns := s.names) (by rw [stN_self ha]; exact st7) Xt.refl rfl) fun h => absurd h hgf
end
end Go.Proofs.YthpjoogmmjikmaaGreatDoor
