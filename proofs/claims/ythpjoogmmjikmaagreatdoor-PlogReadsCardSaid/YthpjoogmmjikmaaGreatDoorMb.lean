/-
 What the disk's functions do, over memory, with its own blocks (the first part).
 No condition beyond those that each theorem names.
-/
import Derived.Test.YthpjoogmmjikmaaGreatDoorMa
import Derived.Test.YthpjoogmmjikmaaGreatDoorSxw
import Derived.Test.YthpjoogmmjikmaaGreatDoorSxv
import Derived.Test.YthpjoogmmjikmaaGreatDoorSxr
import Derived.Test.YthpjoogmmjikmaaGreatDoorSxy
import Derived.Test.YthpjoogmmjikmaaGreatDoorSxu
set_option linter.unusedSimpArgs false
open Go.Sx
set_option linter.unusedVariables false
namespace Go.Proofs.YthpjoogmmjikmaaGreatDoor
structure HK (hk : Hook) : Prop where
 no : ∀ f a w, f ≠ 15 → (f ≠ 73 ∧ f ≠ 42) → hk f a w = none
 sorted : ∀ a w x, hookS kindS 73 112 w a = some x → hk 73 a w = some (some x)
 sortI : ∀ a w x, hookSort w a = some x → hk 42 a w = some (some x)
 awake : ∀ w, hk 15 [] w = some (some (.bool true, w))
theorem z64_eq : z64 = cellsOfBytes zsec := by simp [z64, zsec, cellsOfBytes]
theorem listPut_all {cs vs : List AV} (h : cs.length = vs.length) : listPut cs 0 vs = vs := by
 simp only [listPut, List.take_zero, List.nil_append, Nat.zero_add]
 rw [List.drop_eq_nil_of_le (by omega), List.append_nil]
theorem zstep_length : (stepC (.int .i64 0) (.int .i64 0) (.int .i64 0) z64 (.str []) (.str [])).length = 69 := by
 show (AV.int .i64 0 :: AV.int .i64 0 :: AV.int .i64 0 :: (z64 ++ [AV.str [], AV.str []])).length = 69
 rw [z64_eq]; simp [cellsOfBytes_length, zsec]
section
variable {hk : Hook} {A B : Nat → Prop} {I : List Nat} {w0 w w' : AW} {D : Nat} {i i' : DI} {d d' : Dsk} {k k' : Nat} {L L' : Obs} {K : AV → AW → Prop}
theorem s62 (hh : HK hk) (h : ld w D 0 = some (.bool true)) (hK : K (.bool false) w) : Cl Tryz.prog hk 62 [.ptr D 0] w K := by
 apply in62 (hh.no _ _ _ (by decide) (by decide))
 unfold F62
 exact ⟨false, by kernel_rfl, ifT_f ⟨true, h, hK⟩⟩
theorem s60 {s : Byts} (hh : HK hk) (hK : K (.bool (named s)) w) : Cl Tryz.prog hk 60 [.str s] w K := by
 apply in60 (hh.no _ _ _ (by decide) (by decide))
 unfold F60
 have e : Int.ofNat s.length = ((s.length : Nat) : Int) := rfl
 rw [e]
 refine ifT_d (fun h => ?_) fun h => ?_
 ·have : named s = decide (((s.length : Nat) : Int) ≤ 64) := by
   unfold named
   rw [decide_eq_decide]; omega
  rw [← this]; exact hK
 ·have : named s = false := by
   unfold named
   rw [decide_eq_false_iff_not]; omega
  rw [← this]; exact hK
theorem s154 {b o : Nat} {n : Int} (hh : HK hk) (h : ld w b o = some (.int .i64 n)) (hK : K (.int .i64 n) w) : Cl Tryz.prog hk 154 [.ptr b o] w K := by
 apply in154 (hh.no _ _ _ (by decide) (by decide))
 unfold F154
 simp only [onP, Nat.add_zero]
 exact Cl_ext (hh.no _ _ _ (by decide) (by decide)) Tryz.func176 rfl (ext_load h) ⟨_, rfl, hK⟩
theorem nlook (ns : List (Byts × Int)) (s : Byts) : lookV (.int .i64 0) true (lookM (.str s) (nEnts ns)) = some (.tup [.int .i64 ((nget ns s).getD 0), .bool (nget ns s).isSome]) := by
 rw [nEnts_look]
 cases nget ns s <;> rfl
theorem s59 {s : Byts} (hh : HK hk) (h : Dk A I w0 w D i d k L) (hK : K (.tup [.int .i64 ((nget d.now.names s).getD 0), .int .i64 (if (nget d.now.names s).isSome then 0 else 70)]) w) : Cl Tryz.prog hk 59 [.ptr D 0, .str s] w K := by
 apply in59 (hh.no _ _ _ (by decide) (by decide))
 unfold F59
 refine s62 hh (h.ow.ld 0 rfl rfl) ⟨false, rfl, ifT_f ?_⟩
 refine onM_s (h.ow.ld 0 rfl rfl) ⟨_, _, (h.ow.look 3 rfl (nEnts_like _ _)).trans (nlook _ s), ?_⟩
 cases hg : nget d.now.names s with
 | none => rw [hg] at hK; exact ifT_t hK
 | some f => rw [hg] at hK; exact ifT_f hK
theorem s155 {b o : Nat} {n e : Int} (hh : HK hk) (h0 : ld w b o = some (.int .i64 n)) (h : onM (w.putCells b o [.int .i64 (wi (n + e))]) fun w' => K (.int .i64 (wi (n + e))) w') : Cl Tryz.prog hk 155 [.ptr b o, .int .i64 e] w K := by
 apply in155 (hh.no _ _ _ (by decide) (by decide))
 unfold F155
 simp only [onP, Nat.add_zero]
 obtain ⟨w', h1, h2⟩ := onM_iff.1 h
 exact Cl_ext (hh.no _ _ _ (by decide) (by decide)) Tryz.func177 rfl (ext_add h0 h1) ⟨_, rfl, h2⟩
theorem s133 {b o : Nat} {n : Int} (hh : HK hk) (h0 : ld w b o = some (.int .i64 n)) (hz : n = 0 → K (.bool false) w) (h : n ≠ 0 → onM (w.putCells b o [.int .i64 (wi (n + -1))]) fun w' => K (.bool (decide (wi (n + -1) = 0))) w') : Cl Tryz.prog hk 133 [.ptr b o] w K := by
 apply in133 (hh.no _ _ _ (by decide) (by decide))
 unfold F133
 refine s154 hh h0 ⟨n, rfl, ifT_d hz fun hn => ?_⟩
 refine s155 hh h0 ?_
 obtain ⟨w', h1, h2⟩ := onM_iff.1 (h hn)
 exact onM_s h1 ⟨_, rfl, h2⟩
theorem s95 (hh : HK hk) (h : Dk A I w0 w D i d k L) (hK : Od A I w0 w D i L d.stopped k K) : Cl Tryz.prog hk 95 [.ptr D 0] w K := by
  apply in95 (hh.no _ _ _ (by decide) (by decide))
  unfold F95
  simp only [onP]
  refine ⟨d.down, h.ow.ld 0 rfl rfl, ?_⟩
  have hst : d.stopped.1.V k := h.V.stopped
  unfold Dsk.stopped at hK hst
  cases hd : d.down with
  | true =>
    rw [hd] at hK
    exact ifT_t (Od.now h hK (Nat.le_refl _) h.k27)
  | false =>
    rw [hd] at hK hst
    refine ifT_f ?_
    have V1 : ∀ a b : Int, Dsk.V { d with fault := a, arm := b } k := fun a b => ⟨h.V.steps, h.V.sv, h.V.safe, h.V.now, h.V.last⟩
    have step1 : ∀ {K' : AV → AW → Prop}, (∀ w', Dk A I w0 w' D i { d with fault := (spent d.fault).1 } k L → Xt (dkU D i L) w (dkU D i L) w' → K' (.bool (spent d.fault).2) w') → Cl Tryz.prog hk 133 [.ptr D (0 + 9)] w K' := fun {K'} hK' => by
      refine s133 hh (n := d.fault) (h.ow.ld 0 rfl rfl) (fun e => ?_) fun e => ?_
      · have : spent d.fault = (0, false) := by unfold spent; rw [if_pos e]
        rw [this] at hK'
        refine hK' w ?_ Xt.refl
        have e2 : { d with fault := 0 } = d := by rw [← e]
        rw [e2]; exact h
      · have : spent d.fault = (wi (d.fault + -1), decide (wi (d.fault + -1) = 0)) := by unfold spent; rw [if_neg e]
        rw [this] at hK'
        exact h.put (d' := { d with fault := wi (d.fault + -1) }) (by simp) rfl rfl rfl rfl (V1 _ _) h.k27 hK'
    refine step1 fun w9 h9 x9 => ⟨_, rfl, ?_⟩
    have step2 : ∀ {K' : AV → AW → Prop}, (∀ w', Dk A I w0 w' D i { d with fault := (spent d.fault).1, arm := (spent d.arm).1 } k L → Xt (dkU D i L) w9 (dkU D i L) w' → K' (.bool (spent d.arm).2) w') → Cl Tryz.prog hk 133 [.ptr D (0 + 8)] w9 K' := fun {K'} hK' => by
      refine s133 hh (n := d.arm) (h9.ow.ld 0 rfl rfl) (fun e => ?_) fun e => ?_
      · have : spent d.arm = (0, false) := by unfold spent; rw [if_pos e]
        rw [this] at hK'
        refine hK' w9 ?_ Xt.refl
        have e2 : { d with fault := (spent d.fault).1, arm := 0 } = { d with fault := (spent d.fault).1 } := by rw [← e]
        rw [e2]; exact h9
      · have : spent d.arm = (wi (d.arm + -1), decide (wi (d.arm + -1) = 0)) := by unfold spent; rw [if_neg e]
        rw [this] at hK'
        exact h9.put (d' := { d with fault := (spent d.fault).1, arm := wi (d.arm + -1) }) (by simp) rfl rfl rfl rfl (V1 _ _) h.k27 hK'
    refine step2 fun w12 h12 x12 => ⟨_, rfl, ?_⟩
    have x := x9.trans x12
    cases ha : (spent d.arm).2 with
    | true =>
      rw [ha] at hK hst
      refine ifT_t (h12.put (d' := { d with fault := (spent d.fault).1, arm := (spent d.arm).1, down := true }) (by simp) rfl rfl rfl rfl hst h.k27 fun w' h' x' => hK i w' h' (x.trans x'))
    | false =>
      rw [ha] at hK
      refine ifT_f ?_
      have h12' : Dk A I w0 w12 D i { d with fault := (spent d.fault).1, arm := (spent d.arm).1 } k L := h12
      rw [hd] at h12'
      cases hf : (spent d.fault).2 with
      | true =>
        rw [hf] at hK
        exact ifT_t ⟨_, h12.ow.ld 0 rfl rfl, hK i w12 h12' x⟩
      | false =>
        rw [hf] at hK
        exact ifT_f (hK i w12 h12' x)
/-! ### What a step does -/
theorem s97 {v : AV} {l : List Byts} (hh : HK hk) (pv : Pv A w) (h : (rL rSec).rd B w [v] l) (hs : l.length < 2 ^ 30) (hK : ∀ v' w', Fr w.size w w' → Ga rSec A w w' v' l → K v' w') : Cl Tryz.prog hk 97 [v] w K := by
 apply in97 (hh.no _ _ _ (by decide) (by decide))
 unfold F97
 obtain ⟨all, hr, hc⟩ := h.rs
 have hm := pv.mem
 by_cases hv : v = .nilslice
 ·subst hv
  have : l = [] := by
   rcases h.sl with ⟨_, h⟩ | ⟨b, o, cap, ex, f, all, h, _⟩
   ·exact h
   ·cases h
  subst this
  exact ⟨true, by kernel_rfl, ifT_t (hK _ _ (Fr.refl hm) Ga.nil)⟩
 ·have hsl : ∃ b o n cap ex, v = .slice b o n cap ex := by
   rcases h.sl with ⟨h, _⟩ | ⟨b, o, cap, ex, f, all, h, _⟩
   ·exact absurd h hv
   ·exact ⟨b, o, _, cap, ex, h⟩
  obtain ⟨b, o, n, cap, ex, rfl⟩ := hsl
  have hpos := pv.pos
  refine ⟨false, by kernel_rfl, ifT_f (new_of hm fun w3 f3 b3 z3 => ?_)⟩
  have h0 : Gc (fun f => w.size ≤ f ∧ A f) 64 w3 (.slice w.size 0 0 0 none) [] := .inr ⟨w.size, w.size, 0, none, w.size, false, rfl, by simp, .inl rfl, ⟨Nat.le_refl _, pv.new _ (Nat.le_refl _)⟩, by omega, b3, AW.root?_iff.2 ⟨_, b3, rfl⟩⟩
  refine h0.app f3.mem ⟨by omega, pv.new _ (by omega)⟩ (by omega) (by decide) (hr.fr hm f3 (Nat.le_refl _)) (by simp; omega) (by simp; omega) fun v' w5 hg hgr hfr => hK v' w5 ?_ ⟨fun b' hb' => ?_, all, hg, hc.secs⟩
  ·exact f3.trans ⟨hgr.size, fun c hc => hgr.old c (by omega) (by omega), hgr.mem⟩ (Nat.le_refl _)
  ·by_cases hlt : b' < w3.size
   ·have e := hfr b' hb' hlt
    rw [e] at hb'
    cases hb'
    exact pv.new _ (Nat.le_refl _)
   ·exact pv.new _ (by omega)
theorem s64 {a b n f : Nat} {s : FS} {x : Stp} {es : List (AV × AV)} (hh : HK hk) (st : Ow A I w0 w L) (ha : nth L a = some (n, .map (nEnts s.names))) (hb : nth L b = some (f, .map es)) (hab : a ≠ b) (hF : FEn (fz A (ids L)) w es s.files)
    (hx : x.data.length = 64) (hxn : 0 ≤ x.n ∧ x.n < 2 ^ 20) (hfl : (s.files x.file).length < 2 ^ 20)
    (hK : ∀ w' es', Ow A I w0 w' (stN (stN L a (n, .map (nEnts (s.does x).names))) b (f, .map es')) → Xt (ids L) w (ids L) w' → FEn (fz A (ids L)) w' es' (s.does x).files → K (.tup []) w') : Cl Tryz.prog hk 64 [.agg [.map n, .map f], .agg x.cells] w K := by
  apply in64 (hh.no _ _ _ (by decide) (by decide))
  unfold F64
  refine gd_t rfl (st.new' fun b3 w4 st4 e4 => ?_)
  simp only [onA]
  refine gd_t x.all (st4.new' fun b6 w7 st7 e7 => ?_)
  have x7 := e4.trans e7
  have hF7 : FEn (fz A (b6 :: b3 :: ids L)) w7 es s.files := hF.x x7
  have ha7 : nth ((b6, Ob.row x.cells) :: (b3, Ob.row [.map n, .map f]) :: L) (a + 2) = some (n, .map (nEnts s.names)) := ha
  have hb7 : nth ((b6, Ob.row x.cells) :: (b3, Ob.row [.map n, .map f]) :: L) (b + 2) = some (f, .map es) := hb
  have hname : ∀ {w L'}, Ow A I w0 w ((b6, Ob.row x.cells) :: L') → ld w b6 (0 + 67) = some (.str x.name) := fun st => st.ld 0 rfl (Stp.cname hx)
  refine onM_s (st7.ld 1 rfl rfl) ⟨x.name, hname st7, _, _, (st7.look _ ha7 (nEnts_like _ _)).trans (nlook _ x.name), ?_⟩
  obtain ⟨lv, hlk, hsl⟩ := hF7.look x.file
  refine onM_s (st7.ld 1 rfl rfl) ⟨x.file, st7.ld 0 rfl rfl, onM_s ((st7.look _ hb7 (hF7.like _)).trans hlk) ⟨x.what, st7.ld 0 rfl rfl, ?_⟩⟩
  -- how it ends: names alone; files alone; nothing
  have endN : ∀ {w' : AW} {ns : List (Byts × Int)}, Ow A I w0 w' ((b6, Ob.row x.cells) :: (b3, Ob.row [.map n, .map f]) :: stN L a (n, .map (nEnts ns))) → Xt (b6 :: b3 :: ids L) w7 (b6 :: b3 :: ids L) w' → s.does x = ⟨ns, s.files⟩ → K (.tup []) w' := fun {w' ns} st' x' e => by
    have he : ids (stN L a (n, Ob.map (nEnts ns))) = ids L := stN_ids ha rfl
    obtain ⟨st1, y1, _⟩ := st'.drop
    obtain ⟨st2, y2, _⟩ := st1.drop
    have y1 : Xt (b6 :: b3 :: ids (stN L a (n, Ob.map (nEnts ns)))) w' (b3 :: ids (stN L a (n, Ob.map (nEnts ns)))) w' := y1
    have y2 : Xt (b3 :: ids (stN L a (n, Ob.map (nEnts ns)))) w' (ids (stN L a (n, Ob.map (nEnts ns)))) w' := y2
    rw [he] at y1 y2
    have xx := ((x7.trans x').trans y1).trans y2
    rw [e] at hK
    refine hK w' es ?_ xx (hF.x xx)
    rw [stN_self (by rw [nth_set_ne hab]; exact hb)]
    exact st2
  have endF : ∀ {w' : AW} {v : AV} {l : List Byts}, Ow A I w0 w' ((b6, Ob.row x.cells) :: (b3, Ob.row [.map n, .map f]) :: stN L b (f, .map (insM (.int .i64 x.file) v es))) → Xt (b6 :: b3 :: ids L) w7 (b6 :: b3 :: ids L) w' → (rL rSec).rd (fz A (b6 :: b3 :: ids L)) w' [v] l → s.does x = ⟨s.names, updF s.files x.file l⟩ → K (.tup []) w' := fun {w' v l} st' x' hv e => by
    have he : ids (stN L b (f, Ob.map (insM (.int .i64 x.file) v es))) = ids L := stN_ids hb rfl
    obtain ⟨st1, y1, _⟩ := st'.drop
    obtain ⟨st2, y2, _⟩ := st1.drop
    have y1 : Xt (b6 :: b3 :: ids (stN L b (f, Ob.map (insM (.int .i64 x.file) v es)))) w' (b3 :: ids (stN L b (f, Ob.map (insM (.int .i64 x.file) v es)))) w' := y1
    have y2 : Xt (b3 :: ids (stN L b (f, Ob.map (insM (.int .i64 x.file) v es)))) w' (ids (stN L b (f, Ob.map (insM (.int .i64 x.file) v es)))) w' := y2
    rw [he] at y1 y2
    have xx := ((x7.trans x').trans y1).trans y2
    rw [e] at hK
    refine hK w' _ ?_ xx ((hF.x xx).set (hv.x (y1.trans y2)))
    rw [stN_self ha]
    exact st2
  unfold FS.does at endN endF hK
  refine ifT_d (fun e0 => ?_) fun e0 => ?_
  · -- made
    rw [if_pos e0] at endN
    refine onM_s (st7.ld 1 rfl rfl) ⟨x.name, hname st7, x.file, st7.ld 0 rfl rfl, ?_⟩
    refine st7.kvSet (a + 2) ha7 (nEnts_like _ _) fun w20 st20 e20 => ?_
    rw [nEnts_ins] at st20
    exact endN st20 e20 rfl
  rw [if_neg e0] at endN endF hK
  refine ifT_d (fun e1 => ?_) fun e1 => ?_
  · -- put
    rw [if_pos e1] at endF
    obtain ⟨all0, _, hc0⟩ := hsl.rs
    have hl64 := hc0.sec64
    refine s97 hh st7.P hsl (by omega) fun v22 w22 f22 hg22 => ?_
    obtain ⟨m, hm'⟩ := Int.eq_ofNat_of_zero_le hxn.1
    have hml : m < 2 ^ 20 := by omega
    have hz : zsec.length = 64 := by simp [zsec]
    have hB := st7.P.new
    -- the sectors, in memory of their own
    refine loopP_ind (fun i l w25 => ∃ (j : Nat) (v : AV), j ≤ m + 1 - (s.files x.file).length ∧ i = m + 1 - (s.files x.file).length - j ∧ l = [v] ∧ Ow (fz A (b6 :: b3 :: ids L)) [] w7 w25 [] ∧ Ga rSec (fz (fz A (b6 :: b3 :: ids L)) []) w7 w25 v (s.files x.file ++ List.replicate j zsec)) ?_
      ⟨0, v22, Nat.zero_le _, rfl, rfl, (st7.P.st.call f22).1, by rw [show s.files x.file ++ List.replicate 0 zsec = s.files x.file by simp]; exact hg22.inn⟩
    rintro i l w25 ⟨j, v, hj, rfl, rfl, so25, hg25⟩ R ih
    have f25 := so25.fr
    obtain ⟨st25, x25⟩ := st7.call f25
    have hljl : (s.files x.file ++ List.replicate j zsec).length = (s.files x.file).length + j := by simp
    have hrd := hg25.rd (by decide)
    refine ⟨v, rfl, fun _ => ⟨_, hrd.len', x.n, st25.ld 0 rfl rfl, ?_⟩⟩
    refine ifT_d (fun hc => ?_) fun hc => ?_
    · -- one sector more
      refine so25.new' fun b29 w30 so30 x30 => ?_
      obtain ⟨so31, x31, hA31, hb31⟩ := so30.drop
      have hb31 : Box w30 b29 z64 := hb31
      rw [z64_eq] at hb31
      have hrz : (rL rSec).rd (fz (fz A (b6 :: b3 :: ids L)) []) w30 [.slice b29 0 1 1 none] [zsec] := Box.rd1 hb31 hA31 ⟨rfl, hz⟩
      have hg30 : Ga rSec (fz (fz A (b6 :: b3 :: ids L)) []) w7 w30 v (s.files x.file ++ List.replicate j zsec) := (Ga.x x30 so25 hg25).x' x31 so30
      refine Ow.app (r := rSec) (bytes := 64) so31 hg30 hrz (by decide) (fun c hc => so31.P0.new c hc) (by rw [hljl]; simp; omega) (by rw [hljl]; simp; omega) fun v' w32 so32 x32 hg32 => ?_
      refine ih _ (by omega) _ _ ⟨j + 1, v', by omega, rfl, rfl, so32, ?_⟩
      rw [List.replicate_succ', ← List.append_assoc]
      exact hg32
    · -- the sector
      have hjm : j = m + 1 - (s.files x.file).length := by omega
      have hmlt : m < (s.files x.file ++ List.replicate j zsec).length := by rw [hljl]; omega
      refine ⟨x.n, st25.ld 0 rfl rfl, onM_s (v := .agg (cellsOfBytes x.data)) (st25.ldN 0 rfl (by rw [Stp.length hx]; decide) (congrArg AV.agg (Stp.cdata hx))) ?_⟩
      rw [hm']
      refine Ga.put hg25.out so25.mem hB rSec_flat (by decide) hmlt (vs := cellsOfBytes x.data) (x := x.data) ⟨rfl, hx⟩ fun bb hput => ?_
      simp only [onA]
      refine gd_t (ok_bytes _) (gd_t (by rw [cellsOfBytes_length, hx]; rfl) (hput _ fun w38 f38 z38 hrd38 => ?_))
      have hset : (s.files x.file ++ List.replicate j zsec).set m x.data = putS (s.files x.file) x.n.toNat x.data := by
        unfold putS; rw [hm', hjm]; rfl
      rw [hset] at hrd38
      obtain ⟨st38, x38⟩ := st7.call (f25.trans f38 (Nat.le_refl _))
      refine onM_s (st38.ld 1 rfl rfl) ⟨x.file, st38.ld 0 rfl rfl, ?_⟩
      refine st38.kvSet (b + 2) hb7 ((hF7.x x38).like _) fun w42 st42 e42 => ?_
      exact endF st42 (x38.trans e42) (hrd38.x e42) rfl
  rw [if_neg e1] at endN endF hK
  refine ifT_d (fun e2 => ?_) fun e2 => ?_
  · -- cut
    rw [if_pos e2] at endF
    obtain ⟨m, hm'⟩ := Int.eq_ofNat_of_zero_le hxn.1
    refine onM_s (st7.ld 1 rfl rfl) ⟨x.file, st7.ld 0 rfl rfl, _, hsl.len', x.n, st7.ld 0 rfl rfl, ?_⟩
    rw [hm', show imin (((s.files x.file).length : Nat) : Int) (m : Int) = ((min (s.files x.file).length m : Nat) : Int) from imin_nat _ _]
    obtain ⟨v', h1, h2⟩ := hsl.cut (i := 0) (j := min (s.files x.file).length m) (by omega) (by omega) (lo := none) (hi := some (.int .i64 ((min (s.files x.file).length m : Nat) : Int))) (.inr ⟨rfl, rfl⟩) (.inl rfl)
    refine onM_s h1 ?_
    rw [List.drop_zero] at h2
    have hcutl : ((s.files x.file).take (min (s.files x.file).length m)).length < 2 ^ 30 := by simp; omega
    refine s97 hh st7.P h2 hcutl fun v48 w49 f49 hg49 => ?_
    obtain ⟨st49, x49⟩ := st7.call f49
    refine ⟨st49.ld 0 rfl rfl, st49.ld 1 rfl rfl, ?_⟩
    have htk : (s.files x.file).take (min (s.files x.file).length m) = (s.files x.file).take x.n.toNat := by
      rw [hm']
      show _ = (s.files x.file).take m
      by_cases h : m ≤ (s.files x.file).length
      · rw [Nat.min_eq_right h]
      · rw [Nat.min_eq_left (by omega), List.take_of_length_le (by omega), List.take_of_length_le (by omega)]
    rw [htk] at hg49
    refine st49.kvSet (b + 2) hb7 ((hF7.x x49).like _) fun w51 st51 e51 => ?_
    exact endF st51 (x49.trans e51) ((hg49.rd (by decide)).x e51) rfl
  rw [if_neg e2] at endN hK
  cases hg : nget s.names x.name with
  | none =>
    rw [hg] at endN
    refine ifT_t (endN (ns := s.names) (by rw [stN_self ha]; exact st7) Xt.refl rfl)
  | some g =>
    rw [hg] at endN
    refine ifT_f ⟨x.file, st7.ld 0 rfl rfl, ?_⟩
    by_cases hgf : g = x.file
    · simp only [if_pos hgf] at endN
      refine ifT_nd (fun h => absurd hgf h) fun _ => ?_
      refine onM_s (st7.ld 1 rfl rfl) ⟨x.name, hname st7, ?_⟩
      refine st7.kvDel (a + 2) ha7 (nEnts_like _ _) fun w56 st56 e56 => ?_
      rw [nEnts_del] at st56
      have st56 : Ow A I w0 w56 ((b6, Ob.row x.cells) :: (b3, Ob.row [.map n, .map f]) :: stN L a (n, .map (nEnts (ndel s.names x.name)))) := st56
      refine ⟨x.what, st56.ld 0 rfl rfl, ifT_d (fun e3 => ?_) fun e3 => ?_⟩
      · simp only [if_pos e3] at endN
        refine onM_s (st56.ld 1 rfl rfl) ⟨x.to, st56.ld 0 rfl (Stp.cto hx), x.file, st56.ld 0 rfl rfl, ?_⟩
        have ha56 : nth ((b6, Ob.row x.cells) :: (b3, Ob.row [.map n, .map f]) :: stN L a (n, .map (nEnts (ndel s.names x.name)))) (a + 2) = some (n, .map (nEnts (ndel s.names x.name))) := nth_set_eq ha
        refine st56.kvSet (a + 2) ha56 (nEnts_like _ _) fun w62 st62 e62 => ?_
        rw [nEnts_ins] at st62
        have he : ids (stN L a (n, Ob.map (nEnts (ndel s.names x.name)))) = ids L := stN_ids ha rfl
        have e62 : Xt (b6 :: b3 :: ids (stN L a (n, Ob.map (nEnts (ndel s.names x.name))))) w56 (b6 :: b3 :: ids (stN L a (n, Ob.map (nEnts (ndel s.names x.name))))) w62 := e62
        rw [he] at e62
        have st62 : Ow A I w0 w62 ((b6, Ob.row x.cells) :: (b3, Ob.row [.map n, .map f]) :: stN (stN L a (n, .map (nEnts (ndel s.names x.name)))) a (n, .map (nEnts (nset (ndel s.names x.name) x.to x.file)))) := st62
        rw [stN_stN] at st62
        exact endN st62 (e56.trans e62) rfl
      · simp only [if_neg e3] at endN
        exact endN st56 e56 rfl
    · simp only [if_neg hgf] at endN
      exact ifT_nd (fun _ => endN (ns := s.names) (by rw [stN_self ha]; exact st7) Xt.refl rfl) fun h => absurd h hgf
end
end Go.Proofs.YthpjoogmmjikmaaGreatDoor
/-
 What the disk's functions do, over memory, with its own blocks (the second part).
 No condition beyond those that each theorem names.
-/
set_option linter.unusedSimpArgs false
open Go.Sx
set_option linter.unusedVariables false
namespace Go.Proofs.YthpjoogmmjikmaaGreatDoor
section
variable {hk : Hook} {A B : Nat → Prop} {I : List Nat} {w0 w w' : AW} {D : Nat} {i i' : DI} {d d' : Dsk} {k k' : Nat} {L L' : Obs} {K : AV → AW → Prop}
theorem s61 {l : List Stp} {lv : AV} (hh : HK hk) (h : Dk A I w0 w D i d k L) (hl : ∀ x ∈ l, x.V) (hkk : k + l.length < 2 ^ 27) (hlv : (rL rStp).rd (fz A (dkU D i L)) w [lv] l)
  (hK : Od A I w0 w D i L (d.more l) (k + l.length) K) : Cl Tryz.prog hk 61 [.ptr D 0, lv] w K := by
 apply in61 (hh.no _ _ _ (by decide) (by decide))
 unfold F61
 refine s95 hh h fun i3 w3 h3 x3 => ⟨_, rfl, ?_⟩
 unfold Dsk.more at hK
 by_cases he : d.stopped.2 = 0
 rotate_left
 ·simp only [ne_eq, he, not_false_eq_true, if_true] at hK
  exact ifT_nd (fun _ => hK i3 w3 (h3.le (by omega) hkk) x3) fun h => absurd h he
 simp only [ne_eq, he, not_true_eq_false, if_false] at hK
 refine ifT_nd (fun h => absurd he h) fun _ => ?_
 have hlv3 := hlv.x x3
 refine ⟨_, hlv3.len', ?_⟩
 generalize d.stopped.1 = d1 at *
 refine loopP_ind (fun m lvs w8 => ∃ (j : Nat) (i8 : DI), j ≤ l.length ∧ m = l.length - j ∧ lvs = [.int .i64 j] ∧ Dk A I w0 w8 D i8 { d1 with steps := d1.steps ++ l.take j, now := (l.take j).foldl FS.does d1.now } (k + j) L ∧ Xt (dkU D i3 L) w3 (dkU D i8 L) w8) ?_
  ⟨0, i3, Nat.zero_le _, rfl, rfl, by simpa using h3, Xt.refl⟩
 rintro m lvs w8 ⟨j, i8, hj, rfl, rfl, h8, x8⟩ R ih
 have hlv8 := hlv3.x x8
 refine ⟨_, rfl, fun _ => ifT_d (fun hc => ?_) fun hc => ?_⟩
 ·have hjl : j < l.length := by omega
  have hxV := hl _ (List.getElem_mem hjl)
  have hx64 := hxV.1
  have hx69 := Stp.length hx64
  refine hlv8.at hjl fun bb oo cs hcs _ hN => ?_
  obtain ⟨rfl, _⟩ := hcs
  refine onM_s hN (h8.new' fun b13 w14 h14 x14 => ?_)
  simp only [onA, onP]
  refine gd_t (Stp.all _) (gd_t (by rw [hx69]; rfl) (h14.wr 0 rfl (by rw [zstep_length, hx69]; omega) fun w16 h16 x16 => ?_))
  rw [listPut_all (by rw [zstep_length, hx69])] at h16
  have h16 : Dk A I w0 w16 D i8 { d1 with steps := d1.steps ++ l.take j, now := (l.take j).foldl FS.does d1.now } (k + j) ((b13, .row l[j].cells) :: L) := h16
  refine onM_s (h16.ow.ld 0 rfl rfl) (onM_s (h16.ow.ldN 6 rfl (by rw [hx69]; rfl) (by rw [List.drop_zero, List.take_of_length_le (by omega)])) ?_)
  simp only []
  refine gd_t (Stp.all _) (gd_t (by rw [hx69]; rfl) (h16.new' fun b22 w23 h23 x23 => ?_))
  rw [listPut_all (by rw [zstep_length, hx69])] at h23
  refine ⟨h23.ow.ldN 7 rfl (by rw [hx69]; rfl) (by rw [List.drop_zero, List.take_of_length_le (by omega)]), h23.ow.ld 0 rfl rfl, ?_⟩
  obtain ⟨h24, x24, _, hb24⟩ := h23.drop
  have hb24 : Box w23 b22 l[j].cells := hb24
  have hput := h24.app (x := l[j]) hxV (hb24.rs hx69) (by omega) (K := fun v' w' => onP (.ptr D 0) fun b_26 o_27 => gd (okCell v') (onM (w'.putCells b_26 (o_27 + 5) [v']) fun w_28 => onP (.ptr D 0) fun b_29 o_30 => ∃ x_31 : AV, ∃ x_32 : AV, Sx.ldN 2 w_28 b_29 (o_30 + 3) = some (.agg [x_31, x_32]) ∧ onM (Sx.ldN 69 w_28 b13 0) fun x_33 => Cl Tryz.prog hk 64 [(.agg [x_31, x_32]), x_33] w_28 fun r_34 w_35 => r_34 = .tup [] ∧ R [(.int .i64 (wi ((j : Int) + 1)))] w_35)) fun sv2 w25 hok hp => ?_
  ·exact hput
  refine gd_t hok (hp _ fun i28 w28 en ef ee h28 x28 => ?_)
  refine ⟨_, _, h28.ow.ldN 0 rfl rfl rfl, onM_s (h28.ow.ldN 6 rfl (by rw [hx69]; rfl) (by rw [List.drop_zero, List.take_of_length_le (by omega)])) ?_⟩
  have hFV := (h28.V.now l[j].file).1
  refine s64 (a := 3) (b := 4) (s := (l.take j).foldl FS.does d1.now) hh h28.ow rfl rfl (by decide) h28.f2 hx64 ⟨hxV.2.1, by have := hxV.2.2.1; omega⟩ (by have : (((l.take j).foldl FS.does d1.now).files l[j].file).length ≤ 4096 := hFV; omega) fun w35 es' st35 x35 hF35 => ⟨rfl, ?_⟩
  have htk : l.take (j + 1) = l.take j ++ [l[j]] := (List.take_append_getElem hjl).symm
  let i35 : DI := { i28 with e2 := es' }
  have x35 : Xt (dkU D i28 ((b13, .row l[j].cells) :: L)) w28 (dkU D i35 ((b13, .row l[j].cells) :: L)) w35 := x35
  have hV35 : Dsk.V { d1 with steps := d1.steps ++ l.take j ++ [l[j]], now := ((l.take j).foldl FS.does d1.now).does l[j] } (k + j + 1) := ⟨h28.V.steps, h28.V.sv, h28.V.safe, FS.V.does h28.V.now hxV, h28.V.last⟩
  have h35 : Dk A I w0 w35 D i35 { d1 with steps := d1.steps ++ l.take j ++ [l[j]], now := ((l.take j).foldl FS.does d1.now).does l[j] } (k + j + 1) ((b13, .row l[j].cells) :: L) :=
   ⟨st35, h28.st, h28.f1.x x35, hF35, hV35, h28.k27⟩
  obtain ⟨h36, x36, _⟩ := h35.drop
  refine ih (l.length - (j + 1)) (by omega) _ _ ⟨j + 1, i35, by omega, rfl, by rw [wi_eq (by omega) (by omega)]; rfl, ?_, ((((((x8.trans x14).trans x16).trans x23).trans x24).trans x28).trans x35).trans x36⟩
  rw [htk, List.foldl_append, ← List.append_assoc]
  exact h36
 ·have : j = l.length := by omega
  subst this
  rw [List.take_length] at h8
  exact hK i8 w8 h8 (x3.trans x8)
def Tells (hk : Hook) (P : AW → Prop) (fv : AV) (so : Nat → Stp → Bool) : Prop :=
 ∀ (i : Nat) (x : Stp) (w : AW), i < 2 ^ 40 → x.data.length = 64 → Mem w → P w → ∀ K' : AV → AW → Prop, (∀ w'', Fr w.size w w'' → K' (.bool (so i x)) w'') → Cv Tryz.prog hk fv [.int .i64 (i : Int), .agg x.cells] w K'
theorem settleL_snoc (so : Nat → Stp → Bool) (x : Stp) : ∀ (l : List Stp) (i : Nat) (s : FS), settleL so i (l ++ [x]) s = if so (i + l.length) x then (((settleL so i l s).1).does x, (settleL so i l s).2) else ((settleL so i l s).1, (settleL so i l s).2 ++ [x])
  | [], i, s => by
    simp only [List.nil_append, settleL, List.length_nil, Nat.add_zero]
  | a :: l, i, s => by
    simp only [List.cons_append, settleL, List.length_cons, settleL_snoc so x l]
    rw [show i + 1 + l.length = i + (l.length + 1) by omega]
    split <;> split <;> simp [*]
theorem s68 {P : AW → Prop} {fv : AV} {so : Nat → Stp → Bool} (hh : HK hk) (h : Dk A I w0 w D i d k L) (hP : ∀ {w Lx}, Ow A I w0 w Lx → (∀ p ∈ L, p ∈ Lx) → P w) (hso : Tells hk P fv so)
    (hK : Od A I w0 w D i L (d.settle so) k K) : Cl Tryz.prog hk 68 [.ptr D 0, fv] w K := by
  apply in68 (hh.no _ _ _ (by decide) (by decide))
  unfold F68
  refine s95 hh h fun i3 w3 h3 x3 => ⟨_, rfl, ?_⟩
  unfold Dsk.settle at hK
  by_cases he : d.stopped.2 = 0
  rotate_left
  · simp only [ne_eq, he, not_false_eq_true, if_true] at hK
    exact ifT_nd (fun _ => hK i3 w3 h3 x3) fun h => absurd h he
  simp only [ne_eq, he, not_true_eq_false, if_false] at hK
  refine ifT_nd (fun h => absurd he h) fun _ => ?_
  generalize d.stopped.1 = d1 at *
  simp only [onP]
  refine onM_s (h3.ow.ld 0 rfl rfl) ⟨_, h3.rs.len, ?_⟩
  have hV3 := h3.V
  have hsl := hV3.steps
  have h27 := h3.k27
  obtain ⟨h3r, x3r⟩ := h3.room
  refine loopP_ind (fun m lvs w11 => ∃ (j : Nat) (left : AV) (lf : Nat) (lo : Ob) (i11 : DI), j ≤ d1.steps.length ∧ m = d1.steps.length - j ∧ lvs = [left, .int .i64 j] ∧ i11.sv = i3.sv ∧ Dk A I w0 w11 D i11 { d1 with safe := (settleL so 0 (d1.steps.take j) d1.safe).1 } k ((lf, lo) :: L)
      ∧ Sv 69 lo left (stpsC (settleL so 0 (d1.steps.take j) d1.safe).2) ∧ Xt (dkU D i3 L) w3 (dkU D i11 ((lf, lo) :: L)) w11) ?_
    ⟨0, .nilslice, 0, .none, i3, Nat.zero_le _, rfl, rfl, rfl, by simpa [settleL] using h3r, by rw [List.take_zero]; exact Sv.nil, x3r⟩
  rintro m lvs w11 ⟨j, left, lf, lo, i11, hj, rfl, rfl, esv, h11, hsv, x11⟩ R ih
  obtain ⟨vS, vL, vN⟩ := settleL_V (so := so) (i := 0) (l := d1.steps.take j) hV3.safe fun x hx => hV3.sv x (List.mem_of_mem_take hx)
  have vL64 : ∀ x ∈ (settleL so 0 (d1.steps.take j) d1.safe).2, x.data.length = 64 := fun x hx => (vL x hx).1
  have hgl := stpsC_length vL64
  have hvN : (settleL so 0 (d1.steps.take j) d1.safe).2.length ≤ k := by
    have : (d1.steps.take j).length ≤ d1.steps.length := by simp; omega
    omega
  refine ⟨_, _, rfl, fun _ => ifT_d (fun hc => ?_) fun hc => ?_⟩
  · have hjl : j < d1.steps.length := by omega
    have hxV := hV3.sv _ (List.getElem_mem hjl)
    have hx64 := hxV.1
    have hx69 := Stp.length hx64
    have hrs11 : Rs w11 69 d1.steps.length i3.sv (stpsC d1.steps) := by rw [← esv]; exact h11.rs
    refine hrs11.at (i := (j : Int)) (by omega) (by omega) fun bb oo _ hN => ?_
    have hN : ldN 69 w11 bb oo = some (.agg d1.steps[j].cells) := by rw [hN]; exact congrArg (fun t => some (AV.agg t)) (stpsC_at (fun x hx => (hV3.sv x hx).1) hjl)
    refine onM_s hN (h11.new' fun b17 w18 h18 x18 => ?_)
    simp only [onA]
    refine gd_t (Stp.all _) (gd_t (by rw [hx69]; rfl) (h18.wr 0 rfl (by rw [zstep_length, hx69]; omega) fun w20 h20 x20 => ?_))
    rw [listPut_all (by rw [zstep_length, hx69])] at h20
    have h20 : Dk A I w0 w20 D i11 { d1 with safe := (settleL so 0 (d1.steps.take j) d1.safe).1 } k ((b17, .row d1.steps[j].cells) :: (lf, lo) :: L) := h20
    have hld : ∀ {w i d}, Dk A I w0 w D i d k ((b17, .row d1.steps[j].cells) :: (lf, lo) :: L) → ldN 69 w b17 0 = some (.agg d1.steps[j].cells) := fun h => h.ow.ldN 6 rfl (by rw [hx69]; rfl) (by rw [List.drop_zero, List.take_of_length_le (by omega)])
    refine onM_s (hld h20) ?_
    refine hso j d1.steps[j] w20 (by omega) hx64 h20.ow.mem (hP h20.ow fun p hp => ?_) _ fun w23 f23 => ⟨_, rfl, ?_⟩
    · unfold dkL; simp [hp]
    obtain ⟨h23, x23⟩ := h20.fr f23
    have htk : d1.steps.take (j + 1) = d1.steps.take j ++ [d1.steps[j]] := (List.take_append_getElem hjl).symm
    have hsnoc := settleL_snoc so d1.steps[j] (d1.steps.take j) 0 d1.safe
    have hjt : 0 + (d1.steps.take j).length = j := by simp; omega
    rw [hjt, ← htk] at hsnoc
    have x23' := (x11.trans x18).trans (x20.trans x23)
    cases hs : so j d1.steps[j] with
    | true =>
      rw [hs, if_pos rfl] at hsnoc
      refine ifT_t ⟨_, _, h23.ow.ldN 0 rfl rfl rfl, onM_s (hld h23) ?_⟩
      have hFV := (h23.V.safe d1.steps[j].file).1
      refine s64 (a := 1) (b := 2) (s := (settleL so 0 (d1.steps.take j) d1.safe).1) hh h23.ow rfl rfl (by decide) h23.f1 hx64 ⟨hxV.2.1, by have := hxV.2.2.1; omega⟩ (by have : ((settleL so 0 (d1.steps.take j) d1.safe).1.files d1.steps[j].file).length ≤ 4096 := hFV; omega) fun w31 es' st31 x31 hF31 => ⟨rfl, ?_⟩
      let i31 : DI := { i11 with e1 := es' }
      have x31 : Xt (dkU D i11 ((b17, .row d1.steps[j].cells) :: (lf, lo) :: L)) w23 (dkU D i31 ((b17, .row d1.steps[j].cells) :: (lf, lo) :: L)) w31 := x31
      have h31 : Dk A I w0 w31 D i31 { d1 with safe := (settleL so 0 (d1.steps.take j) d1.safe).1.does d1.steps[j] } k ((b17, .row d1.steps[j].cells) :: (lf, lo) :: L) :=
        ⟨st31, h23.st, hF31, h23.f2.x x31, ⟨h23.V.steps, h23.V.sv, FS.V.does vS hxV, h23.V.now, h23.V.last⟩, h27⟩
      obtain ⟨h32, x32, _⟩ := h31.drop
      refine ih (d1.steps.length - (j + 1)) (by omega) _ _ ⟨j + 1, left, lf, lo, i31, by omega, rfl, by rw [wi_eq (by omega) (by omega)]; rfl, esv, by rw [hsnoc]; exact h32, by rw [hsnoc]; exact hsv, (x23'.trans x31).trans x32⟩
    | false =>
      rw [hs, if_neg (by simp)] at hsnoc
      refine ifT_f (onM_s (hld h23) ?_)
      refine gd_t (Stp.all _) (gd_t (by rw [hx69]; rfl) (h23.new' fun b34 w35 h35 x35 => ?_))
      rw [listPut_all (by rw [zstep_length, hx69])] at h35
      obtain ⟨h36, x36, _, hb36⟩ := h35.drop
      have hb36 : Box w35 b34 d1.steps[j].cells := hb36
      obtain ⟨h37, x37, _⟩ := h36.drop
      refine h37.accL 0 rfl hsv (by decide) (hb36.rs hx69) (by rw [hgl, Nat.mul_div_cancel _ (by decide)]; omega) (by rw [hgl, Nat.mul_div_cancel _ (by decide)]; omega) fun left' lf' lo' w37 h38 x38 hsv' => ?_
      have e : stpsC (settleL so 0 (d1.steps.take j) d1.safe).2 ++ d1.steps[j].cells = stpsC ((settleL so 0 (d1.steps.take j) d1.safe).2 ++ [d1.steps[j]]) := by rw [stpsC_append]; simp [stpsC]
      rw [e] at hsv'
      refine ih (d1.steps.length - (j + 1)) (by omega) _ _ ⟨j + 1, left', lf', lo', i11, by omega, rfl, by rw [wi_eq (by omega) (by omega)]; rfl, esv, by rw [hsnoc]; exact h38, by rw [hsnoc]; exact hsv', (((x23'.trans x35).trans x36).trans x37).trans x38⟩
  · have : j = d1.steps.length := by omega
    subst this
    rw [List.take_length] at h11 hsv vL hvN
    refine gd_t hsv.ok (h11.stepsTo hsv hvN vL fun i2 w40 h40 x40 => hK i2 w40 h40 ((x3.trans x11).trans x40))
theorem s124 {a : Byts} {n : Int} (hh : HK hk) (h : Dk A I w0 w D i d k L) (hkk : k + 1 < 2 ^ 27) (hK : Od A I w0 w D i L (d.cut a n) (k + 1) K) : Cl Tryz.prog hk 124 [.ptr D 0, .str a, .int .i64 n] w K := by
  apply in124 (hh.no _ _ _ (by decide) (by decide))
  unfold F124
  refine s59 hh h ⟨_, _, rfl, ?_⟩
  unfold Dsk.cut at hK
  cases hg : nget d.now.names a with
  | none => rw [hg] at hK; exact ifT_nd (fun _ => Od.now h hK (by omega) hkk) fun h => by cases h
  | some f =>
    rw [hg] at hK
    refine ifT_nd (fun h => absurd rfl h) fun _ => ?_
    simp only [Option.getD_some] at hK ⊢
    obtain ⟨v, hlk, hsl⟩ := h.f2.look f
    refine ifT_d (fun hn => ?_) fun hn => ?_
    · rw [if_pos (.inl hn)] at hK; exact Od.now h hK (by omega) hkk
    simp only [onP]
    refine onM_s (h.ow.ld 0 rfl rfl) (onM_s ((h.ow.look 4 rfl (h.f2.like _)).trans hlk) ⟨_, hsl.len', ifT_d (fun hlt => ?_) fun hlt => ?_⟩)
    · rw [if_pos (.inr hlt)] at hK; exact Od.now h hK (by omega) hkk
    rw [if_neg (by omega)] at hK
    have hnl := (h.V.now f).1
    refine h.new' fun b w1 h1 x1 => ?_
    obtain ⟨h2, x2, hA, hb⟩ := h1.drop
    have hst : stepC (.int .i64 2) (.int .i64 f) (.int .i64 n) z64 (.str []) (.str []) = Stp.cells ⟨2, f, n, zsec, [], []⟩ := by rw [z64_eq]; rfl
    have hb : Box w1 b (stepC (.int .i64 2) (.int .i64 f) (.int .i64 n) z64 (.str []) (.str [])) := hb
    rw [hst] at hb
    refine s61 (l := [⟨2, f, n, zsec, [], []⟩]) hh h2 (fun x hx => ?_) (by simpa using hkk) (Box.rd1 hb hA ⟨rfl, by simp [zsec]⟩) fun i' w' h' x' => ⟨_, rfl, hK i' w' h' ((x1.trans x2).trans x')⟩
    simp at hx; subst hx
    exact ⟨by simp [zsec], by show 0 ≤ n; omega, by show n ≤ 4096; omega, fun e => by cases e⟩
theorem s67 {x : Stp} {b6 : Nat} {f : Int} (hh : HK hk) (hm : Mem w) (hb : Box w b6 [.int .i64 f]) (hK : ∀ w', Fr w.size w w' → K (.bool (decide (x.file = f) && decide (x.what = 0))) w') : Cl Tryz.prog hk 67 [.agg x.cells, .ptr b6 0] w K := by
 apply in67 (hh.no _ _ _ (by decide) (by decide))
 unfold F67
 simp only [onA, onP]
 refine gd_t x.all (new_of hm fun w4 f4 b4 z4 => ⟨x.file, by rw [b4.ld]; rfl, f, by rw [(hb.fr f4 (hb.lt hm)).ld]; rfl, ?_⟩)
 have hK4 := hK w4 f4
 refine ifT_d (fun e => ⟨x.what, by rw [b4.ld]; rfl, ?_⟩) fun e => ?_
 ·rw [decide_eq_true e, Bool.true_and] at hK4; exact hK4
 ·rw [decide_eq_false e, Bool.false_and] at hK4; exact hK4
theorem s66 {l : List Stp} {v : AV} {b6 : Nat} {f : Int} (hh : HK hk) (hm : Mem w) (hl : ∀ x ∈ l, x.data.length = 64) (hll : l.length < 2 ^ 40) (hv : Rs w 69 l.length v (stpsC l)) (hb : Box w b6 [.int .i64 f]) (hK : ∀ w', Fr w.size w w' → K (.int .i64 (upto f l)) w') :
    Cl Tryz.prog hk 66 [v, .func 67 [] [.ptr b6 0]] w K := by
  apply in66 (hh.no _ _ _ (by decide) (by decide))
  unfold F66
  refine ⟨_, hv.len, ?_⟩
  refine loopP_ind (fun m lv w5 => ∃ j : Nat, j ≤ l.length ∧ m = l.length - j ∧ lv = [.int .i64 j] ∧ Fr w.size w w5 ∧ ∀ i (hi : i < l.length), i < j → (decide (l[i].file = f) && decide (l[i].what = 0)) = false) ?_ ⟨0, Nat.zero_le _, rfl, rfl, Fr.refl hm, fun i _ h => by omega⟩
  rintro m lv w5 ⟨j, hj, rfl, rfl, f5, hno⟩ R ih
  refine ⟨_, rfl, fun _ => ifT_d (fun hc => ?_) fun hc => ?_⟩
  · have hjl : j < l.length := by omega
    refine (hv.fr hm f5 (Nat.le_refl _)).at (i := (j : Int)) (by omega) (by omega) fun bb oo _ hN => ?_
    have hN : ldN 69 w5 bb oo = some (.agg l[j].cells) := by rw [hN]; exact congrArg (fun t => some (AV.agg t)) (stpsC_at hl hjl)
    refine onM_s hN ?_
    show Cl Tryz.prog hk 67 [.agg l[j].cells, .ptr b6 0] w5 _
    refine s67 hh f5.mem (hb.fr f5 (hb.lt hm)) fun w11 f11 => ⟨_, rfl, ?_⟩
    have f011 := f5.trans f11 f5.size
    cases hp : (decide (l[j].file = f) && decide (l[j].what = 0)) with
    | true =>
      refine ifT_t ?_
      have : upto f l = j := by
        unfold upto
        have : l.findIdx? (fun x => decide (x.file = f) && decide (x.what = 0)) = some j := by
          rw [List.findIdx?_eq_some_iff_getElem]
          exact ⟨hjl, hp, fun i hi => by rw [hno i (by omega) hi]; simp⟩
        rw [this]
      rw [← this]; exact hK w11 f011
    | false =>
      refine ifT_f (ih (l.length - (j + 1)) (by omega) _ _ ⟨j + 1, by omega, rfl, by rw [wi_eq (by omega) (by omega)]; rfl, f011, fun i hi hij => ?_⟩)
      by_cases h : i = j
      · subst h; exact hp
      · exact hno i hi (by omega)
  · have : upto f l = -1 := by
      unfold upto
      have : l.findIdx? (fun x => decide (x.file = f) && decide (x.what = 0)) = none := by
        rw [List.findIdx?_eq_none_iff]
        intro x hx
        obtain ⟨i, hi, rfl⟩ := List.getElem_of_mem hx
        exact hno i hi (by omega)
      rw [this]
    rw [this] at hK
    exact hK w5 f5
theorem s37 {a : Byts} (hh : HK hk) (h : Dk A I w0 w D i d k L) (hK : Od A I w0 w D i L (d.sync a) k K) : Cl Tryz.prog hk 37 [.ptr D 0, .str a] w K := by
  apply in37 (hh.no _ _ _ (by decide) (by decide))
  unfold F37
  refine s59 hh h ⟨_, _, rfl, h.new' fun b6 w7 h7 x7 => h7.wr 0 rfl (by simp) fun w8 h8 x8 => ?_⟩
  have h8 : Dk A I w0 w8 D i d k ((b6, .row [.int .i64 ((nget d.now.names a).getD 0)]) :: L) := h8
  unfold Dsk.sync at hK
  cases hg : nget d.now.names a with
  | none =>
    rw [hg] at hK
    obtain ⟨h9, x9, _⟩ := h8.drop
    exact ifT_nd (fun _ => Od.now h9 (hK.x ((x7.trans x8).trans x9)) (Nat.le_refl _) h.k27) fun h => by cases h
  | some f =>
    rw [hg] at hK h8
    refine ifT_nd (fun h => absurd rfl h) fun _ => ?_
    simp only [Option.getD_some] at hK h8 ⊢
    simp only [onP]
    refine onM_s (h8.ow.ld 0 rfl rfl) ?_
    have hbx : ∀ {w : AW} {Lx : Obs}, Ow A I w0 w Lx → (b6, Ob.row [.int .i64 f]) ∈ Lx → Box w b6 [.int .i64 f] := fun st hp => (st.box _ hp rfl).1
    refine s66 hh h8.ow.mem h8.sd (by have := h.V.steps; have := h.k27; omega) h8.rs (hbx h8.ow (by unfold dkL; simp)) fun w13 f13 => ⟨_, rfl, ?_⟩
    obtain ⟨h13, x13⟩ := h8.fr f13
    refine h13.new' fun b15 w16 h16 x16 => h16.wr 0 rfl (by simp) fun w17 h17 x17 => ?_
    have h17 : Dk A I w0 w17 D i d k ((b15, .row [.int .i64 (upto f d.steps)]) :: (b6, .row [.int .i64 f]) :: L) := h17
    refine s68 (P := fun w => Box w b6 [.int .i64 f] ∧ Box w b15 [.int .i64 (upto f d.steps)]) (so := fun i x => if x.what = 1 ∨ x.what = 2 then decide (x.file = f) else decide ((i : Int) ≤ upto f d.steps)) hh h17 (fun st hp => ⟨(st.box _ (hp (b6, .row [.int .i64 f]) (by simp)) rfl).1, (st.box _ (hp (b15, .row [.int .i64 (upto f d.steps)]) (by simp)) rfl).1⟩) ?_ fun i' w' h' x' => ⟨_, rfl, ?_⟩
    · intro j x w' hj hx hm' ⟨q8, q17⟩ K' hK'
      show Cl Tryz.prog hk 69 [.int .i64 (j : Int), .agg x.cells, .ptr b6 0, .ptr b15 0] w' K'
      apply in69 (hh.no _ _ _ (by decide) (by decide))
      unfold F69
      simp only [onA, onP]
      refine gd_t x.all (new_of hm' fun w6 f6 b6' z6 => ⟨x.what, by rw [b6'.ld]; rfl, ?_⟩)
      have hK6 : K' (.bool (if x.what = 1 ∨ x.what = 2 then decide (x.file = f) else decide ((j : Int) ≤ upto f d.steps))) w6 := hK' w6 f6
      have q8' := q8.fr f6 (q8.lt hm')
      have q17' := q17.fr f6 (q17.lt hm')
      refine ifT_d (fun e1 => ⟨x.file, by rw [b6'.ld]; rfl, f, by rw [q8'.ld]; rfl, ?_⟩) fun e1 => ⟨x.what, by rw [b6'.ld]; rfl, ifT_d (fun e2 => ⟨x.file, by rw [b6'.ld]; rfl, f, by rw [q8'.ld]; rfl, ?_⟩) fun e2 => ⟨_, by rw [q17'.ld]; rfl, ?_⟩⟩
      · rw [if_pos (.inl e1)] at hK6; exact hK6
      · rw [if_pos (.inr e2)] at hK6; exact hK6
      · rw [if_neg (by simp [e1, e2])] at hK6; exact hK6
    · obtain ⟨h18, x18, _⟩ := h'.drop
      obtain ⟨h19, x19, _⟩ := h18.drop
      exact hK i' w' h19 (((((((x7.trans x8).trans x13).trans x16).trans x17).trans x').trans x18).trans x19)
theorem s77 {a : Byts} (hh : HK hk) (h : Dk A I w0 w D i d k L) (hK : ∀ v w', Fr w.size w w' → Ga rU (fz A (dkU D i L)) w w' v (d.read a).1 → K (.tup [v, .int .i64 (d.read a).2]) w') : Cl Tryz.prog hk 77 [.ptr D 0, .str a] w K := by
  apply in77 (hh.no _ _ _ (by decide) (by decide))
  unfold F77
  refine s59 hh h ⟨_, _, rfl, ?_⟩
  have hm := h.ow.mem
  unfold Dsk.read at hK
  cases hg : nget d.now.names a with
  | none => rw [hg] at hK; exact ifT_nd (fun _ => hK .nilslice w (Fr.refl hm) Ga.nil) fun h => by cases h
  | some f =>
    rw [hg] at hK
    refine ifT_nd (fun h => absurd rfl h) fun _ => ?_
    simp only [Option.getD_some, onP] at hK ⊢
    refine ⟨d.down, h.ow.ld 0 rfl rfl, ?_⟩
    cases hd : d.down with
    | true => rw [hd, if_pos rfl] at hK; exact ifT_t (hK .nilslice w (Fr.refl hm) Ga.nil)
    | false =>
      rw [hd] at hK
      simp only [Bool.false_eq_true, if_false] at hK
      obtain ⟨v, hlk, hsl⟩ := h.f2.look f
      refine ifT_f (onM_s (h.ow.ld 0 rfl rfl) (onM_s ((h.ow.look 4 rfl (h.f2.like _)).trans hlk) ⟨_, hsl.len', ?_⟩))
      have hlen := (h.V.now f).1
      have hl64 := (h.V.now f).2
      have pv : Pv (fz A (dkU D i L)) w := h.ow.P
      generalize d.now.files f = l at *
      refine loopP_ind (fun m lv w16 => ∃ (i1 : Nat) (out : AV), i1 ≤ l.length ∧ m = l.length - i1 ∧ lv = [out, .int .i64 i1] ∧ Ow (fz A (dkU D i L)) [] w w16 [] ∧ Xw [] w [] w16 ∧ Ga rU (fz (fz A (dkU D i L)) []) w w16 out (l.take i1).flatten) ?_ ⟨0, .nilslice, Nat.zero_le _, rfl, rfl, pv.st, Xw.refl, by rw [List.take_zero]; exact Ga.nil⟩
      rintro m lv w16 ⟨i1, out, hi, rfl, rfl, so16, x16, hg16⟩ R ih
      have hs16 := hsl.inn.y x16
      refine ⟨_, _, rfl, fun _ => ifT_d (fun hc => ?_) fun hc => ?_⟩
      · have hil : i1 < l.length := by omega
        have hx64 : (l[i1]).length = 64 := hl64 _ (List.getElem_mem hil)
        refine hs16.at hil fun bb oo cs hcs _ hN => ?_
        obtain ⟨rfl, _⟩ := hcs
        refine onM_s hN (so16.new' fun b22 w23 so23 x23 => ?_)
        simp only [onA]
        have hcl : (cellsOfBytes l[i1]).length = 64 := by rw [cellsOfBytes_length, hx64]
        have hz64 : z64.length = 64 := by rw [z64_eq, cellsOfBytes_length]; simp [zsec]
        refine gd_t (ok_bytes _) (gd_t (by rw [hcl]; rfl) (so23.put 0 rfl (by rw [hcl, hz64]; omega) fun w25 so25 x25 => ?_))
        rw [listPut_all (by rw [hz64, hcl])] at so25
        have so25 : Ow (fz A (dkU D i L)) [] w w25 [(b22, .row (cellsOfBytes l[i1]))] := so25
        refine onM_s (v := .slice b22 (0 + 0 * 1) (64 - 0) (64 - 0) none) rfl ?_
        obtain ⟨so26, x26, hA26, hb26⟩ := so25.drop
        have hb26 : Box w25 b22 (cellsOfBytes l[i1]) := hb26
        have hrx : (rL rU).rd (fz (fz A (dkU D i L)) []) w25 [.slice b22 0 64 64 none] l[i1] := Box.sl hb26 hA26 hx64.symm (Chk.bytes.2 rfl)
        have hg25 : Ga rU (fz (fz A (dkU D i L)) []) w w25 out (l.take i1).flatten := ((Ga.x x23 so16 hg16).x' x25 so23).x' x26 so25
        have htl : (l.take i1).flatten.length ≤ 4096 * 64 := by
          rw [List.length_flatten]
          have : ∀ (l : List Byts), (∀ s ∈ l, s.length = 64) → (l.map List.length).sum = l.length * 64 := fun l h => by
            induction l with
            | nil => rfl
            | cons a l ih => rw [List.map_cons, List.sum_cons, ih fun s hs => h s (List.mem_cons_of_mem _ hs), h a List.mem_cons_self, List.length_cons]; omega
          rw [this _ fun s hs => hl64 s (List.mem_of_mem_take hs)]
          have : (l.take i1).length ≤ 4096 := by simp; omega
          omega
        refine Ow.app (r := rU) (bytes := 1) so26 hg25 hrx (by decide) so26.new (by omega) (by omega) fun out' w28 so28 x28 hg28 => ?_
        refine ih (l.length - (i1 + 1)) (by omega) _ _ ⟨i1 + 1, out', by omega, rfl, by rw [wi_eq (by omega) (by omega)]; rfl, so28, (((x16.trans x23.xw).trans x25.xw).trans x26.xw).trans x28, ?_⟩
        have e : l.take (i1 + 1) = l.take i1 ++ [l[i1]] := (List.take_append_getElem hil).symm
        rw [e, List.flatten_append, show [l[i1]].flatten = l[i1] by simp]
        exact hg28
      · have : i1 = l.length := by omega
        subst this
        rw [List.take_length] at hg16
        exact hK out w16 so16.fr hg16.out
end
end Go.Proofs.YthpjoogmmjikmaaGreatDoor
/-
 Put and New of the disk, over memory, with its own blocks.
 No condition beyond those that each theorem names.
-/
set_option linter.unusedSimpArgs false
open Go.Sx
set_option linter.unusedVariables false
namespace Go.Proofs.YthpjoogmmjikmaaGreatDoor
theorem listPut_step (a b c n t : AV) {cs : List AV} (h : cs.length = 64) : listPut (stepC a b c z64 n t) 3 cs = stepC a b c cs n t := by
 have hz : z64.length = 64 := by rw [z64_eq, cellsOfBytes_length]; simp [zsec]
 show listPut (a :: b :: c :: (z64 ++ [n, t])) 3 cs = a :: b :: c :: (cs ++ [n, t])
 simp only [listPut, List.take_succ_cons, List.take_zero, List.cons_append, List.nil_append]
 rw [h, show 3 + 64 = 64 + 1 + 1 + 1 by omega]
 simp only [List.drop_succ_cons]
 rw [List.drop_left' hz]
section
variable {hk : Hook} {A B : Nat → Prop} {I : List Nat} {w0 w w' : AW} {D : Nat} {i i' : DI} {d d' : Dsk} {k k' : Nat} {L L' : Obs} {K : AV → AW → Prop}
theorem s36 (hh : HK hk) (st : Ow A I w0 w L) (hK : ∀ m1 m2 w', Ow A I w0 w' ((m2, .map []) :: (m1, .map []) :: L) → Xt (ids L) w (m2 :: m1 :: ids L) w' → K (.agg [.map m1, .map m2]) w') : Cl Tryz.prog hk 36 [] w K := by
 apply in36 (hh.no _ _ _ (by decide) (by decide))
 unfold F36
 refine st.new' fun b w1 st1 x1 => st1.newMap' fun m1 w3 st3 x3 => st3.newMap' fun m2 w5 st5 x5 => st5.put 2 rfl (by simp) fun w6 st6 x6 => ⟨_, _, st6.ldN 2 rfl rfl rfl, ?_⟩
 obtain ⟨st7, x7⟩ := st6.front 2 rfl
 obtain ⟨st8, x8, _⟩ := st7.drop
 exact hK m1 m2 w6 st8 (((((x1.trans x3).trans x5).trans x6).trans x7).trans x8)
theorem s9 (hh : HK hk) (st : Ow A I w0 w L) (hK : ∀ D i w', Dk A I w0 w' D i Dsk.none 0 L → Xt (ids L) w (dkU D i L) w' → K (.ptr D 0) w') : Cl Tryz.prog hk 9 [] w K := by
 apply in9 (hh.no _ _ _ (by decide) (by decide))
 unfold F9
 refine s36 hh st fun n1 f1 w1 st1 x1 => ⟨_, _, rfl, ?_⟩
 refine s36 hh st1 fun n2 f2 w5 st5 x5 => ⟨_, _, rfl, gd_t rfl (st5.new' fun D w9 st9 x9 => ?_)⟩
 obtain ⟨st11, x11⟩ := st9.room.front 2 rfl
 obtain ⟨st12, x12⟩ := st11.front 3 rfl
 obtain ⟨st13, x13⟩ := st12.front 4 rfl
 obtain ⟨st14, x14⟩ := st13.front 5 rfl
 obtain ⟨st15, x15⟩ := st14.front 5 rfl
 let i : DI := ⟨n1, f1, n2, f2, 0, .none, .nilslice, [], []⟩
 have xx : Xt (ids L) w (dkU D i L) w9 := (((((((x1.trans x5).trans x9).trans x11).trans x12).trans x13).trans x14).trans x15)
 exact hK D i w9 ⟨st15, Sv.nil, FEn.none, FEn.none, Dsk.V.none, by decide⟩ xx
theorem s29 {a data : Byts} {at_ : Int} {dv : AV} (hh : HK hk) (h : Dk A I w0 w D i d k L) (hkk : k + 2 < 2 ^ 27) (hd : RsB w dv data) (hK : Od A I w0 w D i L (d.put a at_ data) (k + 2) K) : Cl Tryz.prog hk 29 [.ptr D 0, .str a, .int .i64 at_, dv] w K := by
  apply in29 (hh.no _ _ _ (by decide) (by decide))
  unfold F29
  refine s59 hh h ⟨_, _, rfl, ?_⟩
  unfold Dsk.put at hK
  have hnowl := fun f => (h.V.now f).1
  -- the steps
  refine join_of (fun lv w9 => lv = [] ∧ w9 = w ∧ data.length = 64 ∧ 0 ≤ at_ ∧ at_ < 4096 ∧ Od A I w0 w D i L (match nget d.now.names a with
      | some f => d.more [⟨1, f, at_, data, [], []⟩]
      | Option.none => if (d.more [⟨0, d.last + 1, 0, zsec, a, []⟩, ⟨1, d.last + 1, at_, data, [], []⟩]).2 ≠ 0 then d.more [⟨0, d.last + 1, 0, zsec, a, []⟩, ⟨1, d.last + 1, at_, data, [], []⟩] else ({ (d.more [⟨0, d.last + 1, 0, zsec, a, []⟩, ⟨1, d.last + 1, at_, data, [], []⟩]).1 with last := d.last + 1 }, 0)) (k + 2) K) ?_ ?_
  · rintro lv w9 ⟨rfl, rfl, hdl, ha0, ha1, hK⟩
    refine ⟨rfl, fun _ => ?_⟩
    have hs2p : ∃ b o, s2p 64 dv = some (.ptr b o) ∧ ldN 64 w9 b o = some (.agg (cellsOfBytes data)) := by
      rcases hd with ⟨rfl, h2, _⟩ | ⟨b, o, cap, ex, all, rfl, h2, h3, h4⟩
      · omega
      · refine ⟨b, o, ?_, ?_⟩
        · simp only [s2p, hdl]; rfl
        · simp only [ldN, h2, Option.bind_some]
          rw [takeCells_some (by omega), h4, hdl]; rfl
    obtain ⟨b, o, h1, h2⟩ := hs2p
    rw [atP_iff]
    refine ⟨b, o, h1, onM_s h2 ?_⟩
    simp only [onA, onP]
    have hcl : (cellsOfBytes data).length = 64 := by rw [cellsOfBytes_length, hdl]
    refine gd_t (by rw [hcl]; rfl) (h.new' fun b15 w16 h16 x16 => ?_)
    rw [listPut_step _ _ _ _ _ hcl]
    have hst : stepC (.int .i64 1) (.int .i64 ((nget d.now.names a).getD 0)) (.int .i64 at_) (cellsOfBytes data) (.str []) (.str []) = Stp.cells ⟨1, (nget d.now.names a).getD 0, at_, data, [], []⟩ := rfl
    rw [hst]
    have h69 : (Stp.cells ⟨1, (nget d.now.names a).getD 0, at_, data, [], []⟩).length = 69 := Stp.length hdl
    refine gd_t (Stp.all _) (gd_t (by rw [h69]; rfl) (h16.wr 0 rfl (by rw [zstep_length, h69]; omega) fun w17 h17 x17 => ?_))
    rw [listPut_all (by rw [zstep_length, h69])] at h17
    have h17 : Dk A I w0 w17 D i d k ((b15, .row (Stp.cells ⟨1, (nget d.now.names a).getD 0, at_, data, [], []⟩)) :: L) := h17
    cases hg : nget d.now.names a with
    | some f =>
      rw [hg] at hK h17 h69
      refine ifT_d (fun _ => ?_) fun h => absurd rfl h
      simp only [Option.getD_some] at hK h17 h69 ⊢
      refine onM_s (h17.ow.ldN 6 rfl (by rw [h69]; rfl) (by rw [List.drop_zero, List.take_of_length_le (by omega)])) ?_
      simp only []
      refine gd_t (Stp.all _) (gd_t (by rw [h69]; rfl) (h17.new' fun b20 w21 h21 x21 => ?_))
      rw [listPut_all (by rw [zstep_length, h69])] at h21
      obtain ⟨h22, x22, hA22, hb22⟩ := h21.drop
      obtain ⟨h23, x23, _⟩ := h22.drop
      have hb22 : Box w21 b20 (Stp.cells ⟨1, f, at_, data, [], []⟩) := hb22
      have hone : (rL rStp).rd (fz A (dkU D i L)) w21 [.slice b20 0 1 1 none] [⟨1, f, at_, data, [], []⟩] := (Box.rd1 (r := rStp) (y := ⟨1, f, at_, data, [], []⟩) hb22 hA22 ⟨rfl, hdl⟩).x x23
      refine s61 (l := [⟨1, f, at_, data, [], []⟩]) hh h23 (fun x hx => ?_) (by simp; omega) hone fun i' w' h' x' => ⟨_, rfl, hK i' w' (h'.le (by simp) hkk) (((((x16.trans x17).trans x21).trans x22).trans x23).trans x')⟩
      simp at hx; subst hx
      exact ⟨hdl, ha0, by show at_ ≤ 4096; omega, fun _ => ha1⟩
    | none =>
      rw [hg] at hK h17 h69
      refine ifT_d (fun h => by cases h) fun _ => ?_
      simp only [Option.getD_none] at hK h17 h69 ⊢
      have hlast := h.V.last
      refine ⟨d.last, h17.ow.ld 0 rfl rfl, ?_⟩
      rw [wi_eq (show -9223372036854775808 ≤ d.last + 1 by omega) (by omega)]
      have hput : listPut (Stp.cells ⟨1, 0, at_, data, [], []⟩) (0 + 1) [.int .i64 (d.last + 1)] = Stp.cells ⟨1, d.last + 1, at_, data, [], []⟩ := rfl
      have h69' : (Stp.cells ⟨1, d.last + 1, at_, data, [], []⟩).length = 69 := Stp.length hdl
      refine h17.wr 0 rfl (by rw [h69]; simp) fun w28 h28 x28 => ?_
      rw [hput] at h28
      have h28 : Dk A I w0 w28 D i d k ((b15, .row (Stp.cells ⟨1, d.last + 1, at_, data, [], []⟩)) :: L) := h28
      refine ⟨d.last + 1, h28.ow.ld 6 rfl rfl, onM_s (h28.ow.ldN 6 rfl (by rw [h69']; rfl) (by rw [List.drop_zero, List.take_of_length_le (by omega)])) ?_⟩
      simp only []
      refine gd_t (Stp.all _) (gd_t (by rw [h69']; rfl) (h28.new' fun b32 w33 h33 x33 => ?_))
      have e33 : listPut (stepC (.int .i64 0) (.int .i64 (d.last + 1)) (.int .i64 0) z64 (.str a) (.str []) ++ stepC (.int .i64 0) (.int .i64 0) (.int .i64 0) z64 (.str []) (.str [])) 69 (Stp.cells ⟨1, d.last + 1, at_, data, [], []⟩) = stpsC [⟨0, d.last + 1, 0, zsec, a, []⟩, ⟨1, d.last + 1, at_, data, [], []⟩] := by
        have e1 : stepC (.int .i64 0) (.int .i64 (d.last + 1)) (.int .i64 0) z64 (.str a) (.str []) = Stp.cells ⟨0, d.last + 1, 0, zsec, a, []⟩ := by rw [z64_eq]; rfl
        have l1 : (Stp.cells ⟨0, d.last + 1, 0, zsec, a, []⟩).length = 69 := Stp.length (by simp [zsec])
        rw [e1]
        simp only [listPut]
        rw [List.take_left' l1, List.drop_eq_nil_of_le (by rw [List.length_append, l1, zstep_length, h69']; omega), List.append_nil]
        simp [stpsC]
      rw [e33] at h33
      obtain ⟨h34, x34, hA34, hb34⟩ := h33.drop
      obtain ⟨h35, x35, _⟩ := h34.drop
      have hb34 : Box w33 b32 (stpsC [⟨0, d.last + 1, 0, zsec, a, []⟩, ⟨1, d.last + 1, at_, data, [], []⟩]) := hb34
      have htwo : (rL rStp).rd (fz A (dkU D i L)) w33 [.slice b32 0 2 2 none] [⟨0, d.last + 1, 0, zsec, a, []⟩, ⟨1, d.last + 1, at_, data, [], []⟩] :=
        (Box.sl (r := rStp) (n := 2) (cap := 2) hb34 hA34 rfl (hcap := Nat.le_refl 2) (hc := Chk.stps.2 ⟨rfl, fun x hx => by simp at hx; rcases hx with rfl | rfl <;> simp [zsec, hdl]⟩)).x x35
      have x335 := (((((x16.trans x17).trans x28).trans x33).trans x34).trans x35)
      refine s61 (l := [⟨0, d.last + 1, 0, zsec, a, []⟩, ⟨1, d.last + 1, at_, data, [], []⟩]) hh h35 (fun x hx => ?_) (by simp; omega) htwo fun i' w' h' x' => ⟨_, rfl, ?_⟩
      · simp at hx
        rcases hx with rfl | rfl
        · exact ⟨by simp [zsec], Int.le_refl 0, by show (0 : Int) ≤ 4096; omega, fun e => by cases e⟩
        · exact ⟨hdl, ha0, by show at_ ≤ 4096; omega, fun _ => ha1⟩
      · have xall := x335.trans x'
        by_cases he : (d.more [⟨0, d.last + 1, 0, zsec, a, []⟩, ⟨1, d.last + 1, at_, data, [], []⟩]).2 = 0
        · rw [if_neg (by simpa using he)] at hK
          refine ifT_nd (fun h => absurd he h) fun _ => ?_
          have hml : (d.more [⟨0, d.last + 1, 0, zsec, a, []⟩, ⟨1, d.last + 1, at_, data, [], []⟩]).1.last = d.last := by
            unfold Dsk.more
            have := (stopped_same d).2.2.2.1
            split <;> exact this
          refine ⟨(d.more [⟨0, d.last + 1, 0, zsec, a, []⟩, ⟨1, d.last + 1, at_, data, [], []⟩]).1.last, h'.ow.ld 0 rfl rfl, ?_⟩
          rw [hml, wi_eq (show -9223372036854775808 ≤ d.last + 1 by omega) (by omega)]
          refine h'.put (d' := { (d.more [⟨0, d.last + 1, 0, zsec, a, []⟩, ⟨1, d.last + 1, at_, data, [], []⟩]).1 with last := d.last + 1 }) (by simp) rfl rfl rfl rfl ⟨h'.V.steps, h'.V.sv, h'.V.safe, h'.V.now, by simp only [List.length_cons, List.length_nil]; omega⟩ h'.k27 fun w42 h42 x42 => ?_
          exact hK i' w42 h42 (xall.trans x42)
        · rw [if_pos (by simpa using he)] at hK
          exact ifT_nd (fun _ => hK i' w' h' xall) fun h => absurd h he
  · intro J hJ
    have same : ∀ {e : Int}, Od A I w0 w D i L (d, e) (k + 2) K → K (.int .i64 e) w := fun {e} hK => Od.now h hK (by omega) hkk
    refine ifT_d (fun e => by split at e <;> cases e) fun _ => ?_
    -- what is wrong
    refine join_of (fun lv w44 => w44 = w ∧ ∃ b : Bool, lv = [.bool b] ∧ (b = true ↔ ((!named a) = true ∨ data.length ≠ 64 ∨ at_ < 0 ∨ ((d.now.files ((nget d.now.names a).getD 0)).length : Int) < at_ ∨ (nget d.now.names a = Option.none ∧ 0 < at_)))) ?_ ?_
    · rintro lv w44 ⟨rfl, b, rfl, hb⟩
      refine ⟨b, rfl, fun _ => ?_⟩
      cases b with
      | true => rw [if_pos (hb.1 rfl)] at hK; exact ifT_t (same hK)
      | false =>
        have hb' := mt hb.2 (by simp)
        rw [if_neg hb'] at hK
        have m1 : data.length = 64 := Classical.byContradiction fun h => hb' (.inr (.inl h))
        have m2 : 0 ≤ at_ := Classical.byContradiction fun h => hb' (.inr (.inr (.inl (by omega))))
        have m3 : at_ ≤ ((d.now.files ((nget d.now.names a).getD 0)).length : Int) := Classical.byContradiction fun h => hb' (.inr (.inr (.inr (.inl (by omega)))))
        have hl := hnowl ((nget d.now.names a).getD 0)
        refine ifT_f (ifT_d (fun e => ?_) fun e => ?_)
        · rw [if_pos (.inl e)] at hK; exact same hK
        cases hg : nget d.now.names a with
        | some f =>
          rw [hg] at hK
          rw [if_neg (by simp [e])] at hK
          refine ifT_d (fun h => by cases h) fun _ => hJ _ _ ⟨rfl, rfl, m1, m2, by omega, by rw [hg]; exact hK⟩
        | none =>
          rw [hg] at hK
          refine ifT_d (fun _ => ?_) fun h => absurd rfl h
          simp only [onP]
          have hnl : (nEnts d.now.names).length = d.now.names.length := by simp [nEnts]
          refine onM_s (h.ow.ld 0 rfl rfl) ⟨_, h.ow.len 3 rfl, ifT_d (fun h2 => ?_) fun h2 => ?_⟩
          · rw [if_pos (.inr ⟨rfl, by omega⟩)] at hK; exact same hK
          · rw [if_neg (by intro h; rcases h with h | ⟨_, h⟩; exact e h; omega)] at hK
            exact hJ _ _ ⟨rfl, rfl, m1, m2, by omega, by rw [hg]; exact hK⟩
    · intro J2 hJ2
      refine s60 hh ⟨_, rfl, ?_⟩
      cases hn : named a with
      | false => exact ifT_t (hJ2 _ _ ⟨rfl, true, rfl, fun _ => .inl (by rw [hn]; rfl), fun _ => rfl⟩)
      | true =>
        refine ifT_f ⟨_, hd.len, ifT_nd (fun h64 => hJ2 _ _ ⟨rfl, true, rfl, fun _ => .inr (.inl fun e => h64 (by omega)), fun _ => rfl⟩) fun h64 => ?_⟩
        have h64' : data.length = 64 := by omega
        refine ifT_d (fun hneg => hJ2 _ _ ⟨rfl, true, rfl, fun _ => .inr (.inr (.inl hneg)), fun _ => rfl⟩) fun hneg => ?_
        simp only [onP]
        obtain ⟨v, hlk, hsl⟩ := h.f2.look ((nget d.now.names a).getD 0)
        refine onM_s (h.ow.ld 0 rfl rfl) (onM_s ((h.ow.look 4 rfl (h.f2.like _)).trans hlk) ⟨_, hsl.len', ifT_d (fun hlt => hJ2 _ _ ⟨rfl, true, rfl, fun _ => .inr (.inr (.inr (.inl hlt))), fun _ => rfl⟩) fun hlt => ?_⟩)
        have hcl : ((!named a) = true ∨ data.length ≠ 64 ∨ at_ < 0 ∨ ((d.now.files ((nget d.now.names a).getD 0)).length : Int) < at_ ∨ (nget d.now.names a = Option.none ∧ 0 < at_)) ↔ (nget d.now.names a = Option.none ∧ 0 < at_) := by
          refine ⟨fun h => ?_, fun h => .inr (.inr (.inr (.inr h)))⟩
          rcases h with h | h | h | h | h
          · rw [hn] at h; cases h
          · exact absurd h64' h
          · exact absurd h hneg
          · exact absurd h hlt
          · exact h
        by_cases hs : (nget d.now.names a).isSome = true
        · rw [if_pos hs]
          refine ifT_d (fun h => by cases h) fun _ => hJ2 _ _ ⟨rfl, false, rfl, fun h => (by cases h), fun h => ?_⟩
          have := (hcl.1 h).1
          rw [this] at hs; cases hs
        · rw [if_neg hs]
          have hno : nget d.now.names a = Option.none := by
            cases hg : nget d.now.names a with
            | none => rfl
            | some f => rw [hg] at hs; exact absurd rfl hs
          refine ifT_d (fun _ => hJ2 _ _ ⟨rfl, _, rfl, fun h => ?_, fun h => ?_⟩) fun h => absurd rfl h
          · exact hcl.2 ⟨hno, of_decide_eq_true h⟩
          · exact decide_eq_true (hcl.1 h).2
end
end Go.Proofs.YthpjoogmmjikmaaGreatDoor
/-
 What a law of chapter 7 asks of the disk besides, over memory.
 No condition beyond those that each theorem names.
-/
set_option linter.unusedSimpArgs false
open Go.Sx
set_option linter.unusedVariables false
namespace Go.Proofs.YthpjoogmmjikmaaGreatDoor
theorem repl_eq (n : Nat) (z : AV) : repl n [z] = List.replicate n z := by
 induction n with
 | zero => rfl
 | succ n ih => show [z] ++ repl n [z] = _; rw [ih]; rfl
theorem keysS {ns : List (Byts × Int)} (h : ∀ u ∈ ns, u.1.length ≤ 65536) : kindS.keys (nEnts ns) = some (ns.map (·.1)) := by
  induction ns with
  | nil => rfl
  | cons a ns ih =>
    have h2 := ih fun u hu => h u (List.mem_cons_of_mem _ hu)
    have ha := h a List.mem_cons_self
    have hok : kindS.ok a.1 = true := by
      show Nat.ble a.1.length 65536 = true
      rw [Nat.ble_eq]; exact ha
    show bnd (some a.1) (fun y => bnd (kindS.keys (nEnts ns)) fun l => cond (kindS.ok y) (some (y :: l)) none) = _
    rw [h2]
    show (cond (kindS.ok a.1) (some (a.1 :: ns.map (·.1))) none) = _
    rw [hok]; rfl
theorem insS_length {α : Type} {le : α → α → Bool} {x : α} : ∀ {l : List α}, (insS le x l).length = l.length + 1
  | [] => rfl
  | y :: l => by
    unfold insS
    cases le x y with
    | true => rfl
    | false => simp [insS_length (l := l)]
theorem isort_length {α : Type} {le : α → α → Bool} : ∀ {l : List α}, (isort le l).length = l.length
  | [] => rfl
  | x :: l => by
    show (insS le x (isort le l)).length = _
    rw [insS_length, isort_length]; rfl
def namesOf (d : Dsk) : List Byts := isort kindS.le (d.now.names.map (·.1))
section
variable {hk : Hook} {A B : Nat → Prop} {I : List Nat} {w0 w w' : AW} {D : Nat} {i i' : DI} {d d' : Dsk} {k k' : Nat} {L L' : Obs} {K : AV → AW → Prop}
theorem s41 (hh : HK hk) (h : Dk A I w0 w D i d k L) (hn : ∀ u ∈ d.now.names, u.1.length ≤ 65536) (hc : d.now.names.length ≤ 65536)
    (hK : ∀ v w', Fr w.size w w' → (rL rS).rd (fz A (dkU D i L)) w' [v] (namesOf d) → (namesOf d ≠ [] → ∃ c, w.size ≤ c ∧ v = .slice c 0 (namesOf d).length (namesOf d).length (some 1) ∧ Box w' c ((namesOf d).map AV.str)) → K v w') : Cl Tryz.prog hk 41 [.ptr D 0] w K := by
  apply in41 (hh.no _ _ _ (by decide) (by decide))
  unfold F41
  refine s62 hh (h.ow.ld 0 rfl rfl) ⟨false, rfl, ifT_f ?_⟩
  simp only [onP]
  refine onM_s (h.ow.ld 0 rfl rfl) ?_
  have hm := h.ow.mem
  have hpos := h.ow.P0.pos
  obtain ⟨hN, _⟩ := h.ow.box (i.n2, .map (nEnts d.now.names)) (by unfold dkL; simp) rfl
  obtain ⟨cl, hN⟩ := hN
  have hN : w.get i.n2 = some (.map (nEnts d.now.names) cl) := hN
  refine in74 (hh.no _ _ _ (by decide) (by decide)) (gd_t rfl (new_of hm fun w8 f8 b8 z8 => ?_))
  have hN8 : w8.get i.n2 = some (.map (nEnts d.now.names) cl) := (f8.old _ (hm.lt _ _ hN)).trans hN
  have hbm : boxMap w8 w.size = some i.n2 := by
    unfold boxMap
    have b8 : w8.get w.size = some (.cells [.map i.n2] w.size w.size false) := b8
    rw [b8]
    simp only [Nat.beq_refl, Bool.true_and]
    rw [beq_ff (by omega)]
    rfl
  have hma : mapAt w8 i.n2 = some (nEnts d.now.names, cl) := by unfold mapAt; rw [hN8]; rfl
  have hkl : (d.now.names.map (·.1)).length = d.now.names.length := by simp
  have hhook : hookS kindS 73 112 w8 [.func 112 [] [.ptr w.size 0]] = some (sortedA w8 kindS (d.now.names.map (·.1))) := by
    show cond (Nat.beq 112 112) (bnd (boxMap w8 w.size) fun r => bnd (mapAt w8 r) fun m => bnd (kindS.keys m.1) fun ks => cond (Nat.ble ks.length 65536) (some (sortedA w8 kindS ks)) none) none = _
    rw [hbm]
    show bnd (mapAt w8 i.n2) (fun m => bnd (kindS.keys m.1) fun ks => cond (Nat.ble ks.length 65536) (some (sortedA w8 kindS ks)) none) = _
    rw [hma]
    show bnd (kindS.keys (nEnts d.now.names)) (fun ks => cond (Nat.ble ks.length 65536) (some (sortedA w8 kindS ks)) none) = _
    rw [keysS hn]
    show cond (Nat.ble (d.now.names.map (·.1)).length 65536) _ _ = _
    rw [show Nat.ble (d.now.names.map (·.1)).length 65536 = true by rw [Nat.ble_eq, hkl]; exact hc]
    rfl
  have hnew : ∀ c, w.size ≤ c → fz A (dkU D i L) c := h.ow.P.new
  have hsd : ∃ v10 w10, sortedA w8 kindS (d.now.names.map (·.1)) = (v10, w10) ∧ (rL rS).rd (fz A (dkU D i L)) w10 [v10] (namesOf d) ∧ Fr w8.size w8 w10 ∧ (namesOf d ≠ [] → ∃ c, w8.size ≤ c ∧ v10 = .slice c 0 (namesOf d).length (namesOf d).length (some 1) ∧ Box w10 c ((namesOf d).map AV.str)) := by
    unfold namesOf
    cases hN : d.now.names.map (·.1) with
    | nil => exact ⟨_, _, rfl, Rp.rd.nil, Fr.refl f8.mem, fun h => absurd rfl h⟩
    | cons a as' =>
      have hb : Box (newCells w8 ((isort kindS.le (a :: as')).map kindS.encA)) w8.size ((isort kindS.le (a :: as')).map AV.str) := by simp [Box, newCells, cellsAO]; exact fun _ _ => rfl
      have hl : (isort kindS.le (a :: as')).length = as'.length + 1 := by rw [isort_length]; rfl
      refine ⟨_, _, rfl, Box.sl hb (hnew _ (by omega)) hl.symm (Chk.strs.2 rfl), Fr.push f8.mem fun cs' f own d e => by cases e; exact Nat.le_refl _, fun _ => ⟨_, Nat.le_refl _, by rw [hl], hb⟩⟩
  obtain ⟨v10, w10, hs10, hrs10, f10, hbx⟩ := hsd
  refine Cl_hook (hh.sorted _ _ _ (by rw [hhook, hs10])) (hK v10 w10 (f8.trans f10 (by omega)) hrs10 fun hne => by obtain ⟨c, h1, h2⟩ := hbx hne; exact ⟨c, by omega, h2⟩)
theorem s17 {v v' : AV} {s s' : Byts} (hh : HK hk) (h : RsB w v s) (h' : RsB w v' s') (hK : K (.bool (s == s')) w) : Cl Tryz.prog hk 17 [v, v'] w K := by
 apply in17 (hh.no _ _ _ (by decide) (by decide))
 exact ⟨_, h.str, _, h'.str, hK⟩
end
end Go.Proofs.YthpjoogmmjikmaaGreatDoor
/-
 ApartBytes, over memory.
 No condition beyond those that each theorem names.
-/
set_option linter.unusedSimpArgs false
open Go.Sx
set_option linter.unusedVariables false
namespace Go.Proofs.YthpjoogmmjikmaaGreatDoor
def mkI (k i : Int) : Int := IntKind.wrap .u8 (shrI .u64 (IntKind.wrap .u64 (IntKind.wrap .u64 (wi (wi (1000003 * (wi (k + 7))) + i)) * 11400714819323198485)) 56)
def mk (k i : Int) : UInt8 := UInt8.ofNat (mkI k i).toNat
section
variable {X : Nat → Prop} {w0 : AW} {bl : Nat} {vs gl : List AV} {w w' : AW}
end
end Go.Proofs.YthpjoogmmjikmaaGreatDoor
/-
 Crash and Copy of the disk, over memory, with its own blocks.
 No condition beyond those that each theorem names.
-/
set_option linter.unusedSimpArgs false
open Go.Sx
set_option linter.unusedVariables false
namespace Go.Proofs.YthpjoogmmjikmaaGreatDoor
section
variable {hk : Hook} {A B : Nat → Prop} {I : List Nat} {w0 w w' : AW} {D : Nat} {i i' : DI} {d d' : Dsk} {k k' : Nat} {L L' : Obs} {K : AV → AW → Prop}
end
end Go.Proofs.YthpjoogmmjikmaaGreatDoor
/-
 Crash of the disk, over memory, with its own blocks.
 No condition beyond those that each theorem names.
-/
set_option linter.unusedSimpArgs false
open Go.Sx
set_option linter.unusedVariables false
namespace Go.Proofs.YthpjoogmmjikmaaGreatDoor
section
variable {hk : Hook} {A B : Nat → Prop} {I : List Nat} {w0 w w' : AW} {D : Nat} {i i' : DI} {d d' : Dsk} {k k' : Nat} {L L' : Obs} {K : AV → AW → Prop}
end
end Go.Proofs.YthpjoogmmjikmaaGreatDoor
/-
 Bytes of frames and sectors, over memory.
 No condition beyond those that each theorem names.
-/
set_option linter.unusedSimpArgs false
open Go.Sx
set_option linter.unusedVariables false
set_option linter.unusedSimpArgs false
namespace Go.Proofs.YthpjoogmmjikmaaGreatDoor
theorem appendA_eq {w : AW} {s : AV} {n : Nat} (h : n < 2 ^ 40) : appendA Tryz.prog w 30 (some 3) s (.int .i64 (n : Int)) = appS 1 1 w s (.str (List.replicate n 0)) := by
 have e1 : Sx.elemOf Tryz.prog 30 = some 5 := by kernel_rfl
 have e2 : szOf Tryz.prog 5 = some 1 := by kernel_rfl
 have e3 : bytesOf Tryz.prog 5 = some 1 := by kernel_rfl
 have e4 : zeroOf Tryz.prog 5 = some (.int .u8 0) := by kernel_rfl
 have hr : repl n (AV.cells (.int .u8 0)) = cellsOfBytes (List.replicate n 0) := by
  show repl n [.int .u8 0] = _
  rw [repl_eq]; simp [cellsOfBytes]
 have e5 : appSrc Tryz.prog w 5 1 1 (some 3) (.int .i64 (n : Int)) = some (n, cellsOfBytes (List.replicate n 0)) := by
  have hu : Tryz.prog.underlying 3 = some (.int .i64) := by kernel_rfl
  simp only [appSrc, hu, Option.bind_some]
  show Sx.madeCells Tryz.prog 5 1 (.int .i64 (Int.ofNat n)) = _
  unfold Sx.madeCells
  simp only [e4, Option.bind_some]
  have e6 : Nat.blt n (2 ^ 40) = true := by rw [Nat.blt_eq]; exact h
  have e7 : Nat.blt (n * 1) Sx.room = true := by rw [Nat.blt_eq]; unfold Sx.room; omega
  rw [e6, e7, hr]; rfl
 unfold appendA appS
 simp only [e1, e2, e3, e4, Option.bind_some, e5]
 have e8 : srcCells w 1 (.str (List.replicate n 0)) = some (n, cellsOfBytes (List.replicate n 0)) := by
  simp [srcCells, guardO]
 rw [e8]
 simp only [Option.bind_some]
 have e9 : okSrc (.int .i64 (n : Int)) (cellsOfBytes (List.replicate n 0)) = okSrc (.str (List.replicate n 0)) (cellsOfBytes (List.replicate n 0)) := rfl
 rw [e9]
 cases s <;> rfl
theorem Bhd.str (w : AW) (s : Byts) : Bhd w 1 s.length (.str s) (cellsOfBytes s) := ⟨by simp [srcCells, guardO], by rw [cellsOfBytes_length]; omega, ok_bytes _⟩
theorem boxGa {A : Nat → Prop} {w0 w : AW} {b n : Nat} {ex : Option Nat} {s : Byts} (hb : Box w b (cellsOfBytes s)) (hl : s.length = n) (h0 : w0.size ≤ b) (hA : A b) (hz : b ≠ 0) (hex : ex = none ∨ ex = some 1 := by simp) : Ga rU A w0 w (.slice b 0 n n ex) s := by
 refine ⟨fun c h => by cases h; exact hA, _, .inr ⟨b, b, n, ex, b, false, rfl, ?_, hex, ⟨h0, hA⟩, hz, hb, AW.root?_iff.2 ⟨_, hb, rfl⟩⟩, Chk.bytes.2 rfl⟩
 show n * 1 = _
 rw [cellsOfBytes_length]; omega
def be4 (n : Nat) : Byts := [UInt8.ofNat (n / 2 ^ 24), UInt8.ofNat (n / 2 ^ 16), UInt8.ofNat (n / 2 ^ 8), UInt8.ofNat n]
def frame (b : Byts) : Byts := be4 b.length ++ b
theorem frame_length (b : Byts) : (frame b).length = 4 + b.length := by simp [frame, be4]; omega
def sector (b : Byts) (i : Nat) : Byts := UInt8.ofNat ((b.drop (i * 62)).take 62).length :: 0 :: ((b.drop (i * 62)).take 62 ++ List.replicate (62 - ((b.drop (i * 62)).take 62).length) 0)
theorem sector_length (b : Byts) (i : Nat) : (sector b i).length = 64 := by simp [sector]; omega
section
variable {hk : Hook} {A B : Nat → Prop} {I : List Nat} {w0 w w' : AW} {D : Nat} {i i' : DI} {d d' : Dsk} {k k' : Nat} {L L' : Obs} {K : AV → AW → Prop}
theorem shr_u64 {n k : Nat} (hk : k ≤ 24) : shiftA .shr .u64 (n : Int) (k : Int) = some (.int .u64 ((n / 2 ^ k : Nat) : Int)) := by
 unfold shiftA
 rw [if_neg (by omega)]
 have : min ((k : Int).toNat) (IntKind.bits .u64) = k := by
  show min (k : Int).toNat 64 = k
  omega
 simp only [this]
 congr 2
 rw [Int.fdiv_eq_ediv_of_nonneg _ (by exact_mod_cast Nat.zero_le _)]
 push_cast; rfl
theorem u8_cell (n : Nat) : AV.int .u8 (IntKind.wrap .u8 (n : Int)) = .int .u8 ((UInt8.ofNat n).toNat : Int) := by
 congr 1
set_option maxRecDepth 20000 in
theorem s153 {n : Nat} (hh : HK hk) (pv : Pv A w) (hK : ∀ b w', Fr w.size w w' → w.size ≤ b → Box w' b (cellsOfBytes (be4 n)) → K (.slice b 0 4 4 none) w') : Cl Tryz.prog hk 153 [.nilslice, .int .u64 (n : Int), .int .i64 4] w K := by
 apply in153 (hh.no _ _ _ (by decide) (by decide))
 unfold F153
 refine ⟨0, rfl, 0, rfl, onM_s (v := 0) rfl (onM_s (v := 4) rfl (gd_t rfl (pv.st.new' fun b7 w8 st8 x8 => onE_s (v := .int .i64 0) (w := w8) (by kernel_rfl) ?_)))⟩
 have st8 : Ow A [] w w8 [(b7, .row [.int .u8 0, .int .u8 0, .int .u8 0, .int .u8 0])] := st8
 have hb7 : w.size ≤ b7 := by
  rcases (st8.box _ List.mem_cons_self rfl).2.1 with h | h
  ·exact h
  ·cases h
 intro R hR
 have step : ∀ (j : Nat) (cs : List AV) (w13 : AW), j < 4 → cs.length = 4 → Ow A [] w w13 [(b7, .row cs)] → (∀ w', Ow A [] w w' [(b7, .row (listPut cs j [.int .u8 ((UInt8.ofNat (n / 2 ^ (8 * (3 - j)))).toNat : Int)]))] → R [.slice b7 0 (j + 1) 4 none, .int .i64 ((j + 1 : Nat) : Int)] w') → R [.slice b7 0 j 4 none, .int .i64 (j : Int)] w13 := by
  intro j cs w13 hj hl st hn
  refine hR _ _ ⟨_, _, rfl, fun _ => ifT_d (fun _ => ?_) fun hc => absurd hc (by omega)⟩
  unfold be
  have e : wi (8 * wi (wi (4 - 1) - (j : Int))) = ((8 * (3 - j) : Nat) : Int) := by
   rw [wi_eq (x := 4 - 1) (by omega) (by omega), wi_eq (x := _ - _) (by omega) (by omega), wi_eq (by omega) (by omega)]; omega
  rw [e]
  refine ⟨_, shr_u64 (by omega), ?_⟩
  rw [u8_cell]
  refine st.new' fun b18 w19 st19 x19 => ?_
  have hb : Box w19 b18 [.int .u8 ((UInt8.ofNat (n / 2 ^ (8 * (3 - j)))).toNat : Int)] := (st19.box _ List.mem_cons_self rfl).1
  refine st19.appIn 1 (m := 1) rfl (Rs.src (hb.rs rfl)) (by omega) hl fun w21 st21 x21 => ?_
  have := hn w21 (st21.drop).1
  rw [wi_eq (by omega) (by omega)]
  exact this
 refine step 0 _ _ (by decide) rfl st8 fun w1 st1 => step 1 _ _ (by decide) rfl st1 fun w2 st2 => step 2 _ _ (by decide) rfl st2 fun w3 st3 => step 3 _ _ (by decide) rfl st3 fun w4 st4 => ?_
 refine hR _ _ ⟨_, _, rfl, fun _ => ifT_d (fun hc => absurd hc (by decide)) fun hc => ?_⟩
 have hb : Box w4 b7 _ := (st4.box _ List.mem_cons_self rfl).1
 refine hK b7 w4 st4.fr hb7 ?_
 simpa [be4, cellsOfBytes, listPut] using hb
theorem s85 {v : AV} {s : Byts} (hh : HK hk) (pv : Pv A w) (h : RsB w v s) (hs : s.length ≤ 65536) (hK : ∀ v' w', Fr w.size w w' → Ga rU A w w' v' (frame s) → K (.tup [v', .int .i64 0]) w') : Cl Tryz.prog hk 85 [v] w K := by
 apply in85 (hh.no _ _ _ (by decide) (by decide))
 unfold F85
 refine ⟨_, h.len, ifT_d (fun hc => absurd hc (by omega)) fun _ => ⟨_, h.len, ?_⟩⟩
 have e : IntKind.wrap .u32 ((s.length : Nat) : Int) = ((s.length : Nat) : Int) := by
  show ((s.length : Nat) : Int) % 4294967296 = _
  omega
 rw [e]
 apply in126 (hh.no _ _ _ (by decide) (by decide))
 unfold F126
 have e : IntKind.wrap .u64 ((s.length : Nat) : Int) = ((s.length : Nat) : Int) := by
  show ((s.length : Nat) : Int) % 18446744073709551616 = _
  omega
 rw [e]
 refine s153 hh pv fun b w4 f4 hb4 bx4 => ?_
 have hpos := pv.pos
 have hg : Ga rU (fz A []) w w4 (.slice b 0 4 4 none) (be4 s.length) := (boxGa bx4 rfl hb4 (pv.new _ hb4) (by omega)).inn
 have st4 := (pv.st.call f4).1
 have h4 : Rs w4 1 s.length v (cellsOfBytes s) := Rs.fr h pv.mem f4 (Nat.le_refl _)
 refine Ow.appSrc (r := rU) (l' := s) st4 hg h4.src (Chk.bytes.2 rfl) (by decide) (fun c hc => pv.new c (by have := f4.size; omega)) (by simp [be4]; omega) (by simp [be4]; omega) fun v' w6 st6 x6 hg6 => ?_
 exact hK v' w6 st6.fr hg6.out
set_option maxRecDepth 20000 in
theorem s127 {n : Nat} (hh : HK hk) (pv : Pv A w) (hn : 0 < n) (h40 : n < 2 ^ 40) (hK : ∀ w', Ow A [] w w' [(w.size, .row (cellsOfBytes (List.replicate n 0)))] → K (.slice w.size 0 0 n (some 1)) w') : Cl Tryz.prog hk 127 [.nilslice, .int .i64 (n : Int)] w K := by
 apply in127 (hh.no _ _ _ (by decide) (by decide))
 unfold F127
 refine ifT_d (fun hc => absurd hc (by omega)) fun _ => ⟨0, by kernel_rfl, 0, rfl, ?_⟩
 have e : wi ((n : Int) - wi (0 - 0)) = (n : Int) := by
  rw [show wi (0 - 0) = 0 from by decide, wi_eq (by omega) (by omega)]; omega
 rw [e]
 refine ifT_d (fun _ => ?_) fun hc => absurd hc (by omega)
 refine ⟨0, by kernel_rfl, onM_s (v := .nilslice) rfl ?_⟩
 rw [appendA_eq h40]
 have hx := Bhd.str w (List.replicate n 0)
 rw [List.length_replicate] at hx
 have f1 : Fr w.size w (newCells w (cellsOfBytes (List.replicate n 0))) := Fr.push pv.mem fun cs' f own d e => by cases e; exact Nat.le_refl _
 have b1 : Box (newCells w (cellsOfBytes (List.replicate n 0))) w.size (cellsOfBytes (List.replicate n 0)) := by simp [Box, newCells, cellsAO]
 refine onE_s (v := .slice w.size 0 n n (some 1)) (w := newCells w (cellsOfBytes (List.replicate n 0))) ?_ ⟨0, rfl, onM_s (v := .slice w.size 0 0 n (some 1)) ?_ (hK _ (pv.st.push (p := (w.size, .row _)) rfl f1 (Nat.le_refl _) b1).1)⟩
 ·have e1 : Nat.ble (n * 1) Sx.room = true := by rw [Nat.ble_eq]; unfold Sx.room; omega
  have e2 : Nat.blt n (2 ^ 62) = true := by rw [Nat.blt_eq]; omega
  simp only [appS, hx.read, Option.bind_some, beq_ff (show n ≠ 0 by omega), cond_false, hx.ok, guardO, e1, e2, Bool.and_self, cond_true]
  rfl
 ·have e1 : okB 0 0 n n = true := by simp [okB]
  simp only [slS, boundA]
  show guardO (okB 0 0 n n && okEx (some 1) 1 && _) _ = _
  rw [e1]; rfl
end
end Go.Proofs.YthpjoogmmjikmaaGreatDoor
/-
 Bytes put together and cloned, and sectors told one after the other, over memory.
 No condition beyond those that each theorem names.
-/
set_option linter.unusedSimpArgs false
open Go.Sx
set_option linter.unusedVariables false
set_option linter.unusedSimpArgs false
namespace Go.Proofs.YthpjoogmmjikmaaGreatDoor
section
variable {hk : Hook} {A B : Nat → Prop} {I : List Nat} {w0 w w' : AW} {D : Nat} {i i' : DI} {d d' : Dsk} {k k' : Nat} {L L' : Obs} {K : AV → AW → Prop}
theorem s86 {c : Nat} {v1 v2 : AV} {s1 s2 : Byts} (hh : HK hk) (pv : Pv A w) (hc : Box w c [v1, v2]) (h1 : RsB w v1 s1) (h2 : RsB w v2 s2) (hs : 0 < s2.length) (hl : s1.length + s2.length < 2 ^ 30)
  (hK : ∀ w', Fr w.size w w' → Box w' w.size (cellsOfBytes (s1 ++ s2)) → K (.slice w.size 0 (s1 ++ s2).length (s1 ++ s2).length (some 1)) w') : Cl Tryz.prog hk 86 [.slice c 0 2 2 none] w K := by
 apply in86 (hh.no _ _ _ (by decide) (by decide))
 unfold F86
 refine ⟨2, rfl, ?_⟩
 intro R hR
 have hcl := hc.lt pv.mem
 have g0 : ld w c 0 = some v1 := by rw [hc.ld]; rfl
 have g1 : ld w c 1 = some v2 := by rw [hc.ld]; rfl
 refine hR _ _ ⟨_, _, rfl, fun _ => ifT_d (fun _ => idx0 (k := 0) (by decide) (onM_s g0 ⟨_, h1.len, ?_⟩)) fun hc => absurd hc (by decide)⟩
 have e1 : wi (0 + ((s1.length : Nat) : Int)) = ((s1.length : Nat) : Int) := by rw [wi_eq (by omega) (by omega)]; omega
 rw [e1]
 refine ifT_d (fun hx => absurd hx (by omega)) fun _ => ?_
 refine hR _ _ ⟨_, _, rfl, fun _ => ifT_d (fun _ => idx0 (k := 1) (by decide) (onM_s g1 ⟨_, h2.len, ?_⟩)) fun hc => absurd hc (by decide)⟩
 have e2 : wi (((s1.length : Nat) : Int) + ((s2.length : Nat) : Int)) = ((s1.length + s2.length : Nat) : Int) := by rw [wi_eq (by omega) (by omega)]; omega
 rw [e2]
 refine ifT_d (fun hx => absurd hx (by omega)) fun _ => ?_
 refine hR _ _ ⟨_, _, rfl, fun _ => ifT_d (fun hc => absurd hc (by decide)) fun _ => ?_⟩
 refine s127 hh pv (by omega) (by omega) fun w12 st12 => ⟨2, rfl, ?_⟩
 have f12 := st12.fr
 intro R2 hR2
 have hb12 := hc.fr f12 hcl
 have g0 : ld w12 c 0 = some v1 := by rw [hb12.ld]; rfl
 have r1 : Rs w12 1 s1.length v1 (cellsOfBytes s1) := Rs.fr h1 pv.mem f12 (Nat.le_refl _)
 refine hR2 _ _ ⟨_, _, rfl, fun _ => ifT_d (fun _ => idx0 (k := 0) (by decide) (onM_s g0 ?_)) fun hc => absurd hc (by decide)⟩
 refine st12.appIn 0 rfl r1.src (by omega) (by rw [cellsOfBytes_length, List.length_replicate]) fun w23 st23 x23 => ?_
 have f23 := st23.fr
 have hb23 := hc.fr f23 hcl
 have g1 : ld w23 c 1 = some v2 := by rw [hb23.ld]; rfl
 have r2 : Rs w23 1 s2.length v2 (cellsOfBytes s2) := Rs.fr h2 pv.mem f23 (Nat.le_refl _)
 refine hR2 _ _ ⟨_, _, rfl, fun _ => ifT_d (fun _ => idx0 (k := 1) (by decide) (onM_s g1 ?_)) fun hc => absurd hc (by decide)⟩
 refine st23.appIn 0 rfl r2.src (by omega) (by simp [listPut, cellsOfBytes]) fun w33 st33 x33 => ?_
 refine hR2 _ _ ⟨_, _, rfl, fun _ => ifT_d (fun hc => absurd hc (by decide)) fun _ => ?_⟩
 have hb : Box w33 w.size _ := (st33.box _ List.mem_cons_self rfl).1
 have e3 : listPut (listPut (cellsOfBytes (List.replicate (s1.length + s2.length) 0)) 0 (cellsOfBytes s1)) (0 + s1.length) (cellsOfBytes s2) = cellsOfBytes (s1 ++ s2) := by
  have hz : cellsOfBytes (List.replicate (s1.length + s2.length) 0) = cellsOfBytes (List.replicate s1.length 0) ++ cellsOfBytes (List.replicate s2.length 0) := by unfold cellsOfBytes; rw [← List.replicate_append_replicate, List.map_append]
  have l1 : (cellsOfBytes s1).length = s1.length := cellsOfBytes_length _
  have l2 : (cellsOfBytes s2).length = s2.length := cellsOfBytes_length _
  have hp : listPut (cellsOfBytes (List.replicate (s1.length + s2.length) 0)) 0 (cellsOfBytes s1) = cellsOfBytes s1 ++ cellsOfBytes (List.replicate s2.length 0) := by
   rw [hz]
   simp only [listPut, List.take_zero, List.nil_append, Nat.zero_add, l1]
   rw [List.drop_left' (by rw [cellsOfBytes_length, List.length_replicate])]
  rw [hp]
  simp only [listPut, Nat.zero_add, l2]
  rw [List.take_left' l1, List.drop_of_length_le (by rw [List.length_append, l1, cellsOfBytes_length, List.length_replicate]; omega), List.append_nil]
  simp [cellsOfBytes]
 have hb : Box w33 w.size (cellsOfBytes (s1 ++ s2)) := by rw [← e3]; exact hb
 have := hK w33 st33.fr hb
 rw [List.length_append] at this
 have e4 : (0 + s1.length + s2.length) = s1.length + s2.length := by omega
 rw [e4]
 exact this
theorem s128 {y bv : AV} {c1 c2 : Nat} {b : Byts} {fr : Nat} (hh : HK hk) (P : Nat → AW → Prop)
  (hP : ∀ j w, P j w → Mem w ∧ 0 < w.size ∧ Box w c2 [bv] ∧ (rL rU).rd (fun _ => True) w [bv] b) (hc1 : Box w c1 [.int .i64 (fr : Int)]) (h0 : P fr w) (hl : b.length < 2 ^ 30) (hfr : fr < 2 ^ 30)
  (hstep : ∀ j w w' xv, P j w → j * 62 < b.length → Fr w.size w w' → Ga rU (fun c => w.size ≤ c) w w' xv (sector b j) → Cv Tryz.prog hk y [.int .i64 (j : Int), xv] w' fun r w2 => r = .bool true ∧ P (j + 1) w2 ∨ r = .bool false ∧ K (.tup []) w2)
  (hend : ∀ j w, P j w → b.length ≤ j * 62 → (j = fr ∨ (j - 1) * 62 < b.length) → K (.tup []) w) : Cl Tryz.prog hk 128 [y, .ptr c1 0, .ptr c2 0] w K := by
 apply in128 (hh.no _ _ _ (by decide) (by decide))
 unfold F128
 simp only [onP]
 refine ⟨(fr : Int), by rw [hc1.ld]; rfl, ?_⟩
 refine loopP_ind (fun m l w8 => ∃ j : Nat, m = b.length + fr + 1 - j ∧ j ≤ b.length + fr ∧ fr ≤ j ∧ l = [.int .i64 j] ∧ P j w8 ∧ (j = fr ∨ (j - 1) * 62 < b.length)) ?_ ⟨fr, rfl, by omega, Nat.le_refl _, rfl, h0, .inl rfl⟩
 rintro m l w8 ⟨j, rfl, hj, hjf, rfl, hp, hjj⟩ R ih
 obtain ⟨hm, hpos, hb2, hrd⟩ := hP j w8 hp
 have pv : Pv (fun c => w8.size ≤ c) w8 := ⟨hm, hpos, fun _ h => h⟩
 have hld : ld w8 c2 0 = some bv := by rw [hb2.ld]; rfl
 refine ⟨_, rfl, fun _ => onM_s hld ⟨_, hrd.len', ?_⟩⟩
 have hj2 : j < 2 ^ 31 := by omega
 rw [show wi ((j : Int) * 62) = ((j * 62 : Nat) : Int) by rw [wi_eq (by omega) (by omega)]; push_cast; rfl]
 refine ifT_d (fun hc => ?_) fun hc => hend j w8 hp (by omega) hjj
 have hc : j * 62 < b.length := by omega
 refine onM_s hld (onM_s hld ⟨_, hrd.len', ?_⟩)
 have emin : imin ((b.length : Nat) : Int) (wi (wi ((j : Int) + 1) * 62)) = ((min b.length ((j + 1) * 62) : Nat) : Int) := by
  rw [wi_eq (x := (j : Int) + 1) (by omega) (by omega), wi_eq (by omega) (by omega)]
  unfold imin
  split <;> omega
 rw [emin]
 obtain ⟨part, hsl, hpart⟩ := hrd.cut (i := j * 62) (j := min b.length ((j + 1) * 62)) (by omega) (by omega) (.inl rfl) (.inl rfl)
 have epart : (b.take (min b.length ((j + 1) * 62))).drop (j * 62) = (b.drop (j * 62)).take 62 := by
  rw [List.drop_take]
  by_cases h : b.length ≤ (j + 1) * 62
  ·rw [Nat.min_eq_left h, List.take_of_length_le (by simp), List.take_of_length_le (by simp; omega)]
  ·rw [Nat.min_eq_right (by omega)]; congr 1; omega
 rw [epart] at hpart
 generalize hpt : (b.drop (j * 62)).take 62 = pt at hpart
 have hptl : pt.length ≤ 62 := by rw [← hpt]; simp; omega
 refine onM_s hsl ⟨_, hpart.len', ?_⟩
 rw [u8_cell]
 refine pv.st.new' fun b23 w24 st24 x24 => ?_
 have hb23 : Box w24 b23 (cellsOfBytes [UInt8.ofNat pt.length, 0]) := (st24.box _ List.mem_cons_self rfl).1
 have hge : w8.size ≤ b23 := by
  rcases (st24.box _ List.mem_cons_self rfl).2.1 with h | h
  ·exact h
  ·cases h
 obtain ⟨st25, x25, _⟩ := st24.drop
 have hg : Ga rU (fz (fun c => w8.size ≤ c) []) w8 w24 (.slice b23 0 2 2 none) [UInt8.ofNat pt.length, 0] := (boxGa hb23 rfl hge hge (by omega)).inn
 have hsz24 := st24.fr.size
 have hpart24 : RsB w24 part pt := RsB.fr hpart.rsB hm st24.fr (Nat.le_refl _)
 refine Ow.appSrc (r := rU) (l' := pt) st25 hg (Rs.src hpart24) (Chk.bytes.2 rfl) (by decide) (fun c hc => by have := st25.fr.size; omega) (by simp; omega) (by simp; omega) fun s77 w26 st26 x26 hg26 => ?_
 have hr26 := hg26.rd (by decide)
 refine ⟨_, hr26.len', ?_⟩
 have e64 : wi (64 - (([UInt8.ofNat pt.length, 0] ++ pt).length : Int)) = ((62 - pt.length : Nat) : Int) := by
  rw [wi_eq (by simp; omega) (by simp; omega)]; simp; omega
 rw [e64, appendA_eq (by omega)]
 have hbs := Bhd.str w26 (List.replicate (62 - pt.length) 0)
 refine Ow.appSrc (r := rU) (l' := List.replicate (62 - pt.length) 0) st26 hg26 hbs (Chk.bytes.2 rfl) (by decide) (fun c hc => by have := st26.fr.size; omega) (by simp; omega) (by simp; omega) fun x28 w29 st29 x29 hg29 => ?_
 have esec : [UInt8.ofNat pt.length, 0] ++ pt ++ List.replicate (62 - pt.length) 0 = sector b j := by
  unfold sector; rw [hpt]; simp
 rw [esec] at hg29
 refine Cv_mono (fun r w2 h => ?_) (hstep j w8 w29 x28 hp hc st29.fr hg29.out)
 rcases h with ⟨rfl, h⟩ | ⟨rfl, h⟩
 ·exact ⟨true, rfl, ifT_f (ih (b.length + fr + 1 - (j + 1)) (by omega) _ _ ⟨j + 1, rfl, by omega, by omega, by rw [wi_eq (by omega) (by omega)]; rfl, h, .inr (by simpa using hc)⟩)⟩
 ·exact ⟨false, rfl, ifT_t h⟩
end
end Go.Proofs.YthpjoogmmjikmaaGreatDoor
/-
 A segment's calls, over memory (the first part).
 No condition beyond those that each theorem names.
-/
set_option linter.unusedSimpArgs false
open Go.Sx
set_option linter.unusedVariables false
set_option linter.unusedSimpArgs false
namespace Go.Proofs.YthpjoogmmjikmaaGreatDoor
def segC (D : Nat) (nm : Byts) (bv ev : AV) (br : Bool) : List AV := [.ptr D 0, .str nm, bv, ev, .bool br]
def puts (nm b : Byts) : Nat → Nat → Dsk → Dsk × Int
 | 0, _, d => (d, 0)
 | m + 1, i, d => if (d.put nm i (sector b i)).2 ≠ 0 then d.put nm i (sector b i) else puts nm b m (i + 1) (d.put nm i (sector b i)).1
def nsec (b : Byts) : Nat := (b.length + 61) / 62
theorem take_one {w : AW} {d : Nat} (h : w.get d = some .deferred) : takeAll w [d] = some (w.set d .gone) := by simp only [takeAll]; rw [h]
theorem loop_of {w : AW} {l : Nat} {r : LoopA} (h : w.get l = some (LoopA.ob r)) : loopAt w l = some r := by unfold loopAt; rw [h]; rfl
theorem ob_no {r : LoopA} : ∀ cs f own d, LoopA.ob r ≠ .cells cs f own d := fun _ _ _ _ h => by unfold LoopA.ob at h; cases h
theorem busy_no {r : LoopA} : ∀ cs f own d, busyOb r ≠ .cells cs f own d := fun _ _ _ _ h => ob_no _ _ _ _ h
theorem ready_eq {R0 : LoopA} (h1 : R0.st = .ready) (h2 : R0.pending = none) : ({ ({ R0 with st := .busy } : LoopA) with st := if (jumpOf .normal).isNone then .ready else .done, pending := jumpOf .normal } : LoopA) = R0 := by
 obtain ⟨a, b, c, d, e, f, g, i⟩ := R0
 simp only at h1 h2
 subst h1; subst h2; rfl
section
variable {hk : Hook} {A B : Nat → Prop} {I : List Nat} {w0 w w' : AW} {D S : Nat} {i i' : DI} {d d' : Dsk} {k k' : Nat} {L L' : Obs} {K : AV → AW → Prop} {nm bs : Byts} {es : List Int} {bv ev : AV} {br : Bool}
set_option maxRecDepth 20000 in
theorem s83 (hh : HK hk) (h0 : ld w S 0 = some (.ptr D 0)) (h4 : ld w S 4 = some (.bool br)) (hK : K (.int .i64 (if br then 4 else 0)) w) : Cl Tryz.prog hk 83 [.ptr S 0] w K := by
 apply in83 (hh.no _ _ _ (by decide) (by decide))
 unfold F83
 refine ⟨false, by kernel_rfl, ifT_f ?_⟩
 simp only [onP]
 refine onM_s (v := .ptr D 0) h0 ⟨false, by kernel_rfl, ifT_f ⟨br, h4, ?_⟩⟩
 cases br
 ·exact ifT_f hK
 ·exact ifT_t hK
theorem s84 {e : Int} (hh : HK hk) (h0 : e = 0 → K (.int .i64 0) w) (h1 : e ≠ 0 → onM (w.putCells S 4 [.bool true]) fun w' => K (.int .i64 e) w') : Cl Tryz.prog hk 84 [.ptr S 0, .int .i64 e] w K := by
 apply in84 (hh.no _ _ _ (by decide) (by decide))
 unfold F84
 refine ifT_nd (fun h => ?_) fun h => ?_
 ·simp only [onP, Nat.zero_add]; exact h1 h
 ·subst h; exact h0 rfl
theorem s87 {v : AV} {fr : Int} (hh : HK hk) (h : Dk A I w0 w D i d k L) (hv : okCell v = true) (hK : ∀ c1 c2 w', Dk A I w0 w' D i d k ((c1, .row [.int .i64 fr]) :: (c2, .row [v]) :: L) → Xt (dkU D i L) w (dkU D i ((c1, .row [.int .i64 fr]) :: (c2, .row [v]) :: L)) w' → K (.func 128 [] [.ptr c1 0, .ptr c2 0]) w') : Cl Tryz.prog hk 87 [v, .int .i64 fr] w K := by
 apply in87 (hh.no _ _ _ (by decide) (by decide))
 unfold F87
 exact gd_t hv (h.new' fun c2 w3 h3 x3 => h3.new' fun c1 w5 h5 x5 => hK c1 c2 w5 h5 (x3.trans x5))
theorem rd_any {w : AW} {v : AV} {s : Byts} {U : List Nat} {n : Nat} (h : (rL rU).rd (fun c => n ≤ c) w [v] s) (hU : ∀ c ∈ U, c < n) : (rL rU).rd (fz (fun _ => True) U) w [v] s :=
 h.xa ⟨fun c f all a b e => ⟨⟨trivial, fun hx => by have := hU c hx; omega⟩, ⟨trivial, fun hx => by have := hU f hx; omega⟩, e⟩⟩
set_option maxRecDepth 20000 in
theorem s50 {body : Byts} {dv : AV} {ef : Nat} {eo : Ob} (hh : HK hk) (h : Dk A [] w0 w D i d k ((S, .row (segC D nm bv ev false)) :: (ef, eo) :: L)) (hbs : (rL rU).rd (fz A (dkU D i ((S, .row (segC D nm bv ev false)) :: (ef, eo) :: L))) w [bv] bs)
  (hes : Sv 1 eo ev (es.map (AV.int .i64))) (hd : ∀ (w' : AW) (b2 b4 b6 : Nat), Dk A [] w0 w' D i d k ((b6, .row [.int .i64 0]) :: (b4, .row [.int .i64 0]) :: (b2, .row [.ptr S 0]) :: (S, .row (segC D nm bv ev false)) :: (ef, eo) :: L) → Xt (dkU D i ((S, .row (segC D nm bv ev false)) :: (ef, eo) :: L)) w (dkU D i ((b6, .row [.int .i64 0]) :: (b4, .row [.int .i64 0]) :: (b2, .row [.ptr S 0]) :: (S, .row (segC D nm bv ev false)) :: (ef, eo) :: L)) w' → RsB w' dv body) (hbl : body.length ≤ 65536) (hfull : bs.length + (4 + body.length) ≤ 253952) (hel : es.length < 2 ^ 26) (hkk : k + 10000 < 2 ^ 27)
  (hK : (puts nm (bs ++ frame body) (nsec (bs ++ frame body) - bs.length / 62) (bs.length / 62) d).2 = 0 → ∀ i' w' bv' ev' ef' eo', Dk A [] w0 w' D i' (puts nm (bs ++ frame body) (nsec (bs ++ frame body) - bs.length / 62) (bs.length / 62) d).1 (k + 10000) ((S, .row (segC D nm bv' ev' false)) :: (ef', eo') :: L) →
   Xt (dkU D i ((S, .row (segC D nm bv ev false)) :: (ef, eo) :: L)) w (dkU D i' ((S, .row (segC D nm bv' ev' false)) :: (ef', eo') :: L)) w' →
   (rL rU).rd (fz A (dkU D i' ((S, .row (segC D nm bv' ev' false)) :: (ef', eo') :: L))) w' [bv'] (bs ++ frame body) → Sv 1 eo' ev' ((es ++ [((bs ++ frame body).length : Int)]).map (AV.int .i64)) → K (.tup [.int .i64 es.length, .int .i64 0]) w')
  (hE : (puts nm (bs ++ frame body) (nsec (bs ++ frame body) - bs.length / 62) (bs.length / 62) d).2 ≠ 0 → ∀ i' w', Dk A [] w0 w' D i' (puts nm (bs ++ frame body) (nsec (bs ++ frame body) - bs.length / 62) (bs.length / 62) d).1 (k + 10000) ((S, .row (segC D nm bv ev true)) :: (ef, eo) :: L) →
   Xt (dkU D i ((S, .row (segC D nm bv ev false)) :: (ef, eo) :: L)) w (dkU D i' ((S, .row (segC D nm bv ev true)) :: (ef, eo) :: L)) w' → K (.tup [.int .i64 0, .int .i64 (puts nm (bs ++ frame body) (nsec (bs ++ frame body) - bs.length / 62) (bs.length / 62) d).2]) w') :
  Cl Tryz.prog hk 50 [.ptr S 0, dv] w K := by
 apply in50 (hh.no _ _ _ (by decide) (by decide))
 unfold F50
 have hfl := frame_length body
 have hal : (bs ++ frame body).length = bs.length + (4 + body.length) := by rw [List.length_append, hfl]
 refine gd_t rfl (h.new' fun b2 w3 h3 x3 => h3.new' fun b4 w5 h5 x5 => h5.new' fun b6 w7 h7 x7 => ?_)
 have x07 := (x3.trans x5).trans x7
 refine onM_s (v := .ptr S 0) (h7.ow.ld 8 rfl rfl) ?_
 refine s83 (D := D) (br := false) hh (h7.ow.ld 9 rfl rfl) (h7.ow.ld 9 rfl rfl) ⟨0, rfl, ifT_f ?_⟩
 refine s85 hh h7.ow.P (hd w7 b2 b4 b6 h7 x07) hbl fun v18 w17 f17 hg17 => ⟨_, _, rfl, ifT_f ?_⟩
 obtain ⟨h17, x17⟩ := h7.fr f17
 have hfr17 := hg17.rd (by decide)
 refine onM_s (v := .ptr S 0) (h17.ow.ld 8 rfl rfl) ?_
 simp only [onP]
 have x017 := x07.trans x17
 refine onM_s (v := bv) (h17.ow.ld 9 rfl rfl) ⟨_, hbs.len', _, hfr17.len', ?_⟩
 rw [hfl]
 refine ifT_d (fun hc => ?_) fun _ => ?_
 ·rw [wi_eq (by omega) (by omega)] at hc; omega
 refine onM_s (v := .ptr S 0) (h17.ow.ld 8 rfl rfl) ?_
 simp only [onP]
 refine onM_s (v := bv) (h17.ow.ld 9 rfl rfl) (gd_t hbs.ok1 (gd_t hfr17.ok1 (h17.new' fun b38 w39 h39 x39 => ?_)))
 have x039 := x017.trans x39
 have hb38 : Box w39 b38 [bv, v18] := (h39.ow.box (b38, .row [bv, v18]) (nth_mem (i := 6) rfl) rfl).1
 refine s86 hh h39.ow.P hb38 (hbs.x x039).rsB (hfr17.x x39).rsB (by rw [hfl]; omega) (by rw [hfl]; omega) fun w41 f41 hbAB => ?_
 obtain ⟨h41, x41⟩ := h39.push f41 hbAB (Nat.le_refl _)
 have x041 := x039.trans x41
 refine onM_s (v := .ptr S 0) (h41.ow.ld 10 rfl rfl) ?_
 simp only [onP]
 refine onM_s (v := bv) (h41.ow.ld 11 rfl rfl) ⟨_, hbs.len', ?_⟩
 have efr : wi (Int.tdiv ((bs.length : Nat) : Int) 62) = ((bs.length / 62 : Nat) : Int) := by
  rw [show Int.tdiv ((bs.length : Nat) : Int) 62 = ((bs.length / 62 : Nat) : Int) from rfl, wi_eq (by omega) (by omega)]
 rw [efr]
 refine s87 hh h41 rfl fun c1 c2 w48 h48 x48 => ?_
 have x048 := x041.trans x48
 generalize hfrn : bs.length / 62 = fr at *
 generalize hall : bs ++ frame body = all at *
 have hnl : nsec all ≤ 4096 := by unfold nsec; omega
 have hfn : fr ≤ nsec all := by unfold nsec; omega
 have hm48 := h48.ow.mem
 intro R0 hst hpend hY
 obtain ⟨h49, x49⟩ := h48.pushObj (o := .deferred) (fun _ _ _ _ h => by cases h)
 obtain ⟨h50, x50⟩ := h49.pushObj (o := LoopA.ob R0) ob_no
 rw [show (w48.push .deferred).size = w48.size + 1 from rfl] at h50 x50
 have x050 := (x048.trans x49).trans x50
 show Cl Tryz.prog hk 128 [.yield (w48.size + 1), .ptr c1 0, .ptr c2 0] _ _
 let LM : AO → Bool → Obs := fun o e => (w48.size + 1, .obj o) :: (w48.size, .obj .deferred) :: (c1, .row [.int .i64 (fr : Int)]) :: (c2, .row [.slice w39.size 0 all.length all.length (some 1)]) :: (w39.size, .row (cellsOfBytes all)) :: (b38, .row [bv, v18]) :: (b6, .row [.int .i64 0]) :: (b4, .row [.int .i64 0]) :: (b2, .row [.ptr S 0]) :: (S, .row (segC D nm bv ev e)) :: (ef, eo) :: L
 have hc1 : Box ((w48.push .deferred).push (LoopA.ob R0)) c1 [.int .i64 (fr : Int)] := (h50.ow.box (c1, _) (nth_mem (i := 8) rfl) rfl).1
 refine s128 (fr := fr) (b := all) (bv := .slice w39.size 0 all.length all.length (some 1)) hh (fun j wx => ∃ i' d', Dk A [] w0 wx D i' d' (k + 2 * (j - fr)) (LM (LoopA.ob R0) false) ∧ Xt (dkU D i ((S, .row (segC D nm bv ev false)) :: (ef, eo) :: L)) w (dkU D i' (LM (LoopA.ob R0) false)) wx ∧ fr ≤ j ∧ j ≤ nsec all ∧ puts nm all (nsec all - fr) fr d = puts nm all (nsec all - j) j d')
  (fun j wx ⟨i', d', hdk, _⟩ => ⟨hdk.ow.mem, hdk.ow.P0.pos, (hdk.ow.box (c2, _) (nth_mem (i := 9) rfl) rfl).1, Box.sl (hdk.ow.box (w39.size, .row (cellsOfBytes all)) (nth_mem (i := 10) rfl) rfl).1 trivial rfl (Chk.bytes.2 rfl)⟩)
  hc1 ⟨i, d, by rw [Nat.sub_self]; exact h50, x050, Nat.le_refl _, hfn, rfl⟩ (by omega) (by omega) ?_ ?_
 ·rintro j wj wj' xv ⟨i', d', hdk, hx, hj1, hj2, hpe⟩ hlt hf hg
  have hjn : j < nsec all := by unfold nsec; omega
  obtain ⟨m, hm⟩ : ∃ m, nsec all - j = m + 1 := ⟨nsec all - j - 1, by omega⟩
  rw [hm] at hpe
  have hpe' : puts nm all (nsec all - fr) fr d = if (d'.put nm j (sector all j)).2 ≠ 0 then d'.put nm j (sector all j) else puts nm all m (j + 1) (d'.put nm j (sector all j)).1 := hpe
  obtain ⟨hk', xk⟩ := hdk.fr hf
  have hrd := rd_any (U := dkU D i' (LM (LoopA.ob R0) false)) (hg.rd (by decide)) fun c hc => hdk.ow.ids_lt hc
  have hl' : loopAt wj' (w48.size + 1) = some R0 := loop_of (hk'.ow.box (w48.size + 1, .obj (LoopA.ob R0)) (nth_mem (i := 6) rfl) rfl).1.1
  refine hY _ _ wj' _ hl' ⟨hl', fun wb hwb => ?_⟩
  subst hwb
  obtain ⟨hb, xb⟩ := hk'.setObj 0 (o2 := busyOb R0) rfl busy_no
  have hb : Dk A [] w0 _ D i' d' (k + 2 * (j - fr)) (LM (busyOb R0) false) := hb
  refine onM_s (v := .ptr S 0) (hb.ow.ld 14 rfl rfl) (onM_s (v := .ptr S 0) (hb.ow.ld 14 rfl rfl) ?_)
  simp only [onP]
  refine onM_s (v := .ptr D 0) (hb.ow.ld 15 rfl rfl) (onM_s (v := .ptr S 0) (hb.ow.ld 14 rfl rfl) ?_)
  simp only [onP]
  refine ⟨nm, hb.ow.ld 15 rfl rfl, ?_⟩
  refine s29 hh hb (by omega) (hrd.x xb).rsB ?_
  intro i2 w65 h65 x65
  have xx := ((hx.trans xk).trans xb).trans x65
  refine ⟨_, rfl, h65.ow.ld 14 rfl rfl, ?_⟩
  refine s84 hh (fun he => ⟨0, rfl, ifT_f ?_⟩) fun he => ?_
  ·rw [if_neg (by simpa using he)] at hpe'
   refine ⟨{ R0 with st := .busy }, loop_of (h65.ow.box (w48.size + 1, .obj (busyOb R0)) (nth_mem (i := 6) rfl) rfl).1.1, .inl ⟨rfl, ?_⟩⟩
   rw [ready_eq hst hpend]
   obtain ⟨h66, x66⟩ := h65.setObj 0 (o2 := LoopA.ob R0) rfl ob_no
   exact ⟨i2, _, by rw [show k + 2 * (j + 1 - fr) = k + 2 * (j - fr) + 2 by omega]; exact h66, xx.trans x66, by omega, by omega, by rw [hpe', show nsec all - (j + 1) = m by omega]⟩
  ·rw [if_pos he] at hpe'
   rw [hpe'] at hE
   refine h65.wr 9 rfl (by simp [segC]) fun w4' h66 x66 => ⟨_, rfl, ifT_nd (fun _ => ?_) fun h => absurd h he⟩
   refine h66.wr 7 rfl (by simp) fun w70 h70 x70 => h70.wr 6 rfl (by simp) fun w71 h71 x71 => ?_
   refine ⟨{ R0 with st := .busy }, loop_of (h71.ow.box (w48.size + 1, .obj (busyOb R0)) (nth_mem (i := 6) rfl) rfl).1.1, .inr ⟨rfl, ?_⟩⟩
   obtain ⟨h72, x72⟩ := h71.setObj 0 (o2 := LoopA.ob { ({ R0 with st := .busy } : LoopA) with st := .done, pending := some .ret }) rfl ob_no
   refine ⟨_, loop_of (h72.ow.box (w48.size + 1, .obj _) (nth_mem (i := 6) rfl) rfl).1.1, by simp, ?_⟩
   obtain ⟨h73, x73⟩ := h72.setObj 0 (o2 := LoopA.ob { ({ ({ R0 with st := .busy } : LoopA) with st := .done, pending := some .ret } : LoopA) with st := .exhausted }) rfl ob_no
   have hdd := (h73.ow.box (w48.size, .obj .deferred) (nth_mem (i := 7) rfl) rfl).1.1
   obtain ⟨h74, x74⟩ := h73.setObj 1 (o2 := .gone) rfl (fun _ _ _ _ h => by cases h)
   refine onM_s (take_one hdd) ⟨0, h74.ow.ld 13 rfl rfl, _, h74.ow.ld 12 rfl rfl, ?_⟩
   obtain ⟨h75, x75, _⟩ := h74.drop
   obtain ⟨h76, x76, _⟩ := h75.drop
   obtain ⟨h77, x77, _⟩ := h76.drop
   obtain ⟨h78, x78, _⟩ := h77.drop
   obtain ⟨h79, x79, _⟩ := h78.drop
   obtain ⟨h80, x80, _⟩ := h79.drop
   obtain ⟨h81, x81, _⟩ := h80.drop
   obtain ⟨h82, x82, _⟩ := h81.drop
   obtain ⟨h83, x83, _⟩ := h82.drop
   have y1 := (((((xx.trans x66).trans x70).trans x71).trans x72).trans x73).trans x74
   have y2 := (((((((x75.trans x76).trans x77).trans x78).trans x79).trans x80).trans x81).trans x82).trans x83
   exact hE he i2 _ (h83.le (by omega) hkk) (y1.trans y2)
 ·rintro j wj ⟨i', d', hdk, hx, hj1, hj2, hpe⟩ hge hor
  obtain rfl : j = nsec all := by unfold nsec at hj2 ⊢; omega
  rw [Nat.sub_self] at hpe
  have hpe : puts nm all (nsec all - fr) fr d = (d', 0) := hpe
  rw [hpe] at hK
  refine ⟨R0, loop_of (hdk.ow.box (w48.size + 1, .obj (LoopA.ob R0)) (nth_mem (i := 6) rfl) rfl).1.1, by rw [hst]; simp, ?_⟩
  rw [hpend]
  obtain ⟨h51, x51⟩ := hdk.setObj 0 (o2 := LoopA.ob { R0 with st := .exhausted, pending := none }) rfl ob_no
  refine onM_s (v := .ptr S 0) (h51.ow.ld 14 rfl rfl) (onM_s (v := .ptr S 0) (h51.ow.ld 14 rfl rfl) (onM_s (v := .ptr S 0) (h51.ow.ld 14 rfl rfl) ?_))
  simp only [onP]
  refine onM_s (v := ev) (h51.ow.ld 15 rfl rfl) ⟨_, rfl, h51.new' fun b80 w81 h81 x81 => ⟨h81.ow.ld 16 rfl rfl, h81.ow.ld 15 rfl rfl, h81.ow.ld 15 rfl rfl, h81.ow.ld 15 rfl rfl, ?_⟩⟩
  have hb80 : Box w81 b80 [.int .i64 (all.length : Int)] := (h81.ow.box (b80, .row [.int .i64 (all.length : Int)]) (nth_mem (i := 6) rfl) rfl).1
  have hml : (es.map (AV.int .i64)).length = es.length := List.length_map _
  refine h81.accL 11 rfl hes (by decide) (hb80.rs rfl) (by rw [hml]; omega) (by rw [hml]; omega) fun ev' ef' eo' w83 h83 x83 hes' => ⟨h83.ow.ld 15 rfl rfl, h83.ow.ld 15 rfl rfl, ?_⟩
  refine gd_t rfl (h83.wr 10 rfl (by simp [segC]) fun w86 h86 x86 => ⟨h86.ow.ld 15 rfl rfl, ?_⟩)
  refine gd_t hes'.ok (h86.wr 10 rfl (by simp [segC, listPut]) fun w89 h89 x89 => ?_)
  refine onM_s (v := .ptr S 0) (h89.ow.ld 15 rfl rfl) ?_
  simp only [onP]
  have hes2 : Sv 1 eo' ev' ((es ++ [(all.length : Int)]).map (AV.int .i64)) := by rw [List.map_append]; exact hes'
  have hrs := h89.ow.sv (i := 17) (f := ef') (o := eo') rfl hes2 (by decide) (k := es.length + 1) (by simp)
  refine onM_s (v := ev') (h89.ow.ld 16 rfl rfl) ⟨_, hrs.len, ?_⟩
  rw [show wi (((es.length + 1 : Nat) : Int) - 1) = ((es.length : Nat) : Int) by rw [wi_eq (by omega) (by omega)]; omega]
  refine h89.wr 8 rfl (by simp) fun w95 h95 x95 => h95.wr 7 rfl (by simp) fun w96 h96 x96 => ?_
  have hdd := (h96.ow.box (w48.size, .obj .deferred) (nth_mem (i := 8) rfl) rfl).1.1
  obtain ⟨h97, x97⟩ := h96.setObj 2 (o2 := .gone) rfl (fun _ _ _ _ h => by cases h)
  refine onM_s (take_one hdd) ⟨_, h97.ow.ld 14 rfl rfl, 0, h97.ow.ld 13 rfl rfl, ?_⟩
  obtain ⟨h98, x98, _⟩ := h97.drop
  obtain ⟨h99, x99, _⟩ := h98.drop
  obtain ⟨h100, x100, _⟩ := h99.drop
  obtain ⟨h101, x101, _⟩ := h100.drop
  obtain ⟨h102, x102, _⟩ := h101.drop
  obtain ⟨h103, x103, hA, hbx⟩ := h102.drop
  obtain ⟨h104, x104, _⟩ := h103.drop
  obtain ⟨h105, x105, _⟩ := h104.drop
  obtain ⟨h106, x106, _⟩ := h105.drop
  obtain ⟨h107, x107, _⟩ := h106.drop
  have hbx : Box _ w39.size (cellsOfBytes all) := hbx
  have hrd := (Box.sl (r := rU) (n := all.length) (cap := all.length) (ex := some 1) hbx hA rfl (Chk.bytes.2 rfl)).x (((x104.trans x105).trans x106).trans x107)
  have y1 := ((((((((hx.trans x51).trans x81).trans x83).trans x86).trans x89).trans x95).trans x96).trans x97).trans x98
  have y2 := ((((((((x99.trans x100).trans x101).trans x102).trans x103).trans x104).trans x105).trans x106).trans x107)
  exact hK rfl i' _ _ ev' ef' eo' (h107.le (by omega) hkk) (y1.trans y2) hrd hes2
end
end Go.Proofs.YthpjoogmmjikmaaGreatDoor
/-
 A segment's calls, over memory (the second part).
 No condition beyond those that each theorem names.
-/
set_option linter.unusedSimpArgs false
open Go.Sx
set_option linter.unusedVariables false
set_option linter.unusedSimpArgs false
namespace Go.Proofs.YthpjoogmmjikmaaGreatDoor
section
variable {hk : Hook} {A B : Nat → Prop} {I : List Nat} {w0 w w' : AW} {D S : Nat} {i i' : DI} {d d' : Dsk} {k k' : Nat} {L L' : Obs} {K : AV → AW → Prop} {nm bs : Byts} {es : List Int} {bv ev : AV} {br : Bool} {ef : Nat} {eo : Ob}
theorem s89b {v : AV} {s : Byts} (hh : HK hk) (hm : Mem w) (hw : 0 < w.size) (h : RsB w v s) (hv : v ≠ .nilslice) (hs : s.length < 2 ^ 30) (hK : ∀ c ex w', Fr w.size w w' → w.size ≤ c → Box w' c (cellsOfBytes s) → (ex = none ∨ ex = some 1) → K (.slice c 0 s.length s.length ex) w') : Cl Tryz.prog hk 89 [v] w K := by
 apply in89 (hh.no _ _ _ (by decide) (by decide))
 unfold F89
 have hsl : ∃ b o n cap ex, v = .slice b o n cap ex := by
  rcases h with ⟨rfl, _⟩ | ⟨b, o, cap, ex, al, rfl, _⟩
  ·exact absurd rfl hv
  ·exact ⟨_, _, _, _, _, rfl⟩
 obtain ⟨b, o, n, cap, ex, rfl⟩ := hsl
 refine ⟨false, by kernel_rfl, ifT_f (new_of hm fun w3 f3 b3 z3 => ?_)⟩
 have h3 : RsB w3 (.slice b o n cap ex) s := RsB.fr h hm f3 (Nat.le_refl _)
 have hx := Rs.src h3
 by_cases hn : s.length = 0
 ·have : s = [] := by simpa using hn
  subst this
  refine onE_s (v := .slice w.size 0 0 0 none) (w := w3) ?_ (hK w.size none w3 f3 (Nat.le_refl _) b3 (.inl rfl))
  simp only [appS, hx.read, Option.bind_some]; rfl
 ·have f1 : Fr w3.size w3 (newCells w3 (cellsOfBytes s)) := Fr.push f3.mem fun cs' f own d e => by cases e; exact Nat.le_refl _
  have b1 : Box (newCells w3 (cellsOfBytes s)) w3.size (cellsOfBytes s) := by simp [Box, newCells, cellsAO]
  refine onE_s (v := .slice w3.size 0 s.length s.length (some 1)) (w := newCells w3 (cellsOfBytes s)) ?_ (hK _ _ _ (f3.trans f1 (by omega)) (by omega) b1 (.inr rfl))
  have e0 : Nat.ble s.length 0 = false := by
   cases he : Nat.ble s.length 0 with
   | false => rfl
   | true => rw [Nat.ble_eq] at he; omega
  have e1 : Nat.blt ((2 * s.length + 1000) * 1) Sx.room = true := by rw [Nat.blt_eq]; unfold Sx.room; omega
  have e2 : Nat.blt s.length (2 ^ 62) = true := by rw [Nat.blt_eq]; omega
  have e4 : takeCells ([] : List AV) 0 (0 * 1) = some [] := rfl
  simp only [appS, hx.read, Option.bind_some, beq_ff hn, cond_false, hx.ok, guardO, e0, e1, e2, Bool.and_self, cond_true, growA, b3.cells, e4, List.nil_append, Nat.zero_add]
  rfl
theorem s90 {i0 : Nat} (hh : HK hk) (h3 : 0 < i0 → ld w S 3 = some ev) (he : 0 < i0 → RsI w ev es) (hi : i0 ≤ es.length) (hi2 : i0 < 2 ^ 60) (hK : K (.int .i64 (if i0 = 0 then 0 else es.getD (i0 - 1) 0)) w) : Cl Tryz.prog hk 90 [.ptr S 0, .int .i64 (i0 : Int)] w K := by
 apply in90 (hh.no _ _ _ (by decide) (by decide))
 unfold F90
 refine ifT_d (fun hc => ?_) fun hc => ?_
 ·have : i0 = 0 := by omega
  rw [if_pos this] at hK; exact hK
 ·have h0 : i0 ≠ 0 := by omega
  rw [if_neg h0] at hK
  simp only [onP]
  refine onM_s (h3 (by omega)) ?_
  rw [show wi ((i0 : Int) - 1) = ((i0 - 1 : Nat) : Int) by rw [wi_eq (by omega) (by omega)]; omega]
  refine (he (by omega)).atN (by omega) fun b o hld => ⟨es[i0 - 1], hld, ?_⟩
  rw [show es.getD (i0 - 1) 0 = es[i0 - 1] by rw [List.getD_eq_getElem?_getD, List.getElem?_eq_getElem (by omega)]; rfl] at hK
  exact hK
theorem sl_some {b o n cap : Nat} {ex : Option Nat} {lo hi : Option AV} : slS 1 (.slice b o n cap ex) lo hi none ≠ some .nilslice := by
 intro h
 simp only [slS, Option.bind_eq_some_iff] at h
 obtain ⟨_, _, _, _, _, _, h⟩ := h
 have key : ∀ (q : Bool) (x : AV), guardO q (some x) = some .nilslice → x = .nilslice := by
  intro q x; cases q <;> simp [guardO]
 have := key _ _ h
 cases this
theorem s53 {i0 st en : Nat} (hh : HK hk) (hm : Mem w) (hw : 0 < w.size) (h0 : ld w S 0 = some (.ptr D 0)) (h2 : ld w S 2 = some bv) (h3 : ld w S 3 = some ev) (h4 : ld w S 4 = some (.bool br)) (hbs : (rL rU).rd A w [bv] bs) (hes : RsI w ev es) (hbv : bv ≠ .nilslice)
  (hi : i0 < es.length) (hi2 : es.length < 2 ^ 60) (hs : (if i0 = 0 then 0 else es.getD (i0 - 1) 0) = (st : Int)) (hen : es[i0] = (en : Int)) (h1 : st + 4 ≤ en) (hel : en ≤ bs.length) (hbl : bs.length < 2 ^ 30)
  (hK : ∀ c ex w', Fr w.size w w' → w.size ≤ c → Box w' c (cellsOfBytes ((bs.take en).drop (st + 4))) → (ex = none ∨ ex = some 1) → K (.tup [.slice c 0 ((bs.take en).drop (st + 4)).length ((bs.take en).drop (st + 4)).length ex, .int .i64 0]) w') : Cl Tryz.prog hk 53 [.ptr S 0, .int .i64 (i0 : Int)] w K := by
 apply in53 (hh.no _ _ _ (by decide) (by decide))
 unfold F53
 refine s83 (D := D) (br := br) hh h0 h4 ⟨_, rfl, ?_⟩
 refine ifT_d (fun hc => ?_) fun _ => ifT_d (fun hc => absurd hc (by omega)) fun _ => ?_
 ·cases br <;> simp at hc
 simp only [onP]
 refine onM_s h3 ⟨_, hes.len, ifT_d (fun hc => absurd hc (by omega)) fun _ => onM_s h2 (onM_s h3 (hes.atN hi fun b o hld => ⟨es[i0], hld, ?_⟩))⟩
 refine s90 (ev := ev) (es := es) hh (fun _ => h3) (fun _ => hes) (by omega) (by omega) ⟨_, rfl, hld, h3, h2, ?_⟩
 rw [hs, hen, show wi ((st : Int) + 4) = ((st + 4 : Nat) : Int) by rw [wi_eq (by omega) (by omega)]; push_cast; rfl]
 obtain ⟨part, hsl, hpart⟩ := hbs.cut (i := st + 4) (j := en) h1 hel (.inl rfl) (.inl rfl)
 have hne : part ≠ .nilslice := by
  intro e
  rw [e] at hsl
  obtain ⟨all, g1, g2⟩ := hbs.rs
  rcases g1 with ⟨rfl, _⟩ | ⟨b, o, cap, ex, al, rfl, _⟩
  ·exact hbv rfl
  ·exact sl_some hsl
 refine onM_s hsl (s89b hh hm hw hpart.rsB hne (by simp; omega) fun c ex w' f1 g1 b1 g2 => hK c ex w' f1 g1 b1 g2)
end
end Go.Proofs.YthpjoogmmjikmaaGreatDoor
/-
 Open of a file that is not there.
 No condition beyond those that each theorem names.
-/
set_option linter.unusedSimpArgs false
open Go.Sx
set_option linter.unusedVariables false
set_option linter.unusedSimpArgs false
namespace Go.Proofs.YthpjoogmmjikmaaGreatDoor
section
variable {hk : Hook} {A B : Nat → Prop} {I : List Nat} {w0 w w' : AW} {D S : Nat} {i i' : DI} {d d' : Dsk} {k k' : Nat} {L L' : Obs} {K : AV → AW → Prop} {nm bs : Byts} {es : List Int} {bv ev : AV} {br : Bool} {ef : Nat} {eo : Ob}
theorem s87o {v : AV} {fr : Int} (hh : HK hk) (st : Ow A I w0 w L) (hv : okCell v = true) (hK : ∀ c1 c2 w', Ow A I w0 w' ((c1, .row [.int .i64 fr]) :: (c2, .row [v]) :: L) → Xt (ids L) w (c1 :: c2 :: ids L) w' → K (.func 128 [] [.ptr c1 0, .ptr c2 0]) w') : Cl Tryz.prog hk 87 [v, .int .i64 fr] w K := by
 apply in87 (hh.no _ _ _ (by decide) (by decide))
 unfold F87
 exact gd_t hv (st.new' fun c2 w3 st3 x3 => st3.new' fun c1 w5 st5 x5 => hK c1 c2 w5 st5 (x3.trans x5))
end
end Go.Proofs.YthpjoogmmjikmaaGreatDoor
