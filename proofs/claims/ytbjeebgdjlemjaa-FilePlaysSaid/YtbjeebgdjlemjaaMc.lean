/-
 What the disk's functions do,over memory,with its own blocks (the first part).
 No condition beyond those that each theorem names.
-/
import Derived.Test.YtbjeebgdjlemjaaMb
import Derived.Test.YtbjeebgdjlemjaaSxw
import Derived.Test.YtbjeebgdjlemjaaSxv
import Derived.Test.YtbjeebgdjlemjaaSxr
import Derived.Test.YtbjeebgdjlemjaaSxy
set_option linter.unusedSimpArgs false
open Go.Sx
set_option linter.unusedVariables false
namespace Go.Proofs.Ytbjeebgdjlemjaa
structure HK (hk : Hook) : Prop where
 no : ∀ f a w,f ≠ 14 → f ≠ 55 → hk f a w = none
 sorted : ∀ a w x,hookS kindS 55 76 w a = some x → hk 55 a w = some (some x)
 awake : ∀ w,hk 14 [] w = some (some (.bool true,w))
theorem z64_eq : z64 = cellsOfBytes zsec := by simp [z64,zsec,cellsOfBytes]
theorem listPut_all {cs vs : List AV} (h : cs.length = vs.length) : listPut cs 0 vs = vs := by
 simp only [listPut,List.take_zero,List.nil_append,Nat.zero_add]
 rw [List.drop_eq_nil_of_le (by omega),List.append_nil]
theorem zstep_length : (stepC (.int .i64 0) (.int .i64 0) (.int .i64 0) z64 (.str []) (.str [])).length = 69 := by
 show (AV.int .i64 0 :: AV.int .i64 0 :: AV.int .i64 0 :: (z64 ++ [AV.str [],AV.str []])).length = 69
 rw [z64_eq]; simp [cellsOfBytes_length,zsec]
section
variable {hk : Hook} {A B : Nat → Prop} {I : List Nat} {w0 w w' : AW} {D : Nat} {i i' : DI} {d d' : Dsk} {k k' : Nat} {L L' : Obs} {K : AV → AW → Prop}
theorem s47 (hh : HK hk) (h : ld w D 0 = some (.bool true)) (hK : K (.bool false) w) : Cl Try.prog hk 47 [.ptr D 0] w K := by
 apply in47 (hh.no _ _ _ (by decide) (by decide))
 unfold F47
 exact ⟨false,by kernel_rfl,ifT_f ⟨true,h,hK⟩⟩
theorem s41 {s : Byts} (hh : HK hk) (hK : K (.bool (named s)) w) : Cl Try.prog hk 41 [.str s] w K := by
 apply in41 (hh.no _ _ _ (by decide) (by decide))
 unfold F41
 have e : Int.ofNat s.length = ((s.length : Nat) : Int) := rfl
 rw [e]
 refine ifT_d (fun h => ?_) fun h => ?_
 ·have : named s = decide (((s.length : Nat) : Int) ≤ 64) := by
   unfold named
   rw [decide_eq_decide]; omega
  rw [← this]; exact hK
 ·have : named s = false := by
   unfold named
   rw [decide_eq_false_iff_not]; omega
  rw [← this]; exact hK
theorem s53 {b o : Nat} {n : Int} (hh : HK hk) (h : ld w b o = some (.int .i64 n)) (hK : K (.int .i64 n) w) : Cl Try.prog hk 53 [.ptr b o] w K := by
 apply in53 (hh.no _ _ _ (by decide) (by decide))
 unfold F53
 simp only [onP,Nat.add_zero]
 exact Cl_ext (hh.no _ _ _ (by decide) (by decide)) Try.func73 rfl (ext_load h) ⟨_,rfl,hK⟩
theorem s51 {b o : Nat} {n : Int} (hh : HK hk) (h : onM (w.putCells b o [.int .i64 n]) fun w' => K (.tup []) w') : Cl Try.prog hk 51 [.ptr b o,.int .i64 n] w K := by
 apply in51 (hh.no _ _ _ (by decide) (by decide))
 unfold F51
 simp only [onP,Nat.add_zero]
 obtain ⟨w',h1,h2⟩ := onM_iff.1 h
 exact Cl_ext (hh.no _ _ _ (by decide) (by decide)) Try.func72 rfl (ext_store h1) ⟨rfl,h2⟩
theorem nlook (ns : List (Byts × Int)) (s : Byts) : lookV (.int .i64 0) true (lookM (.str s) (nEnts ns)) = some (.tup [.int .i64 ((nget ns s).getD 0),.bool (nget ns s).isSome]) := by
 rw [nEnts_look]
 cases nget ns s <;> rfl
theorem s40 {s : Byts} (hh : HK hk) (h : Dk A I w0 w D i d k L) (hK : K (.tup [.int .i64 ((nget d.now.names s).getD 0),.int .i64 (if (nget d.now.names s).isSome then 0 else 70)]) w) : Cl Try.prog hk 40 [.ptr D 0,.str s] w K := by
 apply in40 (hh.no _ _ _ (by decide) (by decide))
 unfold F40
 refine s47 hh (h.ow.ld 0 rfl rfl) ⟨false,rfl,ifT_f ?_⟩
 refine onM_s (h.ow.ld 0 rfl rfl) ⟨_,_,(h.ow.look 3 rfl (nEnts_like _ _)).trans (nlook _ s),?_⟩
 cases hg : nget d.now.names s with
 | none => rw [hg] at hK; exact ifT_t hK
 | some f => rw [hg] at hK; exact ifT_f hK
theorem s92 {b o : Nat} {n e : Int} (hh : HK hk) (h0 : ld w b o = some (.int .i64 n)) (h : onM (w.putCells b o [.int .i64 (wi (n + e))]) fun w' => K (.int .i64 (wi (n + e))) w') : Cl Try.prog hk 92 [.ptr b o,.int .i64 e] w K := by
 apply in92 (hh.no _ _ _ (by decide) (by decide))
 unfold F92
 simp only [onP,Nat.add_zero]
 obtain ⟨w',h1,h2⟩ := onM_iff.1 h
 exact Cl_ext (hh.no _ _ _ (by decide) (by decide)) Try.func104 rfl (ext_add h0 h1) ⟨_,rfl,h2⟩
theorem s86 {b o : Nat} {n : Int} (hh : HK hk) (h0 : ld w b o = some (.int .i64 n)) (hz : n = 0 → K (.bool false) w) (h : n ≠ 0 → onM (w.putCells b o [.int .i64 (wi (n + -1))]) fun w' => K (.bool (decide (wi (n + -1) = 0))) w') : Cl Try.prog hk 86 [.ptr b o] w K := by
 apply in86 (hh.no _ _ _ (by decide) (by decide))
 unfold F86
 refine s53 hh h0 ⟨n,rfl,ifT_d hz fun hn => ?_⟩
 refine s92 hh h0 ?_
 obtain ⟨w',h1,h2⟩ := onM_iff.1 (h hn)
 exact onM_s h1 ⟨_,rfl,h2⟩
theorem s68 (hh : HK hk) (h : Dk A I w0 w D i d k L) (hK : Od A I w0 w D i L d.stopped k K) : Cl Try.prog hk 68 [.ptr D 0] w K := by
  apply in68 (hh.no _ _ _ (by decide) (by decide))
  unfold F68
  simp only [onP]
  refine ⟨d.down, h.ow.ld 0 rfl rfl, ?_⟩
  have hst : d.stopped.1.V k := h.V.stopped
  unfold Dsk.stopped at hK hst
  cases hd : d.down with
  | true =>
    rw [hd] at hK
    exact ifT_t (Od.now h hK (Nat.le_refl _) h.k27)
  | false =>
    rw [hd] at hK hst
    refine ifT_f ?_
    have V1 : ∀ a b : Int, Dsk.V { d with fault := a, arm := b } k := fun a b => ⟨h.V.steps, h.V.sv, h.V.safe, h.V.now, h.V.last⟩
    have step1 : ∀ {K' : AV → AW → Prop}, (∀ w', Dk A I w0 w' D i { d with fault := (spent d.fault).1 } k L → Xt (dkU D i L) w (dkU D i L) w' → K' (.bool (spent d.fault).2) w') → Cl Try.prog hk 86 [.ptr D (0 + 9)] w K' := fun {K'} hK' => by
      refine s86 hh (n := d.fault) (h.ow.ld 0 rfl rfl) (fun e => ?_) fun e => ?_
      · have : spent d.fault = (0, false) := by unfold spent; rw [if_pos e]
        rw [this] at hK'
        refine hK' w ?_ Xt.refl
        have e2 : { d with fault := 0 } = d := by rw [← e]
        rw [e2]; exact h
      · have : spent d.fault = (wi (d.fault + -1), decide (wi (d.fault + -1) = 0)) := by unfold spent; rw [if_neg e]
        rw [this] at hK'
        exact h.put (d' := { d with fault := wi (d.fault + -1) }) (by simp) rfl rfl rfl rfl (V1 _ _) h.k27 hK'
    refine step1 fun w9 h9 x9 => ⟨_, rfl, ?_⟩
    have step2 : ∀ {K' : AV → AW → Prop}, (∀ w', Dk A I w0 w' D i { d with fault := (spent d.fault).1, arm := (spent d.arm).1 } k L → Xt (dkU D i L) w9 (dkU D i L) w' → K' (.bool (spent d.arm).2) w') → Cl Try.prog hk 86 [.ptr D (0 + 8)] w9 K' := fun {K'} hK' => by
      refine s86 hh (n := d.arm) (h9.ow.ld 0 rfl rfl) (fun e => ?_) fun e => ?_
      · have : spent d.arm = (0, false) := by unfold spent; rw [if_pos e]
        rw [this] at hK'
        refine hK' w9 ?_ Xt.refl
        have e2 : { d with fault := (spent d.fault).1, arm := 0 } = { d with fault := (spent d.fault).1 } := by rw [← e]
        rw [e2]; exact h9
      · have : spent d.arm = (wi (d.arm + -1), decide (wi (d.arm + -1) = 0)) := by unfold spent; rw [if_neg e]
        rw [this] at hK'
        exact h9.put (d' := { d with fault := (spent d.fault).1, arm := wi (d.arm + -1) }) (by simp) rfl rfl rfl rfl (V1 _ _) h.k27 hK'
    refine step2 fun w12 h12 x12 => ⟨_, rfl, ?_⟩
    have x := x9.trans x12
    cases ha : (spent d.arm).2 with
    | true =>
      rw [ha] at hK hst
      refine ifT_t (h12.put (d' := { d with fault := (spent d.fault).1, arm := (spent d.arm).1, down := true }) (by simp) rfl rfl rfl rfl hst h.k27 fun w' h' x' => hK i w' h' (x.trans x'))
    | false =>
      rw [ha] at hK
      refine ifT_f ?_
      have h12' : Dk A I w0 w12 D i { d with fault := (spent d.fault).1, arm := (spent d.arm).1 } k L := h12
      rw [hd] at h12'
      cases hf : (spent d.fault).2 with
      | true =>
        rw [hf] at hK
        exact ifT_t ⟨_, h12.ow.ld 0 rfl rfl, hK i w12 h12' x⟩
      | false =>
        rw [hf] at hK
        exact ifT_f (hK i w12 h12' x)
/-! ### What a step does -/
theorem s69 {v : AV} {l : List Byts} (hh : HK hk) (pv : Pv A w) (h : (rL rSec).rd B w [v] l) (hs : l.length < 2 ^ 30) (hK : ∀ v' w',Fr w.size w w' → Ga rSec A w w' v' l → K v' w') : Cl Try.prog hk 69 [v] w K := by
 apply in69 (hh.no _ _ _ (by decide) (by decide))
 unfold F69
 obtain ⟨all,hr,hc⟩ := h.rs
 have hm := pv.mem
 by_cases hv : v = .nilslice
 ·subst hv
  have : l = [] := by
   rcases h.sl with ⟨_,h⟩ | ⟨b,o,cap,ex,f,all,h,_⟩
   ·exact h
   ·cases h
  subst this
  exact ⟨true,by kernel_rfl,ifT_t (hK _ _ (Fr.refl hm) Ga.nil)⟩
 ·have hsl : ∃ b o n cap ex,v = .slice b o n cap ex := by
   rcases h.sl with ⟨h,_⟩ | ⟨b,o,cap,ex,f,all,h,_⟩
   ·exact absurd h hv
   ·exact ⟨b,o,_,cap,ex,h⟩
  obtain ⟨b,o,n,cap,ex,rfl⟩ := hsl
  have hpos := pv.pos
  refine ⟨false,by kernel_rfl,ifT_f (new_of hm fun w3 f3 b3 z3 => ?_)⟩
  have h0 : Gc (fun f => w.size ≤ f ∧ A f) 64 w3 (.slice w.size 0 0 0 none) [] := .inr ⟨w.size,w.size,0,none,w.size,false,rfl,by simp,.inl rfl,⟨Nat.le_refl _,pv.new _ (Nat.le_refl _)⟩,by omega,b3,AW.root?_iff.2 ⟨_,b3,rfl⟩⟩
  refine h0.app f3.mem ⟨by omega,pv.new _ (by omega)⟩ (by omega) (by decide) (hr.fr hm f3 (Nat.le_refl _)) (by simp; omega) (by simp; omega) fun v' w5 hg hgr hfr => hK v' w5 ?_ ⟨fun b' hb' => ?_,all,hg,hc.secs⟩
  ·exact f3.trans ⟨hgr.size,fun c hc => hgr.old c (by omega) (by omega),hgr.mem⟩ (Nat.le_refl _)
  ·by_cases hlt : b' < w3.size
   ·have e := hfr b' hb' hlt
    rw [e] at hb'
    cases hb'
    exact pv.new _ (Nat.le_refl _)
   ·exact pv.new _ (by omega)
theorem s49 {a b n f : Nat} {s : FS} {x : Stp} {es : List (AV × AV)} (hh : HK hk) (st : Ow A I w0 w L) (ha : nth L a = some (n, .map (nEnts s.names))) (hb : nth L b = some (f, .map es)) (hab : a ≠ b) (hF : FEn (fz A (ids L)) w es s.files)
    (hx : x.data.length = 64) (hxn : 0 ≤ x.n ∧ x.n < 2 ^ 20) (hfl : (s.files x.file).length < 2 ^ 20)
    (hK : ∀ w' es', Ow A I w0 w' (stN (stN L a (n, .map (nEnts (s.does x).names))) b (f, .map es')) → Xt (ids L) w (ids L) w' → FEn (fz A (ids L)) w' es' (s.does x).files → K (.tup []) w') : Cl Try.prog hk 49 [.agg [.map n, .map f], .agg x.cells] w K := by
  apply in49 (hh.no _ _ _ (by decide) (by decide))
  unfold F49
  refine gd_t rfl (st.new' fun b3 w4 st4 e4 => ?_)
  simp only [onA]
  refine gd_t x.all (st4.new' fun b6 w7 st7 e7 => ?_)
  have x7 := e4.trans e7
  have hF7 : FEn (fz A (b6 :: b3 :: ids L)) w7 es s.files := hF.x x7
  have ha7 : nth ((b6, Ob.row x.cells) :: (b3, Ob.row [.map n, .map f]) :: L) (a + 2) = some (n, .map (nEnts s.names)) := ha
  have hb7 : nth ((b6, Ob.row x.cells) :: (b3, Ob.row [.map n, .map f]) :: L) (b + 2) = some (f, .map es) := hb
  have hname : ∀ {w L'}, Ow A I w0 w ((b6, Ob.row x.cells) :: L') → ld w b6 (0 + 67) = some (.str x.name) := fun st => st.ld 0 rfl (Stp.cname hx)
  refine onM_s (st7.ld 1 rfl rfl) ⟨x.name, hname st7, _, _, (st7.look _ ha7 (nEnts_like _ _)).trans (nlook _ x.name), ?_⟩
  obtain ⟨lv, hlk, hsl⟩ := hF7.look x.file
  refine onM_s (st7.ld 1 rfl rfl) ⟨x.file, st7.ld 0 rfl rfl, onM_s ((st7.look _ hb7 (hF7.like _)).trans hlk) ⟨x.what, st7.ld 0 rfl rfl, ?_⟩⟩
  -- how it ends: names alone; files alone; nothing
  have endN : ∀ {w' : AW} {ns : List (Byts × Int)}, Ow A I w0 w' ((b6, Ob.row x.cells) :: (b3, Ob.row [.map n, .map f]) :: stN L a (n, .map (nEnts ns))) → Xt (b6 :: b3 :: ids L) w7 (b6 :: b3 :: ids L) w' → s.does x = ⟨ns, s.files⟩ → K (.tup []) w' := fun {w' ns} st' x' e => by
    have he : ids (stN L a (n, Ob.map (nEnts ns))) = ids L := stN_ids ha rfl
    obtain ⟨st1, y1, _⟩ := st'.drop
    obtain ⟨st2, y2, _⟩ := st1.drop
    have y1 : Xt (b6 :: b3 :: ids (stN L a (n, Ob.map (nEnts ns)))) w' (b3 :: ids (stN L a (n, Ob.map (nEnts ns)))) w' := y1
    have y2 : Xt (b3 :: ids (stN L a (n, Ob.map (nEnts ns)))) w' (ids (stN L a (n, Ob.map (nEnts ns)))) w' := y2
    rw [he] at y1 y2
    have xx := ((x7.trans x').trans y1).trans y2
    rw [e] at hK
    refine hK w' es ?_ xx (hF.x xx)
    rw [stN_self (by rw [nth_set_ne hab]; exact hb)]
    exact st2
  have endF : ∀ {w' : AW} {v : AV} {l : List Byts}, Ow A I w0 w' ((b6, Ob.row x.cells) :: (b3, Ob.row [.map n, .map f]) :: stN L b (f, .map (insM (.int .i64 x.file) v es))) → Xt (b6 :: b3 :: ids L) w7 (b6 :: b3 :: ids L) w' → (rL rSec).rd (fz A (b6 :: b3 :: ids L)) w' [v] l → s.does x = ⟨s.names, updF s.files x.file l⟩ → K (.tup []) w' := fun {w' v l} st' x' hv e => by
    have he : ids (stN L b (f, Ob.map (insM (.int .i64 x.file) v es))) = ids L := stN_ids hb rfl
    obtain ⟨st1, y1, _⟩ := st'.drop
    obtain ⟨st2, y2, _⟩ := st1.drop
    have y1 : Xt (b6 :: b3 :: ids (stN L b (f, Ob.map (insM (.int .i64 x.file) v es)))) w' (b3 :: ids (stN L b (f, Ob.map (insM (.int .i64 x.file) v es)))) w' := y1
    have y2 : Xt (b3 :: ids (stN L b (f, Ob.map (insM (.int .i64 x.file) v es)))) w' (ids (stN L b (f, Ob.map (insM (.int .i64 x.file) v es)))) w' := y2
    rw [he] at y1 y2
    have xx := ((x7.trans x').trans y1).trans y2
    rw [e] at hK
    refine hK w' _ ?_ xx ((hF.x xx).set (hv.x (y1.trans y2)))
    rw [stN_self ha]
    exact st2
  unfold FS.does at endN endF hK
  refine ifT_d (fun e0 => ?_) fun e0 => ?_
  · -- made
    rw [if_pos e0] at endN
    refine onM_s (st7.ld 1 rfl rfl) ⟨x.name, hname st7, x.file, st7.ld 0 rfl rfl, ?_⟩
    refine st7.kvSet (a + 2) ha7 (nEnts_like _ _) fun w20 st20 e20 => ?_
    rw [nEnts_ins] at st20
    exact endN st20 e20 rfl
  rw [if_neg e0] at endN endF hK
  refine ifT_d (fun e1 => ?_) fun e1 => ?_
  · -- put
    rw [if_pos e1] at endF
    obtain ⟨all0, _, hc0⟩ := hsl.rs
    have hl64 := hc0.sec64
    refine s69 hh st7.P hsl (by omega) fun v22 w22 f22 hg22 => ?_
    obtain ⟨m, hm'⟩ := Int.eq_ofNat_of_zero_le hxn.1
    have hml : m < 2 ^ 20 := by omega
    have hz : zsec.length = 64 := by simp [zsec]
    have hB := st7.P.new
    -- the sectors, in memory of their own
    refine loopP_ind (fun i l w25 => ∃ (j : Nat) (v : AV), j ≤ m + 1 - (s.files x.file).length ∧ i = m + 1 - (s.files x.file).length - j ∧ l = [v] ∧ Ow (fz A (b6 :: b3 :: ids L)) [] w7 w25 [] ∧ Ga rSec (fz (fz A (b6 :: b3 :: ids L)) []) w7 w25 v (s.files x.file ++ List.replicate j zsec)) ?_
      ⟨0, v22, Nat.zero_le _, rfl, rfl, (st7.P.st.call f22).1, by rw [show s.files x.file ++ List.replicate 0 zsec = s.files x.file by simp]; exact hg22.inn⟩
    rintro i l w25 ⟨j, v, hj, rfl, rfl, so25, hg25⟩ R ih
    have f25 := so25.fr
    obtain ⟨st25, x25⟩ := st7.call f25
    have hljl : (s.files x.file ++ List.replicate j zsec).length = (s.files x.file).length + j := by simp
    have hrd := hg25.rd (by decide)
    refine ⟨v, rfl, fun _ => ⟨_, hrd.len', x.n, st25.ld 0 rfl rfl, ?_⟩⟩
    refine ifT_d (fun hc => ?_) fun hc => ?_
    · -- one sector more
      refine so25.new' fun b29 w30 so30 x30 => ?_
      obtain ⟨so31, x31, hA31, hb31⟩ := so30.drop
      have hb31 : Box w30 b29 z64 := hb31
      rw [z64_eq] at hb31
      have hrz : (rL rSec).rd (fz (fz A (b6 :: b3 :: ids L)) []) w30 [.slice b29 0 1 1 none] [zsec] := Box.rd1 hb31 hA31 ⟨rfl, hz⟩
      have hg30 : Ga rSec (fz (fz A (b6 :: b3 :: ids L)) []) w7 w30 v (s.files x.file ++ List.replicate j zsec) := (Ga.x x30 so25 hg25).x' x31 so30
      refine Ow.app (r := rSec) (bytes := 64) so31 hg30 hrz (by decide) (fun c hc => so31.P0.new c hc) (by rw [hljl]; simp; omega) (by rw [hljl]; simp; omega) fun v' w32 so32 x32 hg32 => ?_
      refine ih _ (by omega) _ _ ⟨j + 1, v', by omega, rfl, rfl, so32, ?_⟩
      rw [List.replicate_succ', ← List.append_assoc]
      exact hg32
    · -- the sector
      have hjm : j = m + 1 - (s.files x.file).length := by omega
      have hmlt : m < (s.files x.file ++ List.replicate j zsec).length := by rw [hljl]; omega
      refine ⟨x.n, st25.ld 0 rfl rfl, onM_s (v := .agg (cellsOfBytes x.data)) (st25.ldN 0 rfl (by rw [Stp.length hx]; decide) (congrArg AV.agg (Stp.cdata hx))) ?_⟩
      rw [hm']
      refine Ga.put hg25.out so25.mem hB rSec_flat (by decide) hmlt (vs := cellsOfBytes x.data) (x := x.data) ⟨rfl, hx⟩ fun bb hput => ?_
      simp only [onA]
      refine gd_t (ok_bytes _) (gd_t (by rw [cellsOfBytes_length, hx]; rfl) (hput _ fun w38 f38 z38 hrd38 => ?_))
      have hset : (s.files x.file ++ List.replicate j zsec).set m x.data = putS (s.files x.file) x.n.toNat x.data := by
        unfold putS; rw [hm', hjm]; rfl
      rw [hset] at hrd38
      obtain ⟨st38, x38⟩ := st7.call (f25.trans f38 (Nat.le_refl _))
      refine onM_s (st38.ld 1 rfl rfl) ⟨x.file, st38.ld 0 rfl rfl, ?_⟩
      refine st38.kvSet (b + 2) hb7 ((hF7.x x38).like _) fun w42 st42 e42 => ?_
      exact endF st42 (x38.trans e42) (hrd38.x e42) rfl
  rw [if_neg e1] at endN endF hK
  refine ifT_d (fun e2 => ?_) fun e2 => ?_
  · -- cut
    rw [if_pos e2] at endF
    obtain ⟨m, hm'⟩ := Int.eq_ofNat_of_zero_le hxn.1
    refine onM_s (st7.ld 1 rfl rfl) ⟨x.file, st7.ld 0 rfl rfl, _, hsl.len', x.n, st7.ld 0 rfl rfl, ?_⟩
    rw [hm', show imin (((s.files x.file).length : Nat) : Int) (m : Int) = ((min (s.files x.file).length m : Nat) : Int) from imin_nat _ _]
    obtain ⟨v', h1, h2⟩ := hsl.cut (i := 0) (j := min (s.files x.file).length m) (by omega) (by omega) (lo := none) (hi := some (.int .i64 ((min (s.files x.file).length m : Nat) : Int))) (.inr ⟨rfl, rfl⟩) (.inl rfl)
    refine onM_s h1 ?_
    rw [List.drop_zero] at h2
    have hcutl : ((s.files x.file).take (min (s.files x.file).length m)).length < 2 ^ 30 := by simp; omega
    refine s69 hh st7.P h2 hcutl fun v48 w49 f49 hg49 => ?_
    obtain ⟨st49, x49⟩ := st7.call f49
    refine ⟨st49.ld 0 rfl rfl, st49.ld 1 rfl rfl, ?_⟩
    have htk : (s.files x.file).take (min (s.files x.file).length m) = (s.files x.file).take x.n.toNat := by
      rw [hm']
      show _ = (s.files x.file).take m
      by_cases h : m ≤ (s.files x.file).length
      · rw [Nat.min_eq_right h]
      · rw [Nat.min_eq_left (by omega), List.take_of_length_le (by omega), List.take_of_length_le (by omega)]
    rw [htk] at hg49
    refine st49.kvSet (b + 2) hb7 ((hF7.x x49).like _) fun w51 st51 e51 => ?_
    exact endF st51 (x49.trans e51) ((hg49.rd (by decide)).x e51) rfl
  rw [if_neg e2] at endN hK
  cases hg : nget s.names x.name with
  | none =>
    rw [hg] at endN
    refine ifT_t (endN (ns := s.names) (by rw [stN_self ha]; exact st7) Xt.refl rfl)
  | some g =>
    rw [hg] at endN
    refine ifT_f ⟨x.file, st7.ld 0 rfl rfl, ?_⟩
    by_cases hgf : g = x.file
    · simp only [if_pos hgf] at endN
      refine ifT_nd (fun h => absurd hgf h) fun _ => ?_
      refine onM_s (st7.ld 1 rfl rfl) ⟨x.name, hname st7, ?_⟩
      refine st7.kvDel (a + 2) ha7 (nEnts_like _ _) fun w56 st56 e56 => ?_
      rw [nEnts_del] at st56
      have st56 : Ow A I w0 w56 ((b6, Ob.row x.cells) :: (b3, Ob.row [.map n, .map f]) :: stN L a (n, .map (nEnts (ndel s.names x.name)))) := st56
      refine ⟨x.what, st56.ld 0 rfl rfl, ifT_d (fun e3 => ?_) fun e3 => ?_⟩
      · simp only [if_pos e3] at endN
        refine onM_s (st56.ld 1 rfl rfl) ⟨x.to, st56.ld 0 rfl (Stp.cto hx), x.file, st56.ld 0 rfl rfl, ?_⟩
        have ha56 : nth ((b6, Ob.row x.cells) :: (b3, Ob.row [.map n, .map f]) :: stN L a (n, .map (nEnts (ndel s.names x.name)))) (a + 2) = some (n, .map (nEnts (ndel s.names x.name))) := nth_set_eq ha
        refine st56.kvSet (a + 2) ha56 (nEnts_like _ _) fun w62 st62 e62 => ?_
        rw [nEnts_ins] at st62
        have he : ids (stN L a (n, Ob.map (nEnts (ndel s.names x.name)))) = ids L := stN_ids ha rfl
        have e62 : Xt (b6 :: b3 :: ids (stN L a (n, Ob.map (nEnts (ndel s.names x.name))))) w56 (b6 :: b3 :: ids (stN L a (n, Ob.map (nEnts (ndel s.names x.name))))) w62 := e62
        rw [he] at e62
        have st62 : Ow A I w0 w62 ((b6, Ob.row x.cells) :: (b3, Ob.row [.map n, .map f]) :: stN (stN L a (n, .map (nEnts (ndel s.names x.name)))) a (n, .map (nEnts (nset (ndel s.names x.name) x.to x.file)))) := st62
        rw [stN_stN] at st62
        exact endN st62 (e56.trans e62) rfl
      · simp only [if_neg e3] at endN
        exact endN st56 e56 rfl
    · simp only [if_neg hgf] at endN
      exact ifT_nd (fun _ => endN (ns := s.names) (by rw [stN_self ha]; exact st7) Xt.refl rfl) fun h => absurd h hgf
end
end Go.Proofs.Ytbjeebgdjlemjaa
/-
 What the disk's functions do,over memory,with its own blocks (the second part).
 No condition beyond those that each theorem names.
-/
set_option linter.unusedSimpArgs false
open Go.Sx
set_option linter.unusedVariables false
namespace Go.Proofs.Ytbjeebgdjlemjaa
section
variable {hk : Hook} {A B : Nat → Prop} {I : List Nat} {w0 w w' : AW} {D : Nat} {i i' : DI} {d d' : Dsk} {k k' : Nat} {L L' : Obs} {K : AV → AW → Prop}
theorem s42 {l : List Stp} {lv : AV} (hh : HK hk) (h : Dk A I w0 w D i d k L) (hl : ∀ x ∈ l,x.V) (hkk : k + l.length < 2 ^ 27) (hlv : (rL rStp).rd (fz A (dkU D i L)) w [lv] l)
  (hK : Od A I w0 w D i L (d.more l) (k + l.length) K) : Cl Try.prog hk 42 [.ptr D 0,lv] w K := by
 apply in42 (hh.no _ _ _ (by decide) (by decide))
 unfold F42
 refine s68 hh h fun i3 w3 h3 x3 => ⟨_,rfl,?_⟩
 unfold Dsk.more at hK
 by_cases he : d.stopped.2 = 0
 rotate_left
 ·simp only [ne_eq,he,not_false_eq_true,if_true] at hK
  exact ifT_nd (fun _ => hK i3 w3 (h3.le (by omega) hkk) x3) fun h => absurd h he
 simp only [ne_eq,he,not_true_eq_false,if_false] at hK
 refine ifT_nd (fun h => absurd he h) fun _ => ?_
 have hlv3 := hlv.x x3
 refine ⟨_,hlv3.len',?_⟩
 generalize d.stopped.1 = d1 at *
 refine loopP_ind (fun m lvs w8 => ∃ (j : Nat) (i8 : DI),j ≤ l.length ∧ m = l.length - j ∧ lvs = [.int .i64 j] ∧ Dk A I w0 w8 D i8 { d1 with steps := d1.steps ++ l.take j,now := (l.take j).foldl FS.does d1.now } (k + j) L ∧ Xt (dkU D i3 L) w3 (dkU D i8 L) w8) ?_
  ⟨0,i3,Nat.zero_le _,rfl,rfl,by simpa using h3,Xt.refl⟩
 rintro m lvs w8 ⟨j,i8,hj,rfl,rfl,h8,x8⟩ R ih
 have hlv8 := hlv3.x x8
 refine ⟨_,rfl,fun _ => ifT_d (fun hc => ?_) fun hc => ?_⟩
 ·have hjl : j < l.length := by omega
  have hxV := hl _ (List.getElem_mem hjl)
  have hx64 := hxV.1
  have hx69 := Stp.length hx64
  refine hlv8.at hjl fun bb oo cs hcs _ hN => ?_
  obtain ⟨rfl,_⟩ := hcs
  refine onM_s hN (h8.new' fun b13 w14 h14 x14 => ?_)
  simp only [onA,onP]
  refine gd_t (Stp.all _) (gd_t (by rw [hx69]; rfl) (h14.wr 0 rfl (by rw [zstep_length,hx69]; omega) fun w16 h16 x16 => ?_))
  rw [listPut_all (by rw [zstep_length,hx69])] at h16
  have h16 : Dk A I w0 w16 D i8 { d1 with steps := d1.steps ++ l.take j,now := (l.take j).foldl FS.does d1.now } (k + j) ((b13,.row l[j].cells) :: L) := h16
  refine onM_s (h16.ow.ld 0 rfl rfl) (onM_s (h16.ow.ldN 6 rfl (by rw [hx69]; rfl) (by rw [List.drop_zero,List.take_of_length_le (by omega)])) ?_)
  simp only []
  refine gd_t (Stp.all _) (gd_t (by rw [hx69]; rfl) (h16.new' fun b22 w23 h23 x23 => ?_))
  rw [listPut_all (by rw [zstep_length,hx69])] at h23
  refine ⟨h23.ow.ldN 7 rfl (by rw [hx69]; rfl) (by rw [List.drop_zero,List.take_of_length_le (by omega)]),h23.ow.ld 0 rfl rfl,?_⟩
  obtain ⟨h24,x24,_,hb24⟩ := h23.drop
  have hb24 : Box w23 b22 l[j].cells := hb24
  have hput := h24.app (x := l[j]) hxV (hb24.rs hx69) (by omega) (K := fun v' w' => onP (.ptr D 0) fun b_26 o_27 => gd (okCell v') (onM (w'.putCells b_26 (o_27 + 5) [v']) fun w_28 => onP (.ptr D 0) fun b_29 o_30 => ∃ x_31 : AV,∃ x_32 : AV,Sx.ldN 2 w_28 b_29 (o_30 + 3) = some (.agg [x_31,x_32]) ∧ onM (Sx.ldN 69 w_28 b13 0) fun x_33 => Cl Try.prog hk 49 [(.agg [x_31,x_32]),x_33] w_28 fun r_34 w_35 => r_34 = .tup [] ∧ R [(.int .i64 (wi ((j : Int) + 1)))] w_35)) fun sv2 w25 hok hp => ?_
  ·exact hput
  refine gd_t hok (hp _ fun i28 w28 en ef ee h28 x28 => ?_)
  refine ⟨_,_,h28.ow.ldN 0 rfl rfl rfl,onM_s (h28.ow.ldN 6 rfl (by rw [hx69]; rfl) (by rw [List.drop_zero,List.take_of_length_le (by omega)])) ?_⟩
  have hFV := (h28.V.now l[j].file).1
  refine s49 (a := 3) (b := 4) (s := (l.take j).foldl FS.does d1.now) hh h28.ow rfl rfl (by decide) h28.f2 hx64 ⟨hxV.2.1,by have := hxV.2.2.1; omega⟩ (by have : (((l.take j).foldl FS.does d1.now).files l[j].file).length ≤ 4096 := hFV; omega) fun w35 es' st35 x35 hF35 => ⟨rfl,?_⟩
  have htk : l.take (j + 1) = l.take j ++ [l[j]] := (List.take_append_getElem hjl).symm
  let i35 : DI := { i28 with e2 := es' }
  have x35 : Xt (dkU D i28 ((b13,.row l[j].cells) :: L)) w28 (dkU D i35 ((b13,.row l[j].cells) :: L)) w35 := x35
  have hV35 : Dsk.V { d1 with steps := d1.steps ++ l.take j ++ [l[j]],now := ((l.take j).foldl FS.does d1.now).does l[j] } (k + j + 1) := ⟨h28.V.steps,h28.V.sv,h28.V.safe,FS.V.does h28.V.now hxV,h28.V.last⟩
  have h35 : Dk A I w0 w35 D i35 { d1 with steps := d1.steps ++ l.take j ++ [l[j]],now := ((l.take j).foldl FS.does d1.now).does l[j] } (k + j + 1) ((b13,.row l[j].cells) :: L) :=
   ⟨st35,h28.st,h28.f1.x x35,hF35,hV35,h28.k27⟩
  obtain ⟨h36,x36,_⟩ := h35.drop
  refine ih (l.length - (j + 1)) (by omega) _ _ ⟨j + 1,i35,by omega,rfl,by rw [wi_eq (by omega) (by omega)]; rfl,?_,((((((x8.trans x14).trans x16).trans x23).trans x24).trans x28).trans x35).trans x36⟩
  rw [htk,List.foldl_append,← List.append_assoc]
  exact h36
 ·have : j = l.length := by omega
  subst this
  rw [List.take_length] at h8
  exact hK i8 w8 h8 (x3.trans x8)
def Tells (hk : Hook) (P : AW → Prop) (fv : AV) (so : Nat → Stp → Bool) : Prop :=
 ∀ (i : Nat) (x : Stp) (w : AW),i < 2 ^ 40 → x.data.length = 64 → Mem w → P w → ∀ K' : AV → AW → Prop,(∀ w'',Fr w.size w w'' → K' (.bool (so i x)) w'') → Cv Try.prog hk fv [.int .i64 (i : Int),.agg x.cells] w K'
theorem settleL_snoc (so : Nat → Stp → Bool) (x : Stp) : ∀ (l : List Stp) (i : Nat) (s : FS), settleL so i (l ++ [x]) s = if so (i + l.length) x then (((settleL so i l s).1).does x, (settleL so i l s).2) else ((settleL so i l s).1, (settleL so i l s).2 ++ [x])
  | [], i, s => by
    simp only [List.nil_append, settleL, List.length_nil, Nat.add_zero]
  | a :: l, i, s => by
    simp only [List.cons_append, settleL, List.length_cons, settleL_snoc so x l]
    rw [show i + 1 + l.length = i + (l.length + 1) by omega]
    split <;> split <;> simp [*]
theorem s45 {P : AW → Prop} {fv : AV} {so : Nat → Stp → Bool} (hh : HK hk) (h : Dk A I w0 w D i d k L) (hP : ∀ {w Lx}, Ow A I w0 w Lx → (∀ p ∈ L, p ∈ Lx) → P w) (hso : Tells hk P fv so)
    (hK : Od A I w0 w D i L (d.settle so) k K) : Cl Try.prog hk 45 [.ptr D 0, fv] w K := by
  apply in45 (hh.no _ _ _ (by decide) (by decide))
  unfold F45
  refine s68 hh h fun i3 w3 h3 x3 => ⟨_, rfl, ?_⟩
  unfold Dsk.settle at hK
  by_cases he : d.stopped.2 = 0
  rotate_left
  · simp only [ne_eq, he, not_false_eq_true, if_true] at hK
    exact ifT_nd (fun _ => hK i3 w3 h3 x3) fun h => absurd h he
  simp only [ne_eq, he, not_true_eq_false, if_false] at hK
  refine ifT_nd (fun h => absurd he h) fun _ => ?_
  generalize d.stopped.1 = d1 at *
  simp only [onP]
  refine onM_s (h3.ow.ld 0 rfl rfl) ⟨_, h3.rs.len, ?_⟩
  have hV3 := h3.V
  have hsl := hV3.steps
  have h27 := h3.k27
  obtain ⟨h3r, x3r⟩ := h3.room
  refine loopP_ind (fun m lvs w11 => ∃ (j : Nat) (left : AV) (lf : Nat) (lo : Ob) (i11 : DI), j ≤ d1.steps.length ∧ m = d1.steps.length - j ∧ lvs = [left, .int .i64 j] ∧ i11.sv = i3.sv ∧ Dk A I w0 w11 D i11 { d1 with safe := (settleL so 0 (d1.steps.take j) d1.safe).1 } k ((lf, lo) :: L)
      ∧ Sv 69 lo left (stpsC (settleL so 0 (d1.steps.take j) d1.safe).2) ∧ Xt (dkU D i3 L) w3 (dkU D i11 ((lf, lo) :: L)) w11) ?_
    ⟨0, .nilslice, 0, .none, i3, Nat.zero_le _, rfl, rfl, rfl, by simpa [settleL] using h3r, by rw [List.take_zero]; exact Sv.nil, x3r⟩
  rintro m lvs w11 ⟨j, left, lf, lo, i11, hj, rfl, rfl, esv, h11, hsv, x11⟩ R ih
  obtain ⟨vS, vL, vN⟩ := settleL_V (so := so) (i := 0) (l := d1.steps.take j) hV3.safe fun x hx => hV3.sv x (List.mem_of_mem_take hx)
  have vL64 : ∀ x ∈ (settleL so 0 (d1.steps.take j) d1.safe).2, x.data.length = 64 := fun x hx => (vL x hx).1
  have hgl := stpsC_length vL64
  have hvN : (settleL so 0 (d1.steps.take j) d1.safe).2.length ≤ k := by
    have : (d1.steps.take j).length ≤ d1.steps.length := by simp; omega
    omega
  refine ⟨_, _, rfl, fun _ => ifT_d (fun hc => ?_) fun hc => ?_⟩
  · have hjl : j < d1.steps.length := by omega
    have hxV := hV3.sv _ (List.getElem_mem hjl)
    have hx64 := hxV.1
    have hx69 := Stp.length hx64
    have hrs11 : Rs w11 69 d1.steps.length i3.sv (stpsC d1.steps) := by rw [← esv]; exact h11.rs
    refine hrs11.at (i := (j : Int)) (by omega) (by omega) fun bb oo _ hN => ?_
    have hN : ldN 69 w11 bb oo = some (.agg d1.steps[j].cells) := by rw [hN]; exact congrArg (fun t => some (AV.agg t)) (stpsC_at (fun x hx => (hV3.sv x hx).1) hjl)
    refine onM_s hN (h11.new' fun b17 w18 h18 x18 => ?_)
    simp only [onA]
    refine gd_t (Stp.all _) (gd_t (by rw [hx69]; rfl) (h18.wr 0 rfl (by rw [zstep_length, hx69]; omega) fun w20 h20 x20 => ?_))
    rw [listPut_all (by rw [zstep_length, hx69])] at h20
    have h20 : Dk A I w0 w20 D i11 { d1 with safe := (settleL so 0 (d1.steps.take j) d1.safe).1 } k ((b17, .row d1.steps[j].cells) :: (lf, lo) :: L) := h20
    have hld : ∀ {w i d}, Dk A I w0 w D i d k ((b17, .row d1.steps[j].cells) :: (lf, lo) :: L) → ldN 69 w b17 0 = some (.agg d1.steps[j].cells) := fun h => h.ow.ldN 6 rfl (by rw [hx69]; rfl) (by rw [List.drop_zero, List.take_of_length_le (by omega)])
    refine onM_s (hld h20) ?_
    refine hso j d1.steps[j] w20 (by omega) hx64 h20.ow.mem (hP h20.ow fun p hp => ?_) _ fun w23 f23 => ⟨_, rfl, ?_⟩
    · unfold dkL; simp [hp]
    obtain ⟨h23, x23⟩ := h20.fr f23
    have htk : d1.steps.take (j + 1) = d1.steps.take j ++ [d1.steps[j]] := (List.take_append_getElem hjl).symm
    have hsnoc := settleL_snoc so d1.steps[j] (d1.steps.take j) 0 d1.safe
    have hjt : 0 + (d1.steps.take j).length = j := by simp; omega
    rw [hjt, ← htk] at hsnoc
    have x23' := (x11.trans x18).trans (x20.trans x23)
    cases hs : so j d1.steps[j] with
    | true =>
      rw [hs, if_pos rfl] at hsnoc
      refine ifT_t ⟨_, _, h23.ow.ldN 0 rfl rfl rfl, onM_s (hld h23) ?_⟩
      have hFV := (h23.V.safe d1.steps[j].file).1
      refine s49 (a := 1) (b := 2) (s := (settleL so 0 (d1.steps.take j) d1.safe).1) hh h23.ow rfl rfl (by decide) h23.f1 hx64 ⟨hxV.2.1, by have := hxV.2.2.1; omega⟩ (by have : ((settleL so 0 (d1.steps.take j) d1.safe).1.files d1.steps[j].file).length ≤ 4096 := hFV; omega) fun w31 es' st31 x31 hF31 => ⟨rfl, ?_⟩
      let i31 : DI := { i11 with e1 := es' }
      have x31 : Xt (dkU D i11 ((b17, .row d1.steps[j].cells) :: (lf, lo) :: L)) w23 (dkU D i31 ((b17, .row d1.steps[j].cells) :: (lf, lo) :: L)) w31 := x31
      have h31 : Dk A I w0 w31 D i31 { d1 with safe := (settleL so 0 (d1.steps.take j) d1.safe).1.does d1.steps[j] } k ((b17, .row d1.steps[j].cells) :: (lf, lo) :: L) :=
        ⟨st31, h23.st, hF31, h23.f2.x x31, ⟨h23.V.steps, h23.V.sv, FS.V.does vS hxV, h23.V.now, h23.V.last⟩, h27⟩
      obtain ⟨h32, x32, _⟩ := h31.drop
      refine ih (d1.steps.length - (j + 1)) (by omega) _ _ ⟨j + 1, left, lf, lo, i31, by omega, rfl, by rw [wi_eq (by omega) (by omega)]; rfl, esv, by rw [hsnoc]; exact h32, by rw [hsnoc]; exact hsv, (x23'.trans x31).trans x32⟩
    | false =>
      rw [hs, if_neg (by simp)] at hsnoc
      refine ifT_f (onM_s (hld h23) ?_)
      refine gd_t (Stp.all _) (gd_t (by rw [hx69]; rfl) (h23.new' fun b34 w35 h35 x35 => ?_))
      rw [listPut_all (by rw [zstep_length, hx69])] at h35
      obtain ⟨h36, x36, _, hb36⟩ := h35.drop
      have hb36 : Box w35 b34 d1.steps[j].cells := hb36
      obtain ⟨h37, x37, _⟩ := h36.drop
      refine h37.accL 0 rfl hsv (by decide) (hb36.rs hx69) (by rw [hgl, Nat.mul_div_cancel _ (by decide)]; omega) (by rw [hgl, Nat.mul_div_cancel _ (by decide)]; omega) fun left' lf' lo' w37 h38 x38 hsv' => ?_
      have e : stpsC (settleL so 0 (d1.steps.take j) d1.safe).2 ++ d1.steps[j].cells = stpsC ((settleL so 0 (d1.steps.take j) d1.safe).2 ++ [d1.steps[j]]) := by rw [stpsC_append]; simp [stpsC]
      rw [e] at hsv'
      refine ih (d1.steps.length - (j + 1)) (by omega) _ _ ⟨j + 1, left', lf', lo', i11, by omega, rfl, by rw [wi_eq (by omega) (by omega)]; rfl, esv, by rw [hsnoc]; exact h38, by rw [hsnoc]; exact hsv', (((x23'.trans x35).trans x36).trans x37).trans x38⟩
  · have : j = d1.steps.length := by omega
    subst this
    rw [List.take_length] at h11 hsv vL hvN
    refine gd_t hsv.ok (h11.stepsTo hsv hvN vL fun i2 w40 h40 x40 => hK i2 w40 h40 ((x3.trans x11).trans x40))
theorem s30 {a : Byts} {n : Int} (hh : HK hk) (h : Dk A I w0 w D i d k L) (hkk : k + 1 < 2 ^ 27) (hK : Od A I w0 w D i L (d.cut a n) (k + 1) K) : Cl Try.prog hk 30 [.ptr D 0, .str a, .int .i64 n] w K := by
  apply in30 (hh.no _ _ _ (by decide) (by decide))
  unfold F30
  refine s40 hh h ⟨_, _, rfl, ?_⟩
  unfold Dsk.cut at hK
  cases hg : nget d.now.names a with
  | none => rw [hg] at hK; exact ifT_nd (fun _ => Od.now h hK (by omega) hkk) fun h => by cases h
  | some f =>
    rw [hg] at hK
    refine ifT_nd (fun h => absurd rfl h) fun _ => ?_
    simp only [Option.getD_some] at hK ⊢
    obtain ⟨v, hlk, hsl⟩ := h.f2.look f
    refine ifT_d (fun hn => ?_) fun hn => ?_
    · rw [if_pos (.inl hn)] at hK; exact Od.now h hK (by omega) hkk
    simp only [onP]
    refine onM_s (h.ow.ld 0 rfl rfl) (onM_s ((h.ow.look 4 rfl (h.f2.like _)).trans hlk) ⟨_, hsl.len', ifT_d (fun hlt => ?_) fun hlt => ?_⟩)
    · rw [if_pos (.inr hlt)] at hK; exact Od.now h hK (by omega) hkk
    rw [if_neg (by omega)] at hK
    have hnl := (h.V.now f).1
    refine h.new' fun b w1 h1 x1 => ?_
    obtain ⟨h2, x2, hA, hb⟩ := h1.drop
    have hst : stepC (.int .i64 2) (.int .i64 f) (.int .i64 n) z64 (.str []) (.str []) = Stp.cells ⟨2, f, n, zsec, [], []⟩ := by rw [z64_eq]; rfl
    have hb : Box w1 b (stepC (.int .i64 2) (.int .i64 f) (.int .i64 n) z64 (.str []) (.str [])) := hb
    rw [hst] at hb
    refine s42 (l := [⟨2, f, n, zsec, [], []⟩]) hh h2 (fun x hx => ?_) (by simpa using hkk) (Box.rd1 hb hA ⟨rfl, by simp [zsec]⟩) fun i' w' h' x' => ⟨_, rfl, hK i' w' h' ((x1.trans x2).trans x')⟩
    simp at hx; subst hx
    exact ⟨by simp [zsec], by show 0 ≤ n; omega, by show n ≤ 4096; omega, fun e => by cases e⟩
theorem s31 {a : Byts} (hh : HK hk) (h : Dk A I w0 w D i d k L) (hkk : k + 1 < 2 ^ 27) (hK : Od A I w0 w D i L (d.remove a) (k + 1) K) : Cl Try.prog hk 31 [.ptr D 0, .str a] w K := by
  apply in31 (hh.no _ _ _ (by decide) (by decide))
  unfold F31
  refine s40 hh h ⟨_, _, rfl, ?_⟩
  unfold Dsk.remove at hK
  cases hg : nget d.now.names a with
  | none => rw [hg] at hK; exact ifT_nd (fun _ => Od.now h hK (by omega) hkk) fun h => by cases h
  | some f =>
    rw [hg] at hK
    refine ifT_nd (fun h => absurd rfl h) fun _ => ?_
    simp only [Option.getD_some] at hK ⊢
    refine h.new' fun b w1 h1 x1 => ?_
    obtain ⟨h2, x2, hA, hb⟩ := h1.drop
    have hst : stepC (.int .i64 4) (.int .i64 f) (.int .i64 0) z64 (.str a) (.str []) = Stp.cells ⟨4, f, 0, zsec, a, []⟩ := by rw [z64_eq]; rfl
    have hb : Box w1 b (stepC (.int .i64 4) (.int .i64 f) (.int .i64 0) z64 (.str a) (.str [])) := hb
    rw [hst] at hb
    refine s42 (l := [⟨4, f, 0, zsec, a, []⟩]) hh h2 (fun x hx => ?_) (by simpa using hkk) (Box.rd1 hb hA ⟨rfl, by simp [zsec]⟩) fun i' w' h' x' => ⟨_, rfl, hK i' w' h' ((x1.trans x2).trans x')⟩
    simp at hx; subst hx
    exact ⟨by simp [zsec], Int.le_refl 0, by show (0 : Int) ≤ 4096; omega, fun e => by cases e⟩
theorem s15 {a b : Byts} (hh : HK hk) (h : Dk A I w0 w D i d k L) (hkk : k + 1 < 2 ^ 27) (hK : Od A I w0 w D i L (d.rename a b) (k + 1) K) : Cl Try.prog hk 15 [.ptr D 0, .str a, .str b] w K := by
  apply in15 (hh.no _ _ _ (by decide) (by decide))
  unfold F15
  refine s40 hh h ⟨_, _, rfl, ?_⟩
  unfold Dsk.rename at hK
  refine ifT_d (fun e => by split at e <;> cases e) fun _ => s41 hh ⟨_, rfl, ?_⟩
  cases hn : named b with
  | false => rw [hn] at hK; exact ifT_t (Od.now h hK (by omega) hkk)
  | true =>
    rw [hn] at hK
    simp only [Bool.not_true, Bool.false_eq_true, if_false] at hK
    refine ifT_f ?_
    cases hg : nget d.now.names a with
    | none => rw [hg] at hK; exact ifT_nd (fun _ => Od.now h hK (by omega) hkk) fun h => by cases h
    | some f =>
      rw [hg] at hK
      refine ifT_nd (fun h => absurd rfl h) fun _ => ?_
      simp only [Option.getD_some] at hK ⊢
      by_cases hab : a = b
      · rw [if_pos hab] at hK
        rw [show (a == b) = true by simp [hab]]
        refine ifT_t (s42 (l := []) hh h (by simp) (by simp; omega) Rp.rd.nil fun i' w' h' x' => ⟨_, rfl, hK i' w' (h'.le (by simp) hkk) x'⟩)
      · rw [if_neg hab] at hK
        rw [show (a == b) = false by simp [hab]]
        refine ifT_f (h.new' fun b1 w1 h1 x1 => ?_)
        obtain ⟨h2, x2, hA, hb⟩ := h1.drop
        have hst : stepC (.int .i64 3) (.int .i64 f) (.int .i64 0) z64 (.str a) (.str b) = Stp.cells ⟨3, f, 0, zsec, a, b⟩ := by rw [z64_eq]; rfl
        have hb : Box w1 b1 (stepC (.int .i64 3) (.int .i64 f) (.int .i64 0) z64 (.str a) (.str b)) := hb
        rw [hst] at hb
        refine s42 (l := [⟨3, f, 0, zsec, a, b⟩]) hh h2 (fun x hx => ?_) (by simpa using hkk) (Box.rd1 hb hA ⟨rfl, by simp [zsec]⟩) fun i' w' h' x' => ⟨_, rfl, hK i' w' h' ((x1.trans x2).trans x')⟩
        simp at hx; subst hx
        exact ⟨by simp [zsec], Int.le_refl 0, by show (0 : Int) ≤ 4096; omega, fun e => by cases e⟩
theorem s16 (hh : HK hk) (h : Dk A I w0 w D i d k L) (hK : Od A I w0 w D i L d.syncNames k K) : Cl Try.prog hk 16 [.ptr D 0] w K := by
 apply in16 (hh.no _ _ _ (by decide) (by decide))
 unfold F16
 refine s47 hh (h.ow.ld 0 rfl rfl) ⟨false,rfl,ifT_f ?_⟩
 refine s45 (P := fun _ => True) (so := fun _ x => decide (x.what ≠ 1) && decide (x.what ≠ 2)) hh h (fun _ _ => trivial) ?_ fun i' w' h' x' => ⟨_,rfl,hK i' w' h' x'⟩
 intro j x w hj hx hm _ K' hK'
 show Cl Try.prog hk 48 [.int .i64 (j : Int),.agg x.cells] w K'
 apply in48 (hh.no _ _ _ (by decide) (by decide))
 unfold F48
 simp only [onA]
 refine gd_t x.all (new_of hm fun w4 f4 b4 z4 => ⟨x.what,by rw [b4.ld]; rfl,?_⟩)
 have h4 : K' (.bool (decide (x.what ≠ 1) && decide (x.what ≠ 2))) w4 := hK' w4 f4
 refine ifT_nd (fun e => ⟨x.what,by rw [b4.ld]; rfl,?_⟩) fun e => ?_
 ·rw [decide_eq_true e,Bool.true_and] at h4
  have : (!decide (x.what = 2)) = decide (x.what ≠ 2) := by simp
  rw [this]; exact h4
 ·rw [decide_eq_false (p := x.what ≠ 1) (by simpa using e),Bool.false_and] at h4; exact h4
theorem s44 {x : Stp} {b6 : Nat} {f : Int} (hh : HK hk) (hm : Mem w) (hb : Box w b6 [.int .i64 f]) (hK : ∀ w',Fr w.size w w' → K (.bool (decide (x.file = f) && decide (x.what = 0))) w') : Cl Try.prog hk 44 [.agg x.cells,.ptr b6 0] w K := by
 apply in44 (hh.no _ _ _ (by decide) (by decide))
 unfold F44
 simp only [onA,onP]
 refine gd_t x.all (new_of hm fun w4 f4 b4 z4 => ⟨x.file,by rw [b4.ld]; rfl,f,by rw [(hb.fr f4 (hb.lt hm)).ld]; rfl,?_⟩)
 have hK4 := hK w4 f4
 refine ifT_d (fun e => ⟨x.what,by rw [b4.ld]; rfl,?_⟩) fun e => ?_
 ·rw [decide_eq_true e,Bool.true_and] at hK4; exact hK4
 ·rw [decide_eq_false e,Bool.false_and] at hK4; exact hK4
theorem s43 {l : List Stp} {v : AV} {b6 : Nat} {f : Int} (hh : HK hk) (hm : Mem w) (hl : ∀ x ∈ l, x.data.length = 64) (hll : l.length < 2 ^ 40) (hv : Rs w 69 l.length v (stpsC l)) (hb : Box w b6 [.int .i64 f]) (hK : ∀ w', Fr w.size w w' → K (.int .i64 (upto f l)) w') :
    Cl Try.prog hk 43 [v, .func 44 [] [.ptr b6 0]] w K := by
  apply in43 (hh.no _ _ _ (by decide) (by decide))
  unfold F43
  refine ⟨_, hv.len, ?_⟩
  refine loopP_ind (fun m lv w5 => ∃ j : Nat, j ≤ l.length ∧ m = l.length - j ∧ lv = [.int .i64 j] ∧ Fr w.size w w5 ∧ ∀ i (hi : i < l.length), i < j → (decide (l[i].file = f) && decide (l[i].what = 0)) = false) ?_ ⟨0, Nat.zero_le _, rfl, rfl, Fr.refl hm, fun i _ h => by omega⟩
  rintro m lv w5 ⟨j, hj, rfl, rfl, f5, hno⟩ R ih
  refine ⟨_, rfl, fun _ => ifT_d (fun hc => ?_) fun hc => ?_⟩
  · have hjl : j < l.length := by omega
    refine (hv.fr hm f5 (Nat.le_refl _)).at (i := (j : Int)) (by omega) (by omega) fun bb oo _ hN => ?_
    have hN : ldN 69 w5 bb oo = some (.agg l[j].cells) := by rw [hN]; exact congrArg (fun t => some (AV.agg t)) (stpsC_at hl hjl)
    refine onM_s hN ?_
    show Cl Try.prog hk 44 [.agg l[j].cells, .ptr b6 0] w5 _
    refine s44 hh f5.mem (hb.fr f5 (hb.lt hm)) fun w11 f11 => ⟨_, rfl, ?_⟩
    have f011 := f5.trans f11 f5.size
    cases hp : (decide (l[j].file = f) && decide (l[j].what = 0)) with
    | true =>
      refine ifT_t ?_
      have : upto f l = j := by
        unfold upto
        have : l.findIdx? (fun x => decide (x.file = f) && decide (x.what = 0)) = some j := by
          rw [List.findIdx?_eq_some_iff_getElem]
          exact ⟨hjl, hp, fun i hi => by rw [hno i (by omega) hi]; simp⟩
        rw [this]
      rw [← this]; exact hK w11 f011
    | false =>
      refine ifT_f (ih (l.length - (j + 1)) (by omega) _ _ ⟨j + 1, by omega, rfl, by rw [wi_eq (by omega) (by omega)]; rfl, f011, fun i hi hij => ?_⟩)
      by_cases h : i = j
      · subst h; exact hp
      · exact hno i hi (by omega)
  · have : upto f l = -1 := by
      unfold upto
      have : l.findIdx? (fun x => decide (x.file = f) && decide (x.what = 0)) = none := by
        rw [List.findIdx?_eq_none_iff]
        intro x hx
        obtain ⟨i, hi, rfl⟩ := List.getElem_of_mem hx
        exact hno i hi (by omega)
      rw [this]
    rw [this] at hK
    exact hK w5 f5
theorem s13 {a : Byts} (hh : HK hk) (h : Dk A I w0 w D i d k L) (hK : Od A I w0 w D i L (d.sync a) k K) : Cl Try.prog hk 13 [.ptr D 0, .str a] w K := by
  apply in13 (hh.no _ _ _ (by decide) (by decide))
  unfold F13
  refine s40 hh h ⟨_, _, rfl, h.new' fun b6 w7 h7 x7 => h7.wr 0 rfl (by simp) fun w8 h8 x8 => ?_⟩
  have h8 : Dk A I w0 w8 D i d k ((b6, .row [.int .i64 ((nget d.now.names a).getD 0)]) :: L) := h8
  unfold Dsk.sync at hK
  cases hg : nget d.now.names a with
  | none =>
    rw [hg] at hK
    obtain ⟨h9, x9, _⟩ := h8.drop
    exact ifT_nd (fun _ => Od.now h9 (hK.x ((x7.trans x8).trans x9)) (Nat.le_refl _) h.k27) fun h => by cases h
  | some f =>
    rw [hg] at hK h8
    refine ifT_nd (fun h => absurd rfl h) fun _ => ?_
    simp only [Option.getD_some] at hK h8 ⊢
    simp only [onP]
    refine onM_s (h8.ow.ld 0 rfl rfl) ?_
    have hbx : ∀ {w : AW} {Lx : Obs}, Ow A I w0 w Lx → (b6, Ob.row [.int .i64 f]) ∈ Lx → Box w b6 [.int .i64 f] := fun st hp => (st.box _ hp rfl).1
    refine s43 hh h8.ow.mem h8.sd (by have := h.V.steps; have := h.k27; omega) h8.rs (hbx h8.ow (by unfold dkL; simp)) fun w13 f13 => ⟨_, rfl, ?_⟩
    obtain ⟨h13, x13⟩ := h8.fr f13
    refine h13.new' fun b15 w16 h16 x16 => h16.wr 0 rfl (by simp) fun w17 h17 x17 => ?_
    have h17 : Dk A I w0 w17 D i d k ((b15, .row [.int .i64 (upto f d.steps)]) :: (b6, .row [.int .i64 f]) :: L) := h17
    refine s45 (P := fun w => Box w b6 [.int .i64 f] ∧ Box w b15 [.int .i64 (upto f d.steps)]) (so := fun i x => if x.what = 1 ∨ x.what = 2 then decide (x.file = f) else decide ((i : Int) ≤ upto f d.steps)) hh h17 (fun st hp => ⟨(st.box _ (hp (b6, .row [.int .i64 f]) (by simp)) rfl).1, (st.box _ (hp (b15, .row [.int .i64 (upto f d.steps)]) (by simp)) rfl).1⟩) ?_ fun i' w' h' x' => ⟨_, rfl, ?_⟩
    · intro j x w' hj hx hm' ⟨q8, q17⟩ K' hK'
      show Cl Try.prog hk 46 [.int .i64 (j : Int), .agg x.cells, .ptr b6 0, .ptr b15 0] w' K'
      apply in46 (hh.no _ _ _ (by decide) (by decide))
      unfold F46
      simp only [onA, onP]
      refine gd_t x.all (new_of hm' fun w6 f6 b6' z6 => ⟨x.what, by rw [b6'.ld]; rfl, ?_⟩)
      have hK6 : K' (.bool (if x.what = 1 ∨ x.what = 2 then decide (x.file = f) else decide ((j : Int) ≤ upto f d.steps))) w6 := hK' w6 f6
      have q8' := q8.fr f6 (q8.lt hm')
      have q17' := q17.fr f6 (q17.lt hm')
      refine ifT_d (fun e1 => ⟨x.file, by rw [b6'.ld]; rfl, f, by rw [q8'.ld]; rfl, ?_⟩) fun e1 => ⟨x.what, by rw [b6'.ld]; rfl, ifT_d (fun e2 => ⟨x.file, by rw [b6'.ld]; rfl, f, by rw [q8'.ld]; rfl, ?_⟩) fun e2 => ⟨_, by rw [q17'.ld]; rfl, ?_⟩⟩
      · rw [if_pos (.inl e1)] at hK6; exact hK6
      · rw [if_pos (.inr e2)] at hK6; exact hK6
      · rw [if_neg (by simp [e1, e2])] at hK6; exact hK6
    · obtain ⟨h18, x18, _⟩ := h'.drop
      obtain ⟨h19, x19, _⟩ := h18.drop
      exact hK i' w' h19 (((((((x7.trans x8).trans x13).trans x16).trans x17).trans x').trans x18).trans x19)
theorem s28 (hh : HK hk) (h : Dk A I w0 w D i d k L) (hK : K (.int .i64 d.steps.length) w) : Cl Try.prog hk 28 [.ptr D 0] w K := by
 apply in28 (hh.no _ _ _ (by decide) (by decide))
 unfold F28
 refine s47 hh (h.ow.ld 0 rfl rfl) ⟨false,rfl,ifT_f ?_⟩
 simp only [onP]
 exact onM_s (h.ow.ld 0 rfl rfl) ⟨_,h.rs.len,hK⟩
theorem s32 {n : Int} (hh : HK hk) (h : Dk A I w0 w D i d k L) (hK : Od A I w0 w D i L (if n < 0 then (d,2) else ({ d with arm := wi (imin n 4611686018427387904 + 1) },0)) k K) : Cl Try.prog hk 32 [.ptr D 0,.int .i64 n] w K := by
 apply in32 (hh.no _ _ _ (by decide) (by decide))
 unfold F32
 refine s47 hh (h.ow.ld 0 rfl rfl) ⟨false,rfl,ifT_f (ifT_d (fun h0 => ?_) fun h0 => ?_)⟩
 ·rw [if_pos h0] at hK; exact Od.now h hK (Nat.le_refl _) h.k27
 ·rw [if_neg h0] at hK
  simp only [onP,be]
  refine s51 hh (h.put (d' := { d with arm := wi (imin n 4611686018427387904 + 1) }) (by simp) rfl rfl rfl rfl ⟨h.V.steps,h.V.sv,h.V.safe,h.V.now,h.V.last⟩ h.k27 fun w' h' x' => ⟨rfl,hK i w' h' x'⟩)
theorem s33 {n e : Int} (hh : HK hk) (h : Dk A I w0 w D i d k L) (hK : Od A I w0 w D i L (if n < 0 ∨ (e ≠ 4 ∧ e ≠ 5) then (d,2) else ({ d with fault := wi (imin n 4611686018427387904 + 1),wth := e },0)) k K) : Cl Try.prog hk 33 [.ptr D 0,.int .i64 n,.int .i64 e] w K := by
 apply in33 (hh.no _ _ _ (by decide) (by decide))
 unfold F33
 refine join_of (fun lv w' => lv = [] ∧ w' = w ∧ 0 ≤ n ∧ (e = 4 ∨ e = 5)) ?_ ?_
 ·rintro _ _ ⟨rfl,rfl,h0,he⟩
  rw [if_neg (by omega)] at hK
  refine ⟨rfl,fun _ => ?_⟩
  simp only [onP,be]
  refine s51 hh (h.put (d' := { d with fault := wi (imin n 4611686018427387904 + 1) }) (by simp) rfl rfl rfl rfl ⟨h.V.steps,h.V.sv,h.V.safe,h.V.now,h.V.last⟩ h.k27 fun w' h' x' => ⟨rfl,?_⟩)
  exact h'.put (d' := { d with fault := wi (imin n 4611686018427387904 + 1),wth := e }) (by simp) rfl rfl rfl rfl ⟨h.V.steps,h.V.sv,h.V.safe,h.V.now,h.V.last⟩ h.k27 fun w2 h2 x2 => hK i w2 h2 (x'.trans x2)
 ·intro J hJ
  refine s47 hh (h.ow.ld 0 rfl rfl) ⟨false,rfl,ifT_f (ifT_d (fun h0 => ?_) fun h0 => ifT_nd (fun h4 => ifT_nd (fun h5 => ?_) fun h5 => hJ _ _ ⟨rfl,rfl,by omega,.inr h5⟩) fun h4 => hJ _ _ ⟨rfl,rfl,by omega,.inl h4⟩)⟩
  ·rw [if_pos (.inl h0)] at hK; exact Od.now h hK (Nat.le_refl _) h.k27
  ·rw [if_pos (.inr ⟨h4,h5⟩)] at hK; exact Od.now h hK (Nat.le_refl _) h.k27
theorem s18 {a : Byts} (hh : HK hk) (h : Dk A I w0 w D i d k L) (hK : ∀ v w', Fr w.size w w' → Ga rU (fz A (dkU D i L)) w w' v (d.read a).1 → K (.tup [v, .int .i64 (d.read a).2]) w') : Cl Try.prog hk 18 [.ptr D 0, .str a] w K := by
  apply in18 (hh.no _ _ _ (by decide) (by decide))
  unfold F18
  refine s40 hh h ⟨_, _, rfl, ?_⟩
  have hm := h.ow.mem
  unfold Dsk.read at hK
  cases hg : nget d.now.names a with
  | none => rw [hg] at hK; exact ifT_nd (fun _ => hK .nilslice w (Fr.refl hm) Ga.nil) fun h => by cases h
  | some f =>
    rw [hg] at hK
    refine ifT_nd (fun h => absurd rfl h) fun _ => ?_
    simp only [Option.getD_some, onP] at hK ⊢
    refine ⟨d.down, h.ow.ld 0 rfl rfl, ?_⟩
    cases hd : d.down with
    | true => rw [hd, if_pos rfl] at hK; exact ifT_t (hK .nilslice w (Fr.refl hm) Ga.nil)
    | false =>
      rw [hd] at hK
      simp only [Bool.false_eq_true, if_false] at hK
      obtain ⟨v, hlk, hsl⟩ := h.f2.look f
      refine ifT_f (onM_s (h.ow.ld 0 rfl rfl) (onM_s ((h.ow.look 4 rfl (h.f2.like _)).trans hlk) ⟨_, hsl.len', ?_⟩))
      have hlen := (h.V.now f).1
      have hl64 := (h.V.now f).2
      have pv : Pv (fz A (dkU D i L)) w := h.ow.P
      generalize d.now.files f = l at *
      refine loopP_ind (fun m lv w16 => ∃ (i1 : Nat) (out : AV), i1 ≤ l.length ∧ m = l.length - i1 ∧ lv = [out, .int .i64 i1] ∧ Ow (fz A (dkU D i L)) [] w w16 [] ∧ Xw [] w [] w16 ∧ Ga rU (fz (fz A (dkU D i L)) []) w w16 out (l.take i1).flatten) ?_ ⟨0, .nilslice, Nat.zero_le _, rfl, rfl, pv.st, Xw.refl, by rw [List.take_zero]; exact Ga.nil⟩
      rintro m lv w16 ⟨i1, out, hi, rfl, rfl, so16, x16, hg16⟩ R ih
      have hs16 := hsl.inn.y x16
      refine ⟨_, _, rfl, fun _ => ifT_d (fun hc => ?_) fun hc => ?_⟩
      · have hil : i1 < l.length := by omega
        have hx64 : (l[i1]).length = 64 := hl64 _ (List.getElem_mem hil)
        refine hs16.at hil fun bb oo cs hcs _ hN => ?_
        obtain ⟨rfl, _⟩ := hcs
        refine onM_s hN (so16.new' fun b22 w23 so23 x23 => ?_)
        simp only [onA]
        have hcl : (cellsOfBytes l[i1]).length = 64 := by rw [cellsOfBytes_length, hx64]
        have hz64 : z64.length = 64 := by rw [z64_eq, cellsOfBytes_length]; simp [zsec]
        refine gd_t (ok_bytes _) (gd_t (by rw [hcl]; rfl) (so23.put 0 rfl (by rw [hcl, hz64]; omega) fun w25 so25 x25 => ?_))
        rw [listPut_all (by rw [hz64, hcl])] at so25
        have so25 : Ow (fz A (dkU D i L)) [] w w25 [(b22, .row (cellsOfBytes l[i1]))] := so25
        refine onM_s (v := .slice b22 (0 + 0 * 1) (64 - 0) (64 - 0) none) rfl ?_
        obtain ⟨so26, x26, hA26, hb26⟩ := so25.drop
        have hb26 : Box w25 b22 (cellsOfBytes l[i1]) := hb26
        have hrx : (rL rU).rd (fz (fz A (dkU D i L)) []) w25 [.slice b22 0 64 64 none] l[i1] := Box.sl hb26 hA26 hx64.symm (Chk.bytes.2 rfl)
        have hg25 : Ga rU (fz (fz A (dkU D i L)) []) w w25 out (l.take i1).flatten := ((Ga.x x23 so16 hg16).x' x25 so23).x' x26 so25
        have htl : (l.take i1).flatten.length ≤ 4096 * 64 := by
          rw [List.length_flatten]
          have : ∀ (l : List Byts), (∀ s ∈ l, s.length = 64) → (l.map List.length).sum = l.length * 64 := fun l h => by
            induction l with
            | nil => rfl
            | cons a l ih => rw [List.map_cons, List.sum_cons, ih fun s hs => h s (List.mem_cons_of_mem _ hs), h a List.mem_cons_self, List.length_cons]; omega
          rw [this _ fun s hs => hl64 s (List.mem_of_mem_take hs)]
          have : (l.take i1).length ≤ 4096 := by simp; omega
          omega
        refine Ow.app (r := rU) (bytes := 1) so26 hg25 hrx (by decide) so26.new (by omega) (by omega) fun out' w28 so28 x28 hg28 => ?_
        refine ih (l.length - (i1 + 1)) (by omega) _ _ ⟨i1 + 1, out', by omega, rfl, by rw [wi_eq (by omega) (by omega)]; rfl, so28, (((x16.trans x23.xw).trans x25.xw).trans x26.xw).trans x28, ?_⟩
        have e : l.take (i1 + 1) = l.take i1 ++ [l[i1]] := (List.take_append_getElem hil).symm
        rw [e, List.flatten_append, show [l[i1]].flatten = l[i1] by simp]
        exact hg28
      · have : i1 = l.length := by omega
        subst this
        rw [List.take_length] at hg16
        exact hK out w16 so16.fr hg16.out
end
end Go.Proofs.Ytbjeebgdjlemjaa
/-
 Put and New of the disk,over memory,with its own blocks.
 No condition beyond those that each theorem names.
-/
set_option linter.unusedSimpArgs false
open Go.Sx
set_option linter.unusedVariables false
namespace Go.Proofs.Ytbjeebgdjlemjaa
theorem listPut_step (a b c n t : AV) {cs : List AV} (h : cs.length = 64) : listPut (stepC a b c z64 n t) 3 cs = stepC a b c cs n t := by
 have hz : z64.length = 64 := by rw [z64_eq,cellsOfBytes_length]; simp [zsec]
 show listPut (a :: b :: c :: (z64 ++ [n,t])) 3 cs = a :: b :: c :: (cs ++ [n,t])
 simp only [listPut,List.take_succ_cons,List.take_zero,List.cons_append,List.nil_append]
 rw [h,show 3 + 64 = 64 + 1 + 1 + 1 by omega]
 simp only [List.drop_succ_cons]
 rw [List.drop_left' hz]
section
variable {hk : Hook} {A B : Nat → Prop} {I : List Nat} {w0 w w' : AW} {D : Nat} {i i' : DI} {d d' : Dsk} {k k' : Nat} {L L' : Obs} {K : AV → AW → Prop}
theorem s39 (hh : HK hk) (st : Ow A I w0 w L) (hK : ∀ m1 m2 w',Ow A I w0 w' ((m2,.map []) :: (m1,.map []) :: L) → Xt (ids L) w (m2 :: m1 :: ids L) w' → K (.agg [.map m1,.map m2]) w') : Cl Try.prog hk 39 [] w K := by
 apply in39 (hh.no _ _ _ (by decide) (by decide))
 unfold F39
 refine st.new' fun b w1 st1 x1 => st1.newMap' fun m1 w3 st3 x3 => st3.newMap' fun m2 w5 st5 x5 => st5.put 2 rfl (by simp) fun w6 st6 x6 => ⟨_,_,st6.ldN 2 rfl rfl rfl,?_⟩
 obtain ⟨st7,x7⟩ := st6.front 2 rfl
 obtain ⟨st8,x8,_⟩ := st7.drop
 exact hK m1 m2 w6 st8 (((((x1.trans x3).trans x5).trans x6).trans x7).trans x8)
theorem s10 (hh : HK hk) (st : Ow A I w0 w L) (hK : ∀ D i w',Dk A I w0 w' D i Dsk.none 0 L → Xt (ids L) w (dkU D i L) w' → K (.ptr D 0) w') : Cl Try.prog hk 10 [] w K := by
 apply in10 (hh.no _ _ _ (by decide) (by decide))
 unfold F10
 refine s39 hh st fun n1 f1 w1 st1 x1 => ⟨_,_,rfl,?_⟩
 refine s39 hh st1 fun n2 f2 w5 st5 x5 => ⟨_,_,rfl,gd_t rfl (st5.new' fun D w9 st9 x9 => ?_)⟩
 obtain ⟨st11,x11⟩ := st9.room.front 2 rfl
 obtain ⟨st12,x12⟩ := st11.front 3 rfl
 obtain ⟨st13,x13⟩ := st12.front 4 rfl
 obtain ⟨st14,x14⟩ := st13.front 5 rfl
 obtain ⟨st15,x15⟩ := st14.front 5 rfl
 let i : DI := ⟨n1,f1,n2,f2,0,.none,.nilslice,[],[]⟩
 have xx : Xt (ids L) w (dkU D i L) w9 := (((((((x1.trans x5).trans x9).trans x11).trans x12).trans x13).trans x14).trans x15)
 exact hK D i w9 ⟨st15,Sv.nil,FEn.none,FEn.none,Dsk.V.none,by decide⟩ xx
theorem s11 {a data : Byts} {at_ : Int} {dv : AV} (hh : HK hk) (h : Dk A I w0 w D i d k L) (hkk : k + 2 < 2 ^ 27) (hd : RsB w dv data) (hK : Od A I w0 w D i L (d.put a at_ data) (k + 2) K) : Cl Try.prog hk 11 [.ptr D 0, .str a, .int .i64 at_, dv] w K := by
  apply in11 (hh.no _ _ _ (by decide) (by decide))
  unfold F11
  refine s40 hh h ⟨_, _, rfl, ?_⟩
  unfold Dsk.put at hK
  have hnowl := fun f => (h.V.now f).1
  -- the steps
  refine join_of (fun lv w9 => lv = [] ∧ w9 = w ∧ data.length = 64 ∧ 0 ≤ at_ ∧ at_ < 4096 ∧ Od A I w0 w D i L (match nget d.now.names a with
      | some f => d.more [⟨1, f, at_, data, [], []⟩]
      | Option.none => if (d.more [⟨0, d.last + 1, 0, zsec, a, []⟩, ⟨1, d.last + 1, at_, data, [], []⟩]).2 ≠ 0 then d.more [⟨0, d.last + 1, 0, zsec, a, []⟩, ⟨1, d.last + 1, at_, data, [], []⟩] else ({ (d.more [⟨0, d.last + 1, 0, zsec, a, []⟩, ⟨1, d.last + 1, at_, data, [], []⟩]).1 with last := d.last + 1 }, 0)) (k + 2) K) ?_ ?_
  · rintro lv w9 ⟨rfl, rfl, hdl, ha0, ha1, hK⟩
    refine ⟨rfl, fun _ => ?_⟩
    have hs2p : ∃ b o, s2p 64 dv = some (.ptr b o) ∧ ldN 64 w9 b o = some (.agg (cellsOfBytes data)) := by
      rcases hd with ⟨rfl, h2, _⟩ | ⟨b, o, cap, ex, all, rfl, h2, h3, h4⟩
      · omega
      · refine ⟨b, o, ?_, ?_⟩
        · simp only [s2p, hdl]; rfl
        · simp only [ldN, h2, Option.bind_some]
          rw [takeCells_some (by omega), h4, hdl]; rfl
    obtain ⟨b, o, h1, h2⟩ := hs2p
    rw [atP_iff]
    refine ⟨b, o, h1, onM_s h2 ?_⟩
    simp only [onA, onP]
    have hcl : (cellsOfBytes data).length = 64 := by rw [cellsOfBytes_length, hdl]
    refine gd_t (by rw [hcl]; rfl) (h.new' fun b15 w16 h16 x16 => ?_)
    rw [listPut_step _ _ _ _ _ hcl]
    have hst : stepC (.int .i64 1) (.int .i64 ((nget d.now.names a).getD 0)) (.int .i64 at_) (cellsOfBytes data) (.str []) (.str []) = Stp.cells ⟨1, (nget d.now.names a).getD 0, at_, data, [], []⟩ := rfl
    rw [hst]
    have h69 : (Stp.cells ⟨1, (nget d.now.names a).getD 0, at_, data, [], []⟩).length = 69 := Stp.length hdl
    refine gd_t (Stp.all _) (gd_t (by rw [h69]; rfl) (h16.wr 0 rfl (by rw [zstep_length, h69]; omega) fun w17 h17 x17 => ?_))
    rw [listPut_all (by rw [zstep_length, h69])] at h17
    have h17 : Dk A I w0 w17 D i d k ((b15, .row (Stp.cells ⟨1, (nget d.now.names a).getD 0, at_, data, [], []⟩)) :: L) := h17
    cases hg : nget d.now.names a with
    | some f =>
      rw [hg] at hK h17 h69
      refine ifT_d (fun _ => ?_) fun h => absurd rfl h
      simp only [Option.getD_some] at hK h17 h69 ⊢
      refine onM_s (h17.ow.ldN 6 rfl (by rw [h69]; rfl) (by rw [List.drop_zero, List.take_of_length_le (by omega)])) ?_
      simp only []
      refine gd_t (Stp.all _) (gd_t (by rw [h69]; rfl) (h17.new' fun b20 w21 h21 x21 => ?_))
      rw [listPut_all (by rw [zstep_length, h69])] at h21
      obtain ⟨h22, x22, hA22, hb22⟩ := h21.drop
      obtain ⟨h23, x23, _⟩ := h22.drop
      have hb22 : Box w21 b20 (Stp.cells ⟨1, f, at_, data, [], []⟩) := hb22
      have hone : (rL rStp).rd (fz A (dkU D i L)) w21 [.slice b20 0 1 1 none] [⟨1, f, at_, data, [], []⟩] := (Box.rd1 (r := rStp) (y := ⟨1, f, at_, data, [], []⟩) hb22 hA22 ⟨rfl, hdl⟩).x x23
      refine s42 (l := [⟨1, f, at_, data, [], []⟩]) hh h23 (fun x hx => ?_) (by simp; omega) hone fun i' w' h' x' => ⟨_, rfl, hK i' w' (h'.le (by simp) hkk) (((((x16.trans x17).trans x21).trans x22).trans x23).trans x')⟩
      simp at hx; subst hx
      exact ⟨hdl, ha0, by show at_ ≤ 4096; omega, fun _ => ha1⟩
    | none =>
      rw [hg] at hK h17 h69
      refine ifT_d (fun h => by cases h) fun _ => ?_
      simp only [Option.getD_none] at hK h17 h69 ⊢
      have hlast := h.V.last
      refine ⟨d.last, h17.ow.ld 0 rfl rfl, ?_⟩
      rw [wi_eq (show -9223372036854775808 ≤ d.last + 1 by omega) (by omega)]
      have hput : listPut (Stp.cells ⟨1, 0, at_, data, [], []⟩) (0 + 1) [.int .i64 (d.last + 1)] = Stp.cells ⟨1, d.last + 1, at_, data, [], []⟩ := rfl
      have h69' : (Stp.cells ⟨1, d.last + 1, at_, data, [], []⟩).length = 69 := Stp.length hdl
      refine h17.wr 0 rfl (by rw [h69]; simp) fun w28 h28 x28 => ?_
      rw [hput] at h28
      have h28 : Dk A I w0 w28 D i d k ((b15, .row (Stp.cells ⟨1, d.last + 1, at_, data, [], []⟩)) :: L) := h28
      refine ⟨d.last + 1, h28.ow.ld 6 rfl rfl, onM_s (h28.ow.ldN 6 rfl (by rw [h69']; rfl) (by rw [List.drop_zero, List.take_of_length_le (by omega)])) ?_⟩
      simp only []
      refine gd_t (Stp.all _) (gd_t (by rw [h69']; rfl) (h28.new' fun b32 w33 h33 x33 => ?_))
      have e33 : listPut (stepC (.int .i64 0) (.int .i64 (d.last + 1)) (.int .i64 0) z64 (.str a) (.str []) ++ stepC (.int .i64 0) (.int .i64 0) (.int .i64 0) z64 (.str []) (.str [])) 69 (Stp.cells ⟨1, d.last + 1, at_, data, [], []⟩) = stpsC [⟨0, d.last + 1, 0, zsec, a, []⟩, ⟨1, d.last + 1, at_, data, [], []⟩] := by
        have e1 : stepC (.int .i64 0) (.int .i64 (d.last + 1)) (.int .i64 0) z64 (.str a) (.str []) = Stp.cells ⟨0, d.last + 1, 0, zsec, a, []⟩ := by rw [z64_eq]; rfl
        have l1 : (Stp.cells ⟨0, d.last + 1, 0, zsec, a, []⟩).length = 69 := Stp.length (by simp [zsec])
        rw [e1]
        simp only [listPut]
        rw [List.take_left' l1, List.drop_eq_nil_of_le (by rw [List.length_append, l1, zstep_length, h69']; omega), List.append_nil]
        simp [stpsC]
      rw [e33] at h33
      obtain ⟨h34, x34, hA34, hb34⟩ := h33.drop
      obtain ⟨h35, x35, _⟩ := h34.drop
      have hb34 : Box w33 b32 (stpsC [⟨0, d.last + 1, 0, zsec, a, []⟩, ⟨1, d.last + 1, at_, data, [], []⟩]) := hb34
      have htwo : (rL rStp).rd (fz A (dkU D i L)) w33 [.slice b32 0 2 2 none] [⟨0, d.last + 1, 0, zsec, a, []⟩, ⟨1, d.last + 1, at_, data, [], []⟩] :=
        (Box.sl (r := rStp) (n := 2) (cap := 2) hb34 hA34 rfl (hcap := Nat.le_refl 2) (hc := Chk.stps.2 ⟨rfl, fun x hx => by simp at hx; rcases hx with rfl | rfl <;> simp [zsec, hdl]⟩)).x x35
      have x335 := (((((x16.trans x17).trans x28).trans x33).trans x34).trans x35)
      refine s42 (l := [⟨0, d.last + 1, 0, zsec, a, []⟩, ⟨1, d.last + 1, at_, data, [], []⟩]) hh h35 (fun x hx => ?_) (by simp; omega) htwo fun i' w' h' x' => ⟨_, rfl, ?_⟩
      · simp at hx
        rcases hx with rfl | rfl
        · exact ⟨by simp [zsec], Int.le_refl 0, by show (0 : Int) ≤ 4096; omega, fun e => by cases e⟩
        · exact ⟨hdl, ha0, by show at_ ≤ 4096; omega, fun _ => ha1⟩
      · have xall := x335.trans x'
        by_cases he : (d.more [⟨0, d.last + 1, 0, zsec, a, []⟩, ⟨1, d.last + 1, at_, data, [], []⟩]).2 = 0
        · rw [if_neg (by simpa using he)] at hK
          refine ifT_nd (fun h => absurd he h) fun _ => ?_
          have hml : (d.more [⟨0, d.last + 1, 0, zsec, a, []⟩, ⟨1, d.last + 1, at_, data, [], []⟩]).1.last = d.last := by
            unfold Dsk.more
            have := (stopped_same d).2.2.2.1
            split <;> exact this
          refine ⟨(d.more [⟨0, d.last + 1, 0, zsec, a, []⟩, ⟨1, d.last + 1, at_, data, [], []⟩]).1.last, h'.ow.ld 0 rfl rfl, ?_⟩
          rw [hml, wi_eq (show -9223372036854775808 ≤ d.last + 1 by omega) (by omega)]
          refine h'.put (d' := { (d.more [⟨0, d.last + 1, 0, zsec, a, []⟩, ⟨1, d.last + 1, at_, data, [], []⟩]).1 with last := d.last + 1 }) (by simp) rfl rfl rfl rfl ⟨h'.V.steps, h'.V.sv, h'.V.safe, h'.V.now, by simp only [List.length_cons, List.length_nil]; omega⟩ h'.k27 fun w42 h42 x42 => ?_
          exact hK i' w42 h42 (xall.trans x42)
        · rw [if_pos (by simpa using he)] at hK
          exact ifT_nd (fun _ => hK i' w' h' xall) fun h => absurd h he
  · intro J hJ
    have same : ∀ {e : Int}, Od A I w0 w D i L (d, e) (k + 2) K → K (.int .i64 e) w := fun {e} hK => Od.now h hK (by omega) hkk
    refine ifT_d (fun e => by split at e <;> cases e) fun _ => ?_
    -- what is wrong
    refine join_of (fun lv w44 => w44 = w ∧ ∃ b : Bool, lv = [.bool b] ∧ (b = true ↔ ((!named a) = true ∨ data.length ≠ 64 ∨ at_ < 0 ∨ ((d.now.files ((nget d.now.names a).getD 0)).length : Int) < at_ ∨ (nget d.now.names a = Option.none ∧ 0 < at_)))) ?_ ?_
    · rintro lv w44 ⟨rfl, b, rfl, hb⟩
      refine ⟨b, rfl, fun _ => ?_⟩
      cases b with
      | true => rw [if_pos (hb.1 rfl)] at hK; exact ifT_t (same hK)
      | false =>
        have hb' := mt hb.2 (by simp)
        rw [if_neg hb'] at hK
        have m1 : data.length = 64 := Classical.byContradiction fun h => hb' (.inr (.inl h))
        have m2 : 0 ≤ at_ := Classical.byContradiction fun h => hb' (.inr (.inr (.inl (by omega))))
        have m3 : at_ ≤ ((d.now.files ((nget d.now.names a).getD 0)).length : Int) := Classical.byContradiction fun h => hb' (.inr (.inr (.inr (.inl (by omega)))))
        have hl := hnowl ((nget d.now.names a).getD 0)
        refine ifT_f (ifT_d (fun e => ?_) fun e => ?_)
        · rw [if_pos (.inl e)] at hK; exact same hK
        cases hg : nget d.now.names a with
        | some f =>
          rw [hg] at hK
          rw [if_neg (by simp [e])] at hK
          refine ifT_d (fun h => by cases h) fun _ => hJ _ _ ⟨rfl, rfl, m1, m2, by omega, by rw [hg]; exact hK⟩
        | none =>
          rw [hg] at hK
          refine ifT_d (fun _ => ?_) fun h => absurd rfl h
          simp only [onP]
          have hnl : (nEnts d.now.names).length = d.now.names.length := by simp [nEnts]
          refine onM_s (h.ow.ld 0 rfl rfl) ⟨_, h.ow.len 3 rfl, ifT_d (fun h2 => ?_) fun h2 => ?_⟩
          · rw [if_pos (.inr ⟨rfl, by omega⟩)] at hK; exact same hK
          · rw [if_neg (by intro h; rcases h with h | ⟨_, h⟩; exact e h; omega)] at hK
            exact hJ _ _ ⟨rfl, rfl, m1, m2, by omega, by rw [hg]; exact hK⟩
    · intro J2 hJ2
      refine s41 hh ⟨_, rfl, ?_⟩
      cases hn : named a with
      | false => exact ifT_t (hJ2 _ _ ⟨rfl, true, rfl, fun _ => .inl (by rw [hn]; rfl), fun _ => rfl⟩)
      | true =>
        refine ifT_f ⟨_, hd.len, ifT_nd (fun h64 => hJ2 _ _ ⟨rfl, true, rfl, fun _ => .inr (.inl fun e => h64 (by omega)), fun _ => rfl⟩) fun h64 => ?_⟩
        have h64' : data.length = 64 := by omega
        refine ifT_d (fun hneg => hJ2 _ _ ⟨rfl, true, rfl, fun _ => .inr (.inr (.inl hneg)), fun _ => rfl⟩) fun hneg => ?_
        simp only [onP]
        obtain ⟨v, hlk, hsl⟩ := h.f2.look ((nget d.now.names a).getD 0)
        refine onM_s (h.ow.ld 0 rfl rfl) (onM_s ((h.ow.look 4 rfl (h.f2.like _)).trans hlk) ⟨_, hsl.len', ifT_d (fun hlt => hJ2 _ _ ⟨rfl, true, rfl, fun _ => .inr (.inr (.inr (.inl hlt))), fun _ => rfl⟩) fun hlt => ?_⟩)
        have hcl : ((!named a) = true ∨ data.length ≠ 64 ∨ at_ < 0 ∨ ((d.now.files ((nget d.now.names a).getD 0)).length : Int) < at_ ∨ (nget d.now.names a = Option.none ∧ 0 < at_)) ↔ (nget d.now.names a = Option.none ∧ 0 < at_) := by
          refine ⟨fun h => ?_, fun h => .inr (.inr (.inr (.inr h)))⟩
          rcases h with h | h | h | h | h
          · rw [hn] at h; cases h
          · exact absurd h64' h
          · exact absurd h hneg
          · exact absurd h hlt
          · exact h
        by_cases hs : (nget d.now.names a).isSome = true
        · rw [if_pos hs]
          refine ifT_d (fun h => by cases h) fun _ => hJ2 _ _ ⟨rfl, false, rfl, fun h => (by cases h), fun h => ?_⟩
          have := (hcl.1 h).1
          rw [this] at hs; cases hs
        · rw [if_neg hs]
          have hno : nget d.now.names a = Option.none := by
            cases hg : nget d.now.names a with
            | none => rfl
            | some f => rw [hg] at hs; exact absurd rfl hs
          refine ifT_d (fun _ => hJ2 _ _ ⟨rfl, _, rfl, fun h => ?_, fun h => ?_⟩) fun h => absurd rfl h
          · exact hcl.2 ⟨hno, of_decide_eq_true h⟩
          · exact decide_eq_true (hcl.1 h).2
end
end Go.Proofs.Ytbjeebgdjlemjaa
/-
 What a law of chapter 7 asks of the disk besides,over memory.
 No condition beyond those that each theorem names.
-/
set_option linter.unusedSimpArgs false
open Go.Sx
set_option linter.unusedVariables false
namespace Go.Proofs.Ytbjeebgdjlemjaa
theorem repl_eq (n : Nat) (z : AV) : repl n [z] = List.replicate n z := by
 induction n with
 | zero => rfl
 | succ n ih => show [z] ++ repl n [z] = _; rw [ih]; rfl
theorem keysS {ns : List (Byts × Int)} (h : ∀ u ∈ ns, u.1.length ≤ 65536) : kindS.keys (nEnts ns) = some (ns.map (·.1)) := by
  induction ns with
  | nil => rfl
  | cons a ns ih =>
    have h2 := ih fun u hu => h u (List.mem_cons_of_mem _ hu)
    have ha := h a List.mem_cons_self
    have hok : kindS.ok a.1 = true := by
      show Nat.ble a.1.length 65536 = true
      rw [Nat.ble_eq]; exact ha
    show bnd (some a.1) (fun y => bnd (kindS.keys (nEnts ns)) fun l => cond (kindS.ok y) (some (y :: l)) none) = _
    rw [h2]
    show (cond (kindS.ok a.1) (some (a.1 :: ns.map (·.1))) none) = _
    rw [hok]; rfl
theorem insS_length {α : Type} {le : α → α → Bool} {x : α} : ∀ {l : List α}, (insS le x l).length = l.length + 1
  | [] => rfl
  | y :: l => by
    unfold insS
    cases le x y with
    | true => rfl
    | false => simp [insS_length (l := l)]
theorem isort_length {α : Type} {le : α → α → Bool} : ∀ {l : List α}, (isort le l).length = l.length
  | [] => rfl
  | x :: l => by
    show (insS le x (isort le l)).length = _
    rw [insS_length, isort_length]; rfl
def namesOf (d : Dsk) : List Byts := isort kindS.le (d.now.names.map (·.1))
theorem boxB {w : AW} {b n : Nat} {s : Byts} {ex : Option Nat} (h : Box w b (cellsOfBytes s)) (hl : s.length = n) (hx : ex = none ∨ ex = some 1 := by simp) : RsB w (.slice b 0 n n ex) s := by
 subst hl
 exact BS.rs (n0 := 0) (.inr ⟨b,ex,rfl,hx,Nat.zero_le _,h⟩)
section
variable {hk : Hook} {A B : Nat → Prop} {I : List Nat} {w0 w w' : AW} {D : Nat} {i i' : DI} {d d' : Dsk} {k k' : Nat} {L L' : Obs} {K : AV → AW → Prop}
theorem s24 (hh : HK hk) (h : Dk A I w0 w D i d k L) (hn : ∀ u ∈ d.now.names, u.1.length ≤ 65536) (hc : d.now.names.length ≤ 65536)
    (hK : ∀ v w', Fr w.size w w' → (rL rS).rd (fz A (dkU D i L)) w' [v] (namesOf d) → (namesOf d ≠ [] → ∃ c, w.size ≤ c ∧ v = .slice c 0 (namesOf d).length (namesOf d).length (some 1) ∧ Box w' c ((namesOf d).map AV.str)) → K v w') : Cl Try.prog hk 24 [.ptr D 0] w K := by
  apply in24 (hh.no _ _ _ (by decide) (by decide))
  unfold F24
  refine s47 hh (h.ow.ld 0 rfl rfl) ⟨false, rfl, ifT_f ?_⟩
  simp only [onP]
  refine onM_s (h.ow.ld 0 rfl rfl) ?_
  have hm := h.ow.mem
  have hpos := h.ow.P0.pos
  obtain ⟨hN, _⟩ := h.ow.box (i.n2, .map (nEnts d.now.names)) (by unfold dkL; simp) rfl
  obtain ⟨cl, hN⟩ := hN
  have hN : w.get i.n2 = some (.map (nEnts d.now.names) cl) := hN
  refine in56 (hh.no _ _ _ (by decide) (by decide)) (gd_t rfl (new_of hm fun w8 f8 b8 z8 => ?_))
  have hN8 : w8.get i.n2 = some (.map (nEnts d.now.names) cl) := (f8.old _ (hm.lt _ _ hN)).trans hN
  have hbm : boxMap w8 w.size = some i.n2 := by
    unfold boxMap
    have b8 : w8.get w.size = some (.cells [.map i.n2] w.size w.size false) := b8
    rw [b8]
    simp only [Nat.beq_refl, Bool.true_and]
    rw [beq_ff (by omega)]
    rfl
  have hma : mapAt w8 i.n2 = some (nEnts d.now.names, cl) := by unfold mapAt; rw [hN8]; rfl
  have hkl : (d.now.names.map (·.1)).length = d.now.names.length := by simp
  have hhook : hookS kindS 55 76 w8 [.func 76 [] [.ptr w.size 0]] = some (sortedA w8 kindS (d.now.names.map (·.1))) := by
    show cond (Nat.beq 76 76) (bnd (boxMap w8 w.size) fun r => bnd (mapAt w8 r) fun m => bnd (kindS.keys m.1) fun ks => cond (Nat.ble ks.length 65536) (some (sortedA w8 kindS ks)) none) none = _
    rw [hbm]
    show bnd (mapAt w8 i.n2) (fun m => bnd (kindS.keys m.1) fun ks => cond (Nat.ble ks.length 65536) (some (sortedA w8 kindS ks)) none) = _
    rw [hma]
    show bnd (kindS.keys (nEnts d.now.names)) (fun ks => cond (Nat.ble ks.length 65536) (some (sortedA w8 kindS ks)) none) = _
    rw [keysS hn]
    show cond (Nat.ble (d.now.names.map (·.1)).length 65536) _ _ = _
    rw [show Nat.ble (d.now.names.map (·.1)).length 65536 = true by rw [Nat.ble_eq, hkl]; exact hc]
    rfl
  have hnew : ∀ c, w.size ≤ c → fz A (dkU D i L) c := h.ow.P.new
  have hsd : ∃ v10 w10, sortedA w8 kindS (d.now.names.map (·.1)) = (v10, w10) ∧ (rL rS).rd (fz A (dkU D i L)) w10 [v10] (namesOf d) ∧ Fr w8.size w8 w10 ∧ (namesOf d ≠ [] → ∃ c, w8.size ≤ c ∧ v10 = .slice c 0 (namesOf d).length (namesOf d).length (some 1) ∧ Box w10 c ((namesOf d).map AV.str)) := by
    unfold namesOf
    cases hN : d.now.names.map (·.1) with
    | nil => exact ⟨_, _, rfl, Rp.rd.nil, Fr.refl f8.mem, fun h => absurd rfl h⟩
    | cons a as' =>
      have hb : Box (newCells w8 ((isort kindS.le (a :: as')).map kindS.encA)) w8.size ((isort kindS.le (a :: as')).map AV.str) := by simp [Box, newCells, cellsAO]; exact fun _ _ => rfl
      have hl : (isort kindS.le (a :: as')).length = as'.length + 1 := by rw [isort_length]; rfl
      refine ⟨_, _, rfl, Box.sl hb (hnew _ (by omega)) hl.symm (Chk.strs.2 rfl), Fr.push f8.mem fun cs' f own d e => by cases e; exact Nat.le_refl _, fun _ => ⟨_, Nat.le_refl _, by rw [hl], hb⟩⟩
  obtain ⟨v10, w10, hs10, hrs10, f10, hbx⟩ := hsd
  refine Cl_hook (hh.sorted _ _ _ (by rw [hhook, hs10])) (hK v10 w10 (f8.trans f10 (by omega)) hrs10 fun hne => by obtain ⟨c, h1, h2⟩ := hbx hne; exact ⟨c, by omega, h2⟩)
theorem s19 {v v' : AV} {s s' : Byts} (hh : HK hk) (h : RsB w v s) (h' : RsB w v' s') (hK : K (.bool (s == s')) w) : Cl Try.prog hk 19 [v,v'] w K := by
 apply in19 (hh.no _ _ _ (by decide) (by decide))
 exact ⟨_,h.str,_,h'.str,hK⟩
end
end Go.Proofs.Ytbjeebgdjlemjaa
/-
 Crash and Copy of the disk,over memory,with its own blocks.
 No condition beyond those that each theorem names.
-/
set_option linter.unusedSimpArgs false
open Go.Sx
set_option linter.unusedVariables false
namespace Go.Proofs.Ytbjeebgdjlemjaa
section
variable {hk : Hook} {A B : Nat → Prop} {I : List Nat} {w0 w w' : AW} {D : Nat} {i i' : DI} {d d' : Dsk} {k k' : Nat} {L L' : Obs} {K : AV → AW → Prop}
theorem own_or (h : Ow A I w0 w L) {b : Nat} {o : Ob} (hb : o.is w b) (h1 : w0.size ≤ b ∨ b ∈ I) (h2 : b ∉ ids L) (hA : A b) (hz : b ≠ 0) : Ow A I w0 w ((b,o) :: L) :=
 ⟨h.mem,h.pos,h.size,h.old,h.new,fun p hp hr => by
  rcases List.mem_cons.1 hp with rfl | hp
  ·exact ⟨hb,h1,hA,hz⟩
  ·exact h.box p hp hr,nd_cons h.nd fun _ => h2⟩
theorem ow_clone {es : List (AV × AV)} (st : Ow A I w0 w L) : ∃ w',w' = w.push (.map es 0) ∧ Ow A I w0 w' ((w.size,.map es) :: L) ∧ Xt (ids L) w (w.size :: ids L) w' :=
 ⟨_,rfl,st.push (p := (w.size,.map es)) rfl (Fr.push st.mem fun cs f own d e => (by cases e)) (Nat.le_refl _) ⟨0,by simp⟩⟩
set_option maxRecDepth 100000 in
theorem s70 {a n : Nat} {es : List (AV × AV)} (hh : HK hk) (st : Ow A I w0 w L) (ha : nth L a = some (n,.map es)) (hK : ∀ m w',Ow A I w0 w' ((m,.map es) :: L) → Xt (ids L) w (m :: ids L) w' → K (.map m) w') : Cl Try.prog hk 70 [.map n] w K := by
 apply in70 (hh.no _ _ _ (by decide) (by decide))
 unfold F70
 obtain ⟨cl,hg⟩ := (st.box _ (nth_mem ha) rfl).1
 obtain ⟨_,rfl,a1,a2⟩ := ow_clone (es := es) st
 exact ⟨false,by kernel_rfl,ifT_f (Cl_ext (hh.no _ _ _ (by decide) (by decide)) Try.func87 rfl (ext_clone hg) (onM_s (v := .map w.size) (by kernel_rfl) (hK _ _ a1 a2)))⟩
set_option maxRecDepth 100000 in
theorem s71 {a n : Nat} {es : List (AV × AV)} (hh : HK hk) (st : Ow A I w0 w L) (ha : nth L a = some (n,.map es)) (hK : ∀ m w',Ow A I w0 w' ((m,.map es) :: L) → Xt (ids L) w (m :: ids L) w' → K (.map m) w') : Cl Try.prog hk 71 [.map n] w K := by
 apply in71 (hh.no _ _ _ (by decide) (by decide))
 unfold F71
 obtain ⟨cl,hg⟩ := (st.box _ (nth_mem ha) rfl).1
 obtain ⟨_,rfl,a1,a2⟩ := ow_clone (es := es) st
 exact ⟨false,by kernel_rfl,ifT_f (Cl_ext (hh.no _ _ _ (by decide) (by decide)) Try.func87 rfl (ext_clone hg) (onM_s (v := .map w.size) (by kernel_rfl) (hK _ _ a1 a2)))⟩
theorem s50 {a b n f : Nat} {es es2 : List (AV × AV)} (hh : HK hk) (st : Ow A I w0 w L) (ha : nth L a = some (n,.map es)) (hb : nth L b = some (f,.map es2))
  (hK : ∀ n' f' w',Ow A I w0 w' ((f',.map es2) :: (n',.map es) :: L) → Xt (ids L) w (f' :: n' :: ids L) w' → K (.agg [.map n',.map f']) w') : Cl Try.prog hk 50 [.agg [.map n,.map f]] w K := by
 apply in50 (hh.no _ _ _ (by decide) (by decide))
 unfold F50
 refine gd_t rfl (st.new' fun b2 w3 st3 x3 => st3.new' fun b4 w5 st5 x5 => ?_)
 refine onM_s (st5.ld 1 rfl rfl) (onM_s (st5.ld 1 rfl rfl) ?_)
 refine s70 (a := a + 2) hh st5 ha fun n' w9 st9 x9 => ⟨st9.ld 2 rfl rfl,?_⟩
 refine s71 (a := b + 3) hh st9 hb fun f' w11 st11 x11 => gd_t rfl (gd_t rfl (gd_t rfl ?_))
 refine st11.put 2 rfl (by simp) fun w12 st12 x12 => ⟨_,_,st12.ldN 2 rfl rfl rfl,?_⟩
 obtain ⟨st13,x13⟩ := st12.front 2 rfl
 obtain ⟨st14,x14,_⟩ := st13.drop
 obtain ⟨st15,x15⟩ := st14.front 2 rfl
 obtain ⟨st16,x16,_⟩ := st15.drop
 exact hK n' f' w12 st16 (((((((x3.trans x5).trans x9).trans x11).trans x12).trans x13).trans x14).trans (x15.trans x16))
theorem s52 {a f : Nat} {o : Ob} {v : AV} {l : List Stp} (hh : HK hk) (st : Ow A I w0 w L) (ha : nth L a = some (f,o)) (hv : Sv 69 o v (stpsC l)) (hl : ∀ x ∈ l,x.data.length = 64) (hs : l.length < 2 ^ 27)
  (hK : ∀ v' f' o' w',Ow A I w0 w' ((f',o') :: L) → Xt (ids L) w (ids ((f',o') :: L)) w' → Sv 69 o' v' (stpsC l) → K v' w') : Cl Try.prog hk 52 [v] w K := by
 apply in52 (hh.no _ _ _ (by decide) (by decide))
 unfold F52
 have hcl := stpsC_length hl
 have hr := st.sv ha hv (by decide) hcl
 rcases hv with ⟨rfl,h2⟩ | ⟨b,n,ex,rfl,rfl,h2,h3⟩
 ·have hK := hK .nilslice 0 .none w st.room (Xt.refl (U := ids L)) (.inl ⟨rfl,h2⟩)
  exact ⟨true,by kernel_rfl,ifT_t hK⟩
 ·refine ⟨false,by kernel_rfl,ifT_f (st.new' fun b2 w3 st3 x3 => ?_)⟩
  have hb : Box w3 b2 [] := (st3.box _ List.mem_cons_self rfl).1
  have st4 : Ow A I w0 w3 ((b2,.acc b2 []) :: L) := ⟨st3.mem,st3.pos,st3.size,st3.old,st3.new,fun p hp hr => by
   rcases List.mem_cons.1 hp with rfl | hp
   ·exact ⟨⟨⟨_,_,hb⟩,AW.root?_iff.2 ⟨_,hb,rfl⟩⟩,(st3.box _ List.mem_cons_self rfl).2⟩
   ·exact st3.box p (List.mem_cons_of_mem _ hp) hr,st3.nd⟩
  have hr3 : Rs w3 69 l.length (.slice b 0 n n ex) (stpsC l) := by
   have := st3.sv (i := a + 1) ha (.inr ⟨b,n,ex,rfl,rfl,h2,h3⟩) (by decide) hcl
   exact this
  refine st4.accApp 0 (f := b2) (o := .acc b2 []) (cs := []) rfl (.inr ⟨b2,0,none,rfl,rfl,rfl,.inl rfl⟩) (by decide) hr3 (by simp; omega) (by simp; omega) fun v' f' o' w' st5 x5 hs' => ?_
  exact hK v' f' o' w' st5 (x3.trans x5) hs'
theorem s22 (hh : HK hk) (h : Dk A I w0 w D i d k L)
  (hK : ∀ D' i' w',Dk A I w0 w' D' i' d k (dkL D i d L) → Xt (dkU D i L) w (dkU D' i' (dkL D i d L)) w' → K (.ptr D' 0) w') : Cl Try.prog hk 22 [.ptr D 0] w K := by
 apply in22 (hh.no _ _ _ (by decide) (by decide))
 unfold F22
 have hV := h.V
 have h27 := h.k27
 have hsl := hV.steps
 refine s47 hh (h.ow.ld 0 rfl rfl) ⟨false,rfl,ifT_f ?_⟩
 simp only [onP]
 refine ⟨_,_,h.ow.ldN 0 rfl rfl rfl,_,_,h.ow.ldN 0 rfl rfl rfl,onM_s (h.ow.ld 0 rfl rfl) ⟨d.last,h.ow.ld 0 rfl rfl,d.down,h.ow.ld 0 rfl rfl,d.wth,h.ow.ld 0 rfl rfl,?_⟩⟩
 refine s50 (a := 1) (b := 2) hh h.ow rfl rfl fun n1' f1' w25 st25 x25 => ⟨_,_,rfl,st25.ld 2 rfl rfl,st25.ld 2 rfl rfl,st25.ld 2 rfl rfl,st25.ld 2 rfl rfl,st25.ldN 2 rfl rfl rfl,?_⟩
 refine s50 (a := 5) (b := 6) hh st25 rfl rfl fun n2' f2' w29 st29 x29 => ⟨_,_,rfl,st29.ld 4 rfl rfl,st29.ld 4 rfl rfl,st29.ld 4 rfl rfl,st29.ld 4 rfl rfl,?_⟩
 refine s52 (a := 9) hh st29 rfl h.st h.sd (by omega) fun sv' sf' so' w33 st33 x33 hsv => ?_
 refine gd_t hsv.ok (gd_t (by simp only [List.all_cons,List.all_nil,hsv.ok]; rfl) (st33.new' fun D' w35 st35 x35 => ?_))
 refine ⟨st35.ld 6 rfl rfl,st35.ld 6 rfl rfl,st35.ld 6 rfl rfl,?_⟩
 refine s53 hh (n := d.arm) (st35.ld 6 rfl rfl) ⟨_,rfl,?_⟩
 refine s51 hh (st35.put 0 rfl (by simp) fun w42 st42 x42 => ⟨rfl,?_⟩)
 refine s53 hh (n := d.fault) (st42.ld 6 rfl rfl) ⟨_,rfl,?_⟩
 refine s51 hh (st42.put 0 rfl (by simp [listPut]) fun w49 st49 x49 => ⟨rfl,?_⟩)
 have st49 : Ow A I w0 w49 ((D',.row (d.cells n1' f1' n2' f2' sv')) :: (sf',so') :: (f2',.map i.e2) :: (n2',.map (nEnts d.now.names)) :: (f1',.map i.e1) :: (n1',.map (nEnts d.safe.names)) :: dkL D i d L) := st49
 obtain ⟨st50,x50⟩ := st49.front 1 rfl
 obtain ⟨st51,x51⟩ := st50.front 2 rfl
 obtain ⟨st52,x52⟩ := st51.front 3 rfl
 obtain ⟨st53,x53⟩ := st52.front 4 rfl
 obtain ⟨st54,x54⟩ := st53.front 5 rfl
 obtain ⟨st55,x55⟩ := st54.front 5 rfl
 let i2 : DI := ⟨n1',f1',n2',f2',sf',so',sv',i.e1,i.e2⟩
 have st55 : Ow A I w0 w49 (dkL D' i2 d (dkL D i d L)) := st55
 have y1 := ((((x25.trans x29).trans x33).trans x35).trans x42).trans x49
 have xx : Xt (dkU D i L) w (dkU D' i2 (dkL D i d L)) w49 := (((((y1.trans x50).trans x51).trans x52).trans x53).trans x54).trans x55
 exact hK D' i2 w49 ⟨st55,hsv,h.f1.x xx,h.f2.x xx,hV,h27⟩ xx
end
end Go.Proofs.Ytbjeebgdjlemjaa
/-
 Crash of the disk,over memory,with its own blocks.
 No condition beyond those that each theorem names.
-/
set_option linter.unusedSimpArgs false
open Go.Sx
set_option linter.unusedVariables false
namespace Go.Proofs.Ytbjeebgdjlemjaa
section
variable {hk : Hook} {A B : Nat → Prop} {I : List Nat} {w0 w w' : AW} {D : Nat} {i i' : DI} {d d' : Dsk} {k k' : Nat} {L L' : Obs} {K : AV → AW → Prop}
theorem lookR_int {z : AV} {m : AV} {i : Int} : lookR (.int .i64) z false w m (.int .i64 i) = lookS z false w m (.int .i64 i) := rfl
theorem kvSetR_int {m v : AV} {i : Int} : kvSetR (.int .i64) w m (.int .i64 i) v = kvSet w m (.int .i64 i) v := rfl
theorem mapAt_of {r cl : Nat} {es : List (AV × AV)} (hg : w.get r = some (.map es cl)) : mapAt w r = some (es,cl) := by unfold mapAt; rw [hg]; rfl
theorem look_of {r cl : Nat} {es : List (AV × AV)} {k z : AV} {ok : Bool} (hg : w.get r = some (.map es cl)) (hk : (es.all fun e => likeK k e.1) = true) : lookS z ok w (.map r) k = lookV z ok (lookM k es) := by
 have hm := mapAt_of hg
 simp only [lookS,mapOf,hm,Option.map_some,Option.bind_some,hk,guardO,cond_true]
 cases lookM k es <;> rfl
theorem s17 {keep : List Bool} {kv : AV} (hh : HK hk) (h : Dk A I w0 w D i d k L) (hkl : keep.length < 2 ^ 62) (hkv : (rL rT).rd (fz B (dkU D i L)) w [kv] keep) (hK : Od A I w0 w D i L (d.crash keep, 0) k K) : Cl Try.prog hk 17 [.ptr D 0, kv] w K := by
  apply in17 (hh.no _ _ _ (by decide) (by decide))
  unfold F17
  have hV := h.V
  have h27 := h.k27
  have hsl := hV.steps
  refine s47 hh (h.ow.ld 0 rfl rfl) ⟨false, rfl, ifT_f ?_⟩
  simp only [onP]
  refine onM_s (h.ow.ld 0 rfl rfl) ⟨_, h.rs.len, ?_⟩
  refine loopP_ind (fun m lvs w11 => ∃ (j : Nat) (i11 : DI), j ≤ d.steps.length ∧ m = d.steps.length - j ∧ lvs = [.int .i64 j] ∧ i11.sv = i.sv ∧ Dk A I w0 w11 D i11 { d with safe := keepL keep 0 (d.steps.take j) d.safe } k L ∧ Xt (dkU D i L) w (dkU D i11 L) w11) ?_
    ⟨0, i, Nat.zero_le _, rfl, rfl, rfl, by simpa [keepL] using h, Xt.refl⟩
  rintro m lvs w11 ⟨j, i11, hj, rfl, rfl, esv, h11, x11⟩ R ih
  have vS := keepL_V keep (i := 0) (l := d.steps.take j) hV.safe fun x hx => hV.sv x (List.mem_of_mem_take hx)
  refine ⟨_, rfl, fun _ => ifT_d (fun hc => ?_) fun hc => ?_⟩
  · have hjl : j < d.steps.length := by omega
    have hxV := hV.sv _ (List.getElem_mem hjl)
    have hx64 := hxV.1
    have hx69 := Stp.length hx64
    have hrs11 : Rs w11 69 d.steps.length i.sv (stpsC d.steps) := by rw [← esv]; exact h11.rs
    refine hrs11.at (i := (j : Int)) (by omega) (by omega) fun bb oo _ hN => ?_
    have hN : ldN 69 w11 bb oo = some (.agg d.steps[j].cells) := by rw [hN]; exact congrArg (fun t => some (AV.agg t)) (stpsC_at (fun x hx => (hV.sv x hx).1) hjl)
    refine onM_s hN (h11.new' fun b16 w17 h17 x17 => ?_)
    simp only [onA]
    refine gd_t (Stp.all _) (gd_t (by rw [hx69]; rfl) (h17.wr 0 rfl (by rw [zstep_length, hx69]; omega) fun w19 h19 x19 => ?_))
    rw [listPut_all (by rw [zstep_length, hx69])] at h19
    have h19 : Dk A I w0 w19 D i11 { d with safe := keepL keep 0 (d.steps.take j) d.safe } k ((b16, .row d.steps[j].cells) :: L) := h19
    have x19' := (x11.trans x17).trans x19
    have hkv19 := hkv.x x19'
    have htk : d.steps.take (j + 1) = d.steps.take j ++ [d.steps[j]] := (List.take_append_getElem hjl).symm
    have hsn := keepL_snoc keep d.steps[j] (d.steps.take j) 0 d.safe
    have htl : (d.steps.take j).length = j := by simp; omega
    rw [← htk, htl, Nat.zero_add] at hsn
    have skip : keep.getD j false = false → R [.int .i64 (wi ((j : Int) + 1))] w19 := fun hf => by
      rw [hf] at hsn
      simp only [Bool.false_eq_true, if_false] at hsn
      obtain ⟨h20, x20, _⟩ := h19.drop
      exact ih (d.steps.length - (j + 1)) (by omega) _ _ ⟨j + 1, i11, by omega, rfl, by rw [wi_eq (by omega) (by omega)]; rfl, esv, by rw [hsn]; exact h20, x19'.trans x20⟩
    refine ⟨_, hkv19.len', ifT_d (fun hc2 => ?_) fun hc2 => skip ?_⟩
    · have hjk : j < keep.length := by omega
      have hgd : keep.getD j false = keep[j] := by simp [List.getD_eq_getElem?_getD, hjk]
      refine hkv19.at1 rfl hjk fun bk ok a ha hld => ⟨keep[j], ?_, ?_⟩
      · have ha : [a] = [AV.bool keep[j]] := ha
        rw [hld]; injection ha with ha; rw [ha]
      cases hb : keep[j] with
      | false => exact ifT_f (skip (by rw [hgd, hb]))
      | true =>
        rw [hgd, hb, if_pos rfl] at hsn
        have hld : ldN 69 w19 b16 0 = some (.agg d.steps[j].cells) := h19.ow.ldN 6 rfl (by rw [hx69]; rfl) (by rw [List.drop_zero, List.take_of_length_le (by omega)])
        refine ifT_t ⟨_, _, h19.ow.ldN 0 rfl rfl rfl, onM_s hld ?_⟩
        refine s49 (a := 1) (b := 2) (s := keepL keep 0 (d.steps.take j) d.safe) hh h19.ow rfl rfl (by decide) h19.f1 hx64 ⟨hxV.2.1, by have := hxV.2.2.1; omega⟩ (by have := (vS d.steps[j].file).1; omega) fun w31 es' st31 x31 hF31 => ⟨rfl, ?_⟩
        let i31 : DI := { i11 with e1 := es' }
        have x31 : Xt (dkU D i11 ((b16, .row d.steps[j].cells) :: L)) w19 (dkU D i31 ((b16, .row d.steps[j].cells) :: L)) w31 := x31
        have h31 : Dk A I w0 w31 D i31 { d with safe := (keepL keep 0 (d.steps.take j) d.safe).does d.steps[j] } k ((b16, .row d.steps[j].cells) :: L) :=
          ⟨st31, h19.st, hF31, h19.f2.x x31, ⟨hV.steps, hV.sv, FS.V.does vS hxV, hV.now, hV.last⟩, h27⟩
        obtain ⟨h32, x32, _⟩ := h31.drop
        exact ih (d.steps.length - (j + 1)) (by omega) _ _ ⟨j + 1, i31, by omega, rfl, by rw [wi_eq (by omega) (by omega)]; rfl, esv, by rw [hsn]; exact h32, (x19'.trans x31).trans x32⟩
    · simp [List.getD_eq_getElem?_getD, List.getElem?_eq_none (show keep.length ≤ j by omega)]
  · have : j = d.steps.length := by omega
    subst this
    rw [List.take_length] at h11 vS
    clear ih R
    unfold Dsk.crash at hK
    simp only [] at hK
    generalize keepL keep 0 d.steps d.safe = s1 at *
    refine h11.newMap' fun m31 w32 h32 x32 => ?_
    have hm32 := h32.ow.mem
    have hbx := h32.ow.box
    have nd := h32.ow.nd
    have gD : Box w32 D (({ d with safe := s1 } : Dsk).cells i11.n1 i11.f1 i11.n2 i11.f2 i11.sv) := (hbx _ (nth_mem (i := 0) rfl) rfl).1
    obtain ⟨cl, gn⟩ := (hbx (i11.n1, .map (nEnts s1.names)) (nth_mem (i := 1) rfl) rfl).1
    obtain ⟨clf, gf⟩ := (hbx (i11.f1, .map i11.e1) (nth_mem (i := 2) rfl) rfl).1
    obtain ⟨⟨clm, gm⟩, o1, o2, o3⟩ := hbx (m31, .map []) (nth_mem (i := 6) rfl) rfl
    have gn : w32.get i11.n1 = some (.map (nEnts s1.names) cl) := gn
    have gf : w32.get i11.f1 = some (.map i11.e1 clf) := gf
    have gm : w32.get m31 = some (.map [] clm) := gm
    have uq : ∀ {a : Nat} {p : Nat × Ob}, a ≠ 6 → nth (dkL D i11 { d with safe := s1 } ((m31, .map []) :: L)) a = some p → p.2.re = true → p.1 ≠ m31 := fun ha hp hr e => ha (Obs.uniq nd hp (j := 6) (q := (m31, .map [])) rfl hr rfl e)
    have neD : D ≠ m31 := uq (a := 0) (by decide) rfl rfl
    have nen : i11.n1 ≠ m31 := uq (a := 1) (by decide) rfl rfl
    have nef : i11.f1 ≠ m31 := uq (a := 2) (by decide) rfl rfl
    have lD : D < w32.size := gD.lt hm32
    have ln : i11.n1 < w32.size := hm32.lt _ _ gn
    have lf : i11.f1 < w32.size := hm32.lt _ _ gf
    have lm : m31 < w32.size := hm32.lt _ _ gm
    refine onM_s (h32.ow.ld 0 rfl rfl) ?_
    have hn1m := mapAt_of gn
    unfold rangeK
    simp only [hn1m]
    show onM (some (nEnts s1.names, cl)) _
    refine onM_s rfl ?_
    have fI : Fr w32.size w32 (w32.push (.mapIter (some i11.n1) (nEnts s1.names) cl (nEnts s1.names) none)) := Fr.push hm32 fun cs f own d e => by cases e
    have gI : (w32.push (.mapIter (some i11.n1) (nEnts s1.names) cl (nEnts s1.names) none)).get w32.size = some (.mapIter (some i11.n1) (nEnts s1.names) cl (nEnts s1.names) none) := by simp
    have zI : (w32.push (.mapIter (some i11.n1) (nEnts s1.names) cl (nEnts s1.names) none)).size = w32.size + 1 := by simp
    generalize w32.push (.mapIter (some i11.n1) (nEnts s1.names) cl (nEnts s1.names) none) = w37 at *
    let U := dkU D i11 ((m31, .map []) :: L)
    refine loopP_ind (fun m lv w40 => ∃ (rest : List (AV × AV)) (last : Option AV) (dn : List Int) (es : List (AV × AV)) (cl' : Nat), m = rest.length ∧ lv = [] ∧ Mem w40 ∧ w32.size < w40.size ∧ (∀ c, c < w32.size → c ≠ m31 → w40.get c = w32.get c) ∧ w40.get m31 = some (.map es cl') ∧ w40.get w32.size = some (.mapIter (some i11.n1) (nEnts s1.names) cl rest last)
        ∧ FEn (fz A U) w32 es (fun k => if k ∈ dn then s1.files k else []) ∧ (∀ e ∈ rest, e ∈ nEnts s1.names) ∧ (∀ e ∈ nEnts s1.names, e ∈ rest ∨ ∃ k ∈ dn, e.2 = .int .i64 k) ∧ ∀ k ∈ dn, k ∈ s1.names.map (·.2)) ?_
      ⟨nEnts s1.names, none, [], [], clm, rfl, rfl, fI.mem, by omega, fun c hc _ => fI.old c hc, (fI.old _ lm).trans gm, gI, FEn.none, fun _ h => h, fun e he => .inl he, by simp⟩
    rintro m lv w40 ⟨rest, last, dn, es, cl', rfl, rfl, hm40, z40, g40, gm40, hi40, hF40, hr1, hr2, hr3⟩ R ih
    refine ⟨rfl, fun _ => ?_⟩
    refine join_of (fun lv w42 => ∃ c : Bool, lv = [.bool c] ∧ match c with
      | false => rest = [] ∧ w42 = w40
      | true => ∃ (i : Int) (kk : AV) (rest' : List (AV × AV)), (kk, AV.int .i64 i) ∈ rest ∧ (∀ e ∈ rest, e = (kk, AV.int .i64 i) ∨ e ∈ rest') ∧ (∀ e ∈ rest', e ∈ rest) ∧ rest'.length < rest.length ∧ Ch [w32.size] w40 w42 ∧ w42.size = w40.size ∧ w42.get w32.size = some (.mapIter (some i11.n1) (nEnts s1.names) cl rest' (some (.tup [kk, .int .i64 i])))) ?_ ?_
    · rintro lv w42 ⟨c, rfl, hcc⟩
      refine ⟨c, rfl, fun _ => ?_⟩
      cases c with
      | true =>
        obtain ⟨i0, kk, rest', p1, p2, p3, p4, c42, z42, g42⟩ := hcc
        have o42 : ∀ c, c < w32.size → w42.get c = w40.get c := fun c hc => c42.old c (by omega) (by simp; omega)
        have gg : ∀ c, c < w32.size → c ≠ m31 → w42.get c = w32.get c := fun c hc hn => (o42 c hc).trans (g40 c hc hn)
        have gm42 : w42.get m31 = some (.map es cl') := (o42 _ lm).trans gm40
        refine ifT_t ?_
        unfold entryK
        rw [g42]
        simp only []
        refine onM_s (mapAt_of ((gg _ ln nen).trans gn)) (gd_t (by simp) ?_)
        obtain ⟨v, hlk, hsl'⟩ := h32.f1.look i0
        have bD : Box w42 D (({ d with safe := s1 } : Dsk).cells i11.n1 i11.f1 i11.n2 i11.f2 i11.sv) := (gg _ lD neD).trans gD
        refine onM_s (v := .map i11.f1) (by rw [bD.ld]; rfl) ?_
        rw [lookR_int, look_of ((gg _ lf nef).trans gf) (h32.f1.like _)]
        refine onM_s hlk ?_
        rw [kvSetR_int]
        refine kvSet_of c42.mem gm42 (hF40.like _) fun w52 t52 z52 g52 => ?_
        have hi : i0 ∈ s1.names.map (·.2) := by
          obtain ⟨y, hy, e⟩ := List.mem_map.1 (hr1 _ p1)
          cases e
          exact List.mem_map_of_mem hy
        refine ih _ p4 _ _ ⟨rest', _, i0 :: dn, _, _, rfl, rfl, t52.ch.mem, by omega, fun c hc hn => (t52.ch.old _ (by omega) (by simpa using hn)).trans (gg c hc hn), g52, (t52.ch.old _ (by omega) (by simp; omega)).trans g42, ?_, fun e he => hr1 _ (p3 e he), fun e he => ?_, fun k hk => ?_⟩
        · have : (fun k => if k ∈ i0 :: dn then s1.files k else []) = updF (fun k => if k ∈ dn then s1.files k else []) i0 (s1.files i0) := by
            funext k
            unfold updF
            by_cases hki : k = i0
            · subst hki; simp
            · simp [hki]
          rw [this]; exact hF40.set hsl'
        · rcases hr2 e he with h | ⟨k, hk, e'⟩
          · rcases p2 e h with rfl | h
            · exact .inr ⟨i0, List.mem_cons_self, rfl⟩
            · exact .inl h
          · exact .inr ⟨k, List.mem_cons_of_mem _ hk, e'⟩
        · rcases List.mem_cons.1 hk with rfl | hk
          · exact hi
          · exact hr3 k hk
      | false =>
        obtain ⟨rfl, e42⟩ := hcc
        rw [e42]
        refine ifT_f ?_
        have hheld : (fun k => if k ∈ dn then s1.files k else []) = heldF s1 := by
          funext k
          unfold heldF
          by_cases hkn : k ∈ s1.names.map (·.2)
          · obtain ⟨y, hy, e⟩ := List.mem_map.1 hkn
            have := hr2 (.str y.1, .int .i64 y.2) (List.mem_map_of_mem (f := fun x : Byts × Int => (AV.str x.1, AV.int .i64 x.2)) hy)
            rcases this with h | ⟨k', hk', e'⟩
            · cases h
            · cases e'
              have hk'' : k ∈ dn := by rw [← e]; exact hk'
              rw [if_pos hk'', if_pos hkn]
          · rw [if_neg hkn, if_neg (fun hk => hkn (hr3 k hk))]
        rw [hheld] at hF40
        -- the disk is as it was, and the map is filled
        obtain ⟨st0, x0⟩ := h32.ow.perm (L' := (m31, .map []) :: dkL D i11 { d with safe := s1 } L) dkL_mid.symm
        have hnm : m31 ∉ ids (dkL D i11 { d with safe := s1 } L) := nd_head st0.nd rfl
        obtain ⟨st1, _⟩ := Ow.spoil (M := [(m31, .map [])]) (w' := w40) st0 (by omega) hm40 fun c hc hn => g40 c hc fun e => hn (by rw [e]; exact List.mem_cons_self)
        have st2 := own_or st1 (o := .map es) ⟨cl', gm40⟩ o1 hnm o2 o3
        obtain ⟨st3, _⟩ := st2.perm (L' := dkL D i11 { d with safe := s1 } ((m31, .map es) :: L)) dkL_mid
        have mU : m31 ∈ U := ids_mem (p := (m31, .map [])) (nth_mem (i := 6) rfl) (L := dkL D i11 { d with safe := s1 } ((m31, .map []) :: L)) rfl
        have x40 : Xt (dkU D i11 ((m31, .map []) :: L)) w32 (dkU D i11 ((m31, .map es) :: L)) w40 :=
          ⟨⟨fun c f all a b e => ⟨a, b, e.congr (g40 c (e.lt hm32).1 fun q => a (by rw [q]; exact mU)) (g40 f (by have := e.lt hm32; omega) fun q => b (by rw [q]; exact mU))⟩⟩, fun c a b => ⟨b, g40 c a fun q => b (by rw [q]; exact mU)⟩, by omega⟩
        have hF := hF40.x x40
        have hFV : FS.V ⟨s1.names, heldF s1⟩ := fun f => by
          simp only [heldF]
          split
          · exact vS f
          · simp
        have f2' := h32.f2.x x40
        -- its files are the held ones
        refine st3.put 0 rfl (by simp [Dsk.cells]) fun w55 st55 x55 => ?_
        obtain ⟨st56, x56⟩ := st55.front 2 rfl
        obtain ⟨st57, x57⟩ := st56.forget
        obtain ⟨st58, x58⟩ := st57.front 5 rfl
        obtain ⟨st59, x59⟩ := st58.front 2 rfl
        obtain ⟨st60, x60⟩ := st59.front 2 rfl
        let i2 : DI := { i11 with f1 := m31, e1 := es }
        let d2 : Dsk := { d with safe := ⟨s1.names, heldF s1⟩ }
        have st60 : Ow A I w0 w55 (dkL D i2 d2 L) := st60
        have x60 : Xt (dkU D i11 ((m31, .map es) :: L)) w40 (dkU D i2 L) w55 := ((((x55.trans x56).trans x57).trans x58).trans x59).trans x60
        refine ⟨_, _, st60.ldN 0 rfl rfl rfl, ?_⟩
        refine s50 (a := 1) (b := 2) hh st60 rfl rfl fun n2' f2n w61 st61 x61 => ⟨_, _, rfl, gd_t rfl ?_⟩
        refine st61.put 2 rfl (by simp [Dsk.cells]) fun w66 st66 x66 => ?_
        obtain ⟨st67, x67⟩ := st66.front 5 rfl
        obtain ⟨st68, x68⟩ := st67.forget
        obtain ⟨st69, x69⟩ := st68.front 5 rfl
        obtain ⟨st70, x70⟩ := st69.forget
        obtain ⟨st71, x71⟩ := st70.front 1 rfl
        obtain ⟨st72, x72⟩ := st71.front 4 rfl
        obtain ⟨st73, x73⟩ := st72.front 4 rfl
        obtain ⟨st74, x74⟩ := st73.front 4 rfl
        let i3 : DI := { i2 with n2 := n2', f2 := f2n, e2 := es }
        let d3 : Dsk := { d with safe := ⟨s1.names, heldF s1⟩, now := ⟨s1.names, heldF s1⟩ }
        have st74 : Ow A I w0 w66 (dkL D i3 d3 L) := st74
        have x74 : Xt (dkU D i2 L) w55 (dkU D i3 L) w66 := (((((((((x61.trans x66).trans x67).trans x68).trans x69).trans x70).trans x71).trans x72).trans x73).trans x74)
        refine st74.put 0 rfl (by simp [Dsk.cells]) fun w69 st75 x75 => ?_
        let i4 : DI := { i3 with sv := .nilslice }
        let d4 : Dsk := { d3 with steps := [] }
        have st75 : Ow A I w0 w69 (dkL D i4 d4 L) := st75
        have x75 : Xt (dkU D i3 L) w66 (dkU D i4 L) w69 := x75
        have xx : Xt (dkU D i11 ((m31, .map es) :: L)) w40 (dkU D i4 L) w69 := (x60.trans x74).trans x75
        have h75 : Dk A I w0 w69 D i4 d4 k L := ⟨st75, Sv.nil, hF.x xx, hF.x xx, ⟨Nat.zero_le _, fun x hx => (by cases hx), hFV, hFV, hV.last⟩, h27⟩
        refine h75.put (o := 7) (d' := { d4 with down := false }) (by simp) rfl rfl rfl rfl ⟨Nat.zero_le _, fun x hx => (by cases hx), hFV, hFV, hV.last⟩ h27 fun w72 h76 x76 => ?_
        refine s51 hh (h76.put (o := 8) (d' := { d4 with down := false, arm := 0 }) (by simp) rfl rfl rfl rfl ⟨Nat.zero_le _, fun x hx => (by cases hx), hFV, hFV, hV.last⟩ h27 fun w76 h77 x77 => ⟨rfl, ?_⟩)
        refine s51 hh (h77.put (o := 9) (d' := { d4 with down := false, arm := 0, fault := 0 }) (by simp) rfl rfl rfl rfl ⟨Nat.zero_le _, fun x hx => (by cases hx), hFV, hFV, hV.last⟩ h27 fun w80 h78 x78 => ⟨rfl, ?_⟩)
        exact hK i4 w80 h78 (((((x11.trans x32).trans x40).trans xx).trans x76).trans (x77.trans x78))
    · intro J hJ
      refine nextK_of hm40 hi40 (mapAt_of ((g40 _ ln nen).trans gn)) (fun hr => hJ _ _ ⟨false, rfl, hr, rfl⟩) fun kk v rest' p1 p2 p3 p4 w42 c42 z42 g42 => ?_
      obtain ⟨y, hy, e⟩ := List.mem_map.1 (hr1 _ p1)
      cases e
      exact hJ _ _ ⟨true, rfl, y.2, _, rest', p1, p2, p3, p4, c42, z42, g42⟩
end
end Go.Proofs.Ytbjeebgdjlemjaa
