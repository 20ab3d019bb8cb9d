/-
 The law: both sides answer alike,and what is handed in stays.
 No condition beyond those that each theorem names.
-/
import Derived.Test.YtghoifolghelnaaGreatMf
import Derived.Test.YtghoifolghelnaaGreatSxl
import Derived.Test.YtghoifolghelnaaGreatSxm
import Derived.Test.YtghoifolghelnaaGreatSxo
import Derived.Test.YtghoifolghelnaaGreatProg
import Derived.KernelRfl
import Derived.Shelf.SortM.Plain
import Derived.Shelf.SortM.SortNone
import Derived.Ground.SlgmProg
set_option linter.unusedSimpArgs false
open Go.Sx
set_option linter.unusedVariables false
set_option linter.unusedSimpArgs false
namespace Go.Proofs.YtghoifolghelnaaGreat
open Classical in
noncomputable def pick {α : Type} (p : Prop) (a b : α) : α := if p then a else b
theorem pick_t {α : Type} {p : Prop} {a b : α} (h : p) : pick p a b = a := by unfold pick; rw [if_pos h]
theorem pick_f {α : Type} {p : Prop} {a b : α} (h : ¬ p) : pick p a b = b := by unfold pick; rw [if_neg h]
theorem allTo_ents {n : Nd} {b : Nat} (h : n.log.length ≤ b) : ∀ k, ∀ m ∈ allTo n k, m.ents.length ≤ b
  | 0, m, hm => by cases hm
  | k + 1, m, hm => by
    unfold allTo at hm
    rcases List.mem_append.1 hm with hm | hm
    · exact allTo_ents h k m hm
    · split at hm
      · cases hm
      · simp at hm
        subst hm
        unfold sentN
        split
        · simp
        · have := (batch_sub (l := n.log.drop (nextN n (k + 1) - n.base - 1).toNat) (k := 0) (sz := 0)).2
          rw [List.length_drop] at this
          show (batch 0 0 _).length ≤ b
          omega
def Few (n : Nd) : Prop := n.log.length < 2 ^ 60 ∧ n.votes.length < 2 ^ 60 ∧ n.next.length < 2 ^ 60 ∧ n.mtch.length < 2 ^ 60 ∧ n.seen.length < 2 ^ 60 ∧ n.reads.length < 2 ^ 60
theorem few_z : Few zNd := by unfold Few; simp
section
variable {hk : Hook} {A A' B : Nat → Prop} {I : List Nat} {w0 w w' : AW} {K : AV → AW → Prop} {n : Nd} {s s0 s1 : Sl} {v out r dv sv : AV} {d sd : Byts} {b6 b18 : Nat}
theorem NR.ta (h : NR A w n s) : NR TA w n s := h.xa ⟨fun _ _ _ _ _ d => ⟨trivial,trivial,d⟩⟩
theorem nr_z : NR TA w zNd zSl := ⟨Rp.rd.nil,Rp.rd.nil,Rp.rd.nil,Rp.rd.nil,Rp.rd.nil,Rp.rd.nil,Rp.rd.nil⟩
theorem nputN {G : Nat → AW → Prop} (hm : Mem w) (hpos : 0 < w.size) (h : NR TA w n s) (hK : ∀ b w',Fr w.size w w' → NB w' b n s → NR TA w' n s → G b w') :
  new w (ndC zNd zSl) fun b w1 => onA (.agg (ndC n s)) fun c => gd (List.all c okCell) (gd (Nat.beq c.length 19) (onM (AW.putCells w1 b 0 c) fun w2 => G b w2)) := by
 have pv : Pv TA w := ⟨hm,hpos,fun _ _ => trivial⟩
 refine pv.st.new' fun b w1 st1 x1 => gd_t h.ok (gd_t rfl (st1.put 0 rfl (Nat.le_of_ble_eq_true rfl) fun w2 st2 x2 => ?_))
 have hb : Box w2 b (ndC n s) := (st2.box _ List.mem_cons_self rfl).1
 exact hK b w2 st2.fr ⟨st2.mem,hb⟩ (h.fr hm st2.fr)
structure LC (n : Nd) (s0 s1 : Sl) (dv sv : AV) (d sd : Byts) (b6 b18 : Nat) (w : AW) : Prop where
 mem : Mem w
 pos : 0 < w.size
 nb6 : NB w b6 n s0
 nr6 : NR TA w n s0
 nb18 : NB w b18 n s1
 nr18 : NR TA w n s1
 rdv : (rL rU).rd TA w [dv] d
 rsv : (rL rU).rd TA w [sv] sd
theorem LC.fr (h : LC n s0 s1 dv sv d sd b6 b18 w) (f : Fr w.size w w') : LC n s0 s1 dv sv d sd b6 b18 w' :=
 ⟨f.mem,by have := f.size; have := h.pos; omega,h.nb6.fr f,h.nr6.fr h.mem f,h.nb18.fr f,h.nr18.fr h.mem f,h.rdv.xa (xa_fr h.mem f),h.rsv.xa (xa_fr h.mem f)⟩
/-! ### The answers, in one form -/
noncomputable def mP (n : Nd) (d : Byts) : Nd := pick (proE n d = 0) (putN n d) zNd
noncomputable def msP (n : Nd) (d : Byts) : List Msg := pick (proE n d = 0) (allTo (putN n d) n.size.toNat) []
noncomputable def iP (n : Nd) (d : Byts) : Int := pick (proE n d = 0) (lastN (putN n d)) 0
theorem proU (h : ProR n d w r) : ∃ s' o,r = .tup [.agg (ndC (mP n d) s'),ii (iP n d),o,ii (proE n d)] ∧ NR TA w (mP n d) s' ∧ (rL rM).rd TA w [o] (msP n d) ∧ (proE n d ≠ 0 → s' = zSl ∧ o = .nilslice ∧ mP n d = zNd) := by
 unfold mP msP iP
 rcases h with ⟨h0,rfl⟩ | ⟨_,h0,s',o,rfl,h1,h2⟩
 ·rw [pick_f h0,pick_f h0,pick_f h0]
  exact ⟨zSl,.nilslice,rfl,nr_z,Rp.rd.nil,fun _ => ⟨rfl,rfl,rfl⟩⟩
 ·rw [pick_t h0,pick_t h0,pick_t h0]
  exact ⟨s',o,by rw [h0],h1,h2,fun h => absurd h0 h⟩
noncomputable def mR (n : Nd) (i : Int) : Nd := pick (reaE n = 0) (readN n i) zNd
noncomputable def msR (n : Nd) (i : Int) : List Msg := pick (reaE n = 0) (allTo (readN n i) n.size.toNat) []
theorem reaU {i : Int} (h : ReaR n i w r) : ∃ s' o,r = .tup [.agg (ndC (mR n i) s'),o,ii (reaE n)] ∧ NR TA w (mR n i) s' ∧ (rL rM).rd TA w [o] (msR n i) ∧ (reaE n ≠ 0 → s' = zSl ∧ o = .nilslice ∧ mR n i = zNd) := by
 unfold mR msR
 rcases h with ⟨h0,rfl⟩ | ⟨_,h0,s',o,rfl,h1,h2⟩
 ·rw [pick_f h0,pick_f h0]
  exact ⟨zSl,.nilslice,rfl,nr_z,Rp.rd.nil,fun _ => ⟨rfl,rfl,rfl⟩⟩
 ·rw [pick_t h0,pick_t h0]
  exact ⟨s',o,by rw [h0],h1,h2,fun h => absurd h0 h⟩
noncomputable def eS (n : Nd) : Int := pick (RightN n) 0 2
noncomputable def mS (n : Nd) : Nd := pick (RightN n) (sureN n) zNd
noncomputable def gS (n : Nd) : List Rdg := pick (RightN n) (n.reads.take (sureK n)) []
theorem surU (h : SurR n w r) : ∃ s' o,r = .tup [.agg (ndC (mS n) s'),o,ii (eS n)] ∧ NR TA w (mS n) s' ∧ (rL rG).rd TA w [o] (gS n) := by
 unfold eS mS gS
 rcases h with ⟨h0,rfl⟩ | ⟨h0,s',o,rfl,h1,h2⟩
 ·rw [pick_f h0,pick_f h0,pick_f h0]
  exact ⟨zSl,.nilslice,rfl,nr_z,Rp.rd.nil⟩
 ·rw [pick_t h0,pick_t h0,pick_t h0]
  exact ⟨s',o,rfl,h1,h2⟩
noncomputable def mC' (n : Nd) (i : Int) (d : Byts) : Nd := pick (comE n i d = 0) (compN n i d) zNd
theorem comU {i : Int} (h : ComR n i d w r) : ∃ s',r = .tup [.agg (ndC (mC' n i d) s'),ii (comE n i d)] ∧ NR TA w (mC' n i d) s' ∧ (comE n i d ≠ 0 → s' = zSl ∧ mC' n i d = zNd) := by
 unfold mC'
 rcases h with ⟨h0,rfl⟩ | ⟨_,h0,s',rfl,h1⟩
 ·rw [pick_f h0]
  exact ⟨zSl,rfl,nr_z,fun _ => ⟨rfl,rfl⟩⟩
 ·rw [pick_t h0]
  exact ⟨s',by rw [h0],h1,fun h => absurd h0 h⟩
noncomputable def mN (id size d : Int) : Nd := pick (newE id size = 0) (newN id size d) zNd
theorem newU {id size dd : Int} (h : NewR id size dd w r) : ∃ s',r = .tup [.agg (ndC (mN id size dd) s'),ii (newE id size)] ∧ NR TA w (mN id size dd) s' := by
 unfold mN
 rcases h with ⟨h0,rfl⟩ | ⟨h0,s',rfl,h1⟩
 ·rw [pick_f h0]
  exact ⟨zSl,rfl,nr_z⟩
 ·rw [pick_t h0]
  exact ⟨s',by rw [h0],h1⟩
structure Bn (n : Nd) : Prop where
 bd : Bd n
 data : ∀ e ∈ n.log,e.2.length ≤ 140737488351232
theorem Bn.sm (h : Bn n) : Sm n := by
 obtain ⟨⟨h1,h2,h3,h4,h5,h6,h7⟩,_⟩ := h
 exact ⟨by omega,by omega,by omega,by omega,by omega,by omega,by omega⟩
theorem few_P (h : Bn n) : Few (mP n d) := by
 obtain ⟨⟨h1,h2,h3,h4,h5,h6,h7⟩,_⟩ := h
 unfold mP pick
 split
 ·refine ⟨by show (n.log ++ [(n.term,d)]).length < _; simp; omega,by show n.votes.length < _; omega,by show (n.next.set _ _).length < _; rw [List.length_set]; omega,by show (n.mtch.set _ _).length < _; rw [List.length_set]; omega,by show n.seen.length < _; omega,by show n.reads.length < _; omega⟩
 ·exact few_z
theorem few_R {i : Int} (h : Bn n) : Few (mR n i) := by
 obtain ⟨⟨h1,h2,h3,h4,h5,h6,h7⟩,_⟩ := h
 unfold mR pick
 split
 ·refine ⟨by show n.log.length < _; omega,by show n.votes.length < _; omega,by show n.next.length < _; omega,by show n.mtch.length < _; omega,by show (n.seen.set _ _).length < _; rw [List.length_set]; omega,by show (n.reads ++ [_]).length < _; simp; omega⟩
 ·exact few_z
theorem few_S (h : Bn n) : Few (mS n) := by
 obtain ⟨⟨h1,h2,h3,h4,h5,h6,h7⟩,_⟩ := h
 unfold mS pick
 split
 ·refine ⟨by show n.log.length < _; omega,by show n.votes.length < _; omega,by show n.next.length < _; omega,by show n.mtch.length < _; omega,by show n.seen.length < _; omega,by show (n.reads.drop _).length < _; rw [List.length_drop]; omega⟩
 ·exact few_z
theorem few_C {i : Int} (h : Bn n) : Few (mC' n i d) := by
 obtain ⟨⟨h1,h2,h3,h4,h5,h6,h7⟩,_⟩ := h
 unfold mC' pick
 split
 ·refine ⟨by show (n.log.drop _).length < _; rw [List.length_drop]; omega,by show n.votes.length < _; omega,by show n.next.length < _; omega,by show n.mtch.length < _; omega,by show n.seen.length < _; omega,by show n.reads.length < _; omega⟩
 ·exact few_z
theorem few_N {id size dd : Int} : Few (mN id size dd) := by
 unfold mN pick
 split
 ·rename_i h
  have hs : 0 ≤ size ∧ size ≤ 9 := by
   unfold newE at h
   split at h
   ·cases h
   ·split at h
    ·cases h
    ·omega
  refine ⟨by show (0 : Nat) < _; decide,?_,?_,?_,?_,by show (0 : Nat) < _; decide⟩
  ·show (List.replicate size.toNat false).length < _; rw [List.length_replicate]; omega
  ·show (List.replicate size.toNat (0 : Int)).length < _; rw [List.length_replicate]; omega
  ·show (List.replicate size.toNat (0 : Int)).length < _; rw [List.length_replicate]; omega
  ·show (List.replicate size.toNat (0 : Int)).length < _; rw [List.length_replicate]; omega
 ·exact few_z
theorem few_n (h : Bn n) : Few n := by
 obtain ⟨⟨h1,h2,h3,h4,h5,h6,h7⟩,_⟩ := h
 exact ⟨by omega,by omega,by omega,by omega,by omega,by omega⟩
theorem ms_P (h : Bn n) (hsz : n.size ≤ 9 ∨ proE n d ≠ 0) : (msP n d).length < 2 ^ 60 ∧ ∀ m ∈ msP n d,m.ents.length < 2 ^ 60 := by
 have h2 := h.bd.log
 unfold msP pick
 split
 ·rename_i h0
  have := allTo_len (putN n d) n.size.toNat
  refine ⟨by rcases hsz with hs | hs; omega; exact absurd h0 hs,fun m hm => ?_⟩
  have := allTo_ents (n := putN n d) (b := n.log.length + 1) (by show (n.log ++ [(n.term,d)]).length ≤ _; simp) _ m hm
  omega
 ·exact ⟨by decide,fun m hm => by cases hm⟩
theorem ms_R {i : Int} (h : Bn n) (hsz : n.size ≤ 9 ∨ reaE n ≠ 0) : (msR n i).length < 2 ^ 60 ∧ ∀ m ∈ msR n i,m.ents.length < 2 ^ 60 := by
 have h2 := h.bd.log
 unfold msR pick
 split
 ·rename_i h0
  have := allTo_len (readN n i) n.size.toNat
  refine ⟨by rcases hsz with hs | hs; omega; exact absurd h0 hs,fun m hm => ?_⟩
  have := allTo_ents (n := readN n i) (b := n.log.length) (Nat.le_refl _) _ m hm
  omega
 ·exact ⟨by decide,fun m hm => by cases hm⟩
theorem size_P : n.size ≤ 9 ∨ proE n d ≠ 0 := by
 by_cases h : RightN n
 ·exact .inl h.size.2
 ·right; unfold proE; rw [if_pos h]; decide
theorem size_R : n.size ≤ 9 ∨ reaE n ≠ 0 := by
 by_cases h : RightN n
 ·exact .inl h.size.2
 ·right; unfold reaE; rw [if_pos h]; decide
end
end Go.Proofs.YtghoifolghelnaaGreat
/-
 The law,part by part.
 No condition beyond those that each theorem names.
-/
set_option linter.unusedSimpArgs false
open Go.Sx
set_option linter.unusedVariables false
set_option linter.unusedSimpArgs false
namespace Go.Proofs.YtghoifolghelnaaGreat
section
variable {hk : Hook} {w w' : AW} {n : Nd} {s s0 s1 : Sl} {v r dv sv : AV} {d sd : Byts} {b6 b18 : Nat} {index id : Int}
def J4 (n : Nd) (s0 : Sl) (dv sv : AV) (d sd : Byts) (index id : Int) (vs : List AV) (w : AW) : Prop := ∃ b6 b18 s1,vs = [ii index,ii id,sv,.ptr b6 0,.ptr b18 0] ∧ LC n s0 s1 dv sv d sd b6 b18 w ∧ n.log.length ≤ 300
def J4' (n : Nd) (s0 : Sl) (dv sv : AV) (d sd : Byts) (index id : Int) (vs : List AV) (w : AW) : Prop := ∃ b6 b18 s1,vs = [ii index,ii id,.ptr b6 0,.ptr b18 0] ∧ LC n s0 s1 dv sv d sd b6 b18 w ∧ n.log.length ≤ 300
abbrev RT4 : AV → AW → Prop := fun r _ => r = .bool true
theorem nn {b : Bool} (h : b = true) : (!(!b)) = true := by rw [h]; rfl
theorem nne {x y : Int} (h : x = y) : (!(!decide (x = y))) = true := by rw [decide_eq_true h]; rfl
theorem cmp2 {w : AW} {m : Nd} {e : Int} {sa sb : Sl} {oa : AV} {ba bb : Nat} {vs : List AV} {J : List AV → AW → Prop} (hh : HK hk) (hm : Mem w) (na : NB w ba m sa) (nb : NB w bb m sb) (ha : NR TA w m sa) (hb : NR TA w m sb) (few : Few m) (hz : e ≠ 0 → sa = zSl ∧ oa = .nilslice ∧ m = zNd) (hJ : ∀ w',Fr w.size w w' → J vs w') :
  ifT (decide (e = 0)) (onM (ldN 19 w ba 0) fun x => onM (ldN 19 w bb 0) fun y => Cl Tryz.prog hk 18 [x,y] w fun r w2 => ∃ x3 : Bool,r = .bool x3 ∧ gd (!(!x3)) (
   ifT (!decide (e = 0)) (onM (ldN 19 w2 ba 0) fun x4 => Cl Tryz.prog hk 19 [x4,oa] w2 fun r w3 => ∃ x5 : Bool,r = .bool x5 ∧ ifT (!x5) (RT4 (.bool false) w3) (J vs w3)) (J vs w2)))
  (ifT (!decide (e = 0)) (onM (ldN 19 w ba 0) fun x4 => Cl Tryz.prog hk 19 [x4,oa] w fun r w3 => ∃ x5 : Bool,r = .bool x5 ∧ ifT (!x5) (RT4 (.bool false) w3) (J vs w3)) (J vs w)) := by
 refine ifT_d (fun h0 => onM_s na.ldN (onM_s nb.ldN (s18 hh hm ha hb few fun w2 f2 => ⟨_,rfl,gd_t rfl (ifT_nd (fun hc => absurd h0 hc) fun _ => hJ w2 f2)⟩))) fun h0 => ifT_nd (fun _ => ?_) fun hc => absurd hc h0
 obtain ⟨rfl,rfl,rfl⟩ := hz h0
 exact onM_s na.ldN (s19 hh hm fun w3 f3 => ⟨_,rfl,ifT_f (hJ w3 f3)⟩)
theorem law0 (hh : HK hk) (pv : Pv (fun _ => True) w) (h : NR TA w n s0) (bn : n.log.length ≤ 300 → Bn n) (hd : (rL rU).rd TA w [dv] d) (hsd : (rL rU).rd TA w [sv] sd) : F4_0 hk (.agg (ndC n s0)) dv index id sv w RT4 (J4 n s0 dv sv d sd index id) := by
 unfold F4_0
 refine nd_new pv.mem h fun b6 w7 f7 nb7 h7 => onM_s nb7.ldN (s7 (m := []) hh f7.mem h7 fun c w10 f10 hc => ⟨_,rfl,?_⟩)
 cases c with
 | true => exact ifT_t (Cl_hook (hh.awake _) ⟨_,rfl,rfl⟩)
 | false =>
 obtain ⟨lg,_⟩ := hc rfl
 have bn := bn lg
 have sm := bn.sm
 have p10 : 0 < w10.size := by have := f7.size; have := f10.size; have := pv.pos; omega
 have g10 := f7.trans' f10 (Nat.le_refl _)
 have nb10 := nb7.fr f10
 have h10 := h7.fr f7.mem f10
 refine ifT_f (onM_s nb10.ldN (s11 hh f10.mem p10 h10 sm bn.data bn.bd fun s1 w17 f17 nr17 _ => ?_))
 have p17 : 0 < w17.size := by have := f17.size; omega
 refine nputN f17.mem p17 nr17.ta fun b18 w21 f21 nb21 nr21 => ?_
 have g21 := (g10.trans' f17 (Nat.le_refl _)).trans' f21 (Nat.le_refl _)
 have lc : LC n s0 s1 dv sv d sd b6 b18 w21 := ⟨f21.mem,by have := f21.size; omega,(nb10.fr f17).fr f21,(h10.fr f10.mem f17).fr f17.mem f21,nb21,nr21,hd.xa (xa_fr pv.mem g21),hsd.xa (xa_fr pv.mem g21)⟩
 refine onM_s nb21.ldN (s13 hh lc.mem lc.pos lc.nr18 sm lc.rdv fun r w24 f24 hr => ?_)
 obtain ⟨sa,oa,rfl,na,ra,za⟩ := proU hr
 have lc24 := lc.fr f24
 refine ⟨_,_,_,_,rfl,nputN lc24.mem lc24.pos na fun b29 w32 f32 nb32 na32 => ?_⟩
 have lc32 := lc24.fr f32
 have ra32 := ra.xa (xa_fr lc24.mem f32)
 refine onM_s lc32.nb6.ldN (s11 hh lc32.mem lc32.pos lc32.nr6 sm bn.data bn.bd fun s2 w35 f35 nr35 _ => ?_)
 have lc35 := lc32.fr f35
 refine s16 hh lc35.mem lc35.pos nr35.ta sm lc35.rdv fun r w37 f37 hr => ?_
 obtain ⟨sb,ob,rfl,nbb,rb,zb⟩ := proU hr
 have lc37 := lc35.fr f37
 refine ⟨_,_,_,_,rfl,nputN lc37.mem lc37.pos nbb fun b42 w45 f45 nb45 nb45' => ?_⟩
 have lc45 := lc37.fr f45
 have g3245 := (f35.trans' f37 (Nat.le_refl _)).trans' f45 (Nat.le_refl _)
 have ra45 := ra32.xa (xa_fr lc32.mem g3245)
 have rb45 := rb.xa (xa_fr lc37.mem f45)
 have na45 := na32.fr lc32.mem g3245
 have nba45 := nb32.fr g3245
 obtain ⟨q1,q2⟩ := ms_P (d := d) bn size_P
 refine gd_t (nne rfl) (gd_t (nne rfl) (s17 hh lc45.mem ra45 rb45 q1 q2 fun w47 f47 => ⟨_,rfl,gd_t rfl ?_⟩))
 have lc47 := lc45.fr f47
 exact cmp2 hh lc47.mem (nba45.fr f47) (nb45.fr f47) (na45.fr lc45.mem f47) (nb45'.fr lc45.mem f47) (few_P bn) za fun w' f => ⟨b6,b18,s1,rfl,lc47.fr f,lg⟩
theorem law1 (hh : HK hk) (lc : LC n s0 s1 dv sv d sd b6 b18 w) (lg : n.log.length ≤ 300) (bn : Bn n) : F4_1 hk index id sv b6 0 b18 0 w RT4 (J4 n s0 dv sv d sd index id) := by
 unfold F4_1
 have sm := bn.sm
 refine onM_s lc.nb18.ldN (s14 hh lc.mem lc.pos lc.nr18 sm (by omega) fun r w24 f24 hr => ?_)
 obtain ⟨sa,oa,rfl,na,ra,za⟩ := reaU hr
 have lc24 := lc.fr f24
 refine ⟨_,_,_,rfl,nputN lc24.mem lc24.pos na fun b29 w32 f32 nb32 na32 => ?_⟩
 have lc32 := lc24.fr f32
 have ra32 := ra.xa (xa_fr lc24.mem f32)
 refine onM_s lc32.nb6.ldN (s11 hh lc32.mem lc32.pos lc32.nr6 sm bn.data bn.bd fun s2 w35 f35 nr35 _ => ?_)
 have lc35 := lc32.fr f35
 refine s20 hh lc35.mem lc35.pos nr35.ta sm (by omega) fun r w37 f37 hr => ?_
 obtain ⟨sb,ob,rfl,nbb,rb,zb⟩ := reaU hr
 have lc37 := lc35.fr f37
 refine ⟨_,_,_,rfl,nputN lc37.mem lc37.pos nbb fun b42 w45 f45 nb45 nb45' => ?_⟩
 have lc45 := lc37.fr f45
 have g3245 := (f35.trans' f37 (Nat.le_refl _)).trans' f45 (Nat.le_refl _)
 have ra45 := ra32.xa (xa_fr lc32.mem g3245)
 have rb45 := rb.xa (xa_fr lc37.mem f45)
 have na45 := na32.fr lc32.mem g3245
 have nba45 := nb32.fr g3245
 obtain ⟨q1,q2⟩ := ms_R (i := id) bn size_R
 refine gd_t (nne rfl) (s17 hh lc45.mem ra45 rb45 q1 q2 fun w47 f47 => ⟨_,rfl,gd_t rfl ?_⟩)
 have lc47 := lc45.fr f47
 exact cmp2 hh lc47.mem (nba45.fr f47) (nb45.fr f47) (na45.fr lc45.mem f47) (nb45'.fr lc45.mem f47) (few_R bn) za fun w' f => ⟨b6,b18,s1,rfl,lc47.fr f,lg⟩
theorem law2 (hh : HK hk) (lc : LC n s0 s1 dv sv d sd b6 b18 w) (lg : n.log.length ≤ 300) (bn : Bn n) : F4_2 hk index id sv b6 0 b18 0 w RT4 (J4 n s0 dv sv d sd index id) := by
 unfold F4_2
 have sm := bn.sm
 refine onM_s lc.nb18.ldN (s21 hh lc.mem lc.pos lc.nr18 sm (by omega) fun r w24 f24 hr => ?_)
 obtain ⟨sa,oa,rfl,na,ra⟩ := surU hr
 have lc24 := lc.fr f24
 refine ⟨_,_,_,rfl,nputN lc24.mem lc24.pos na fun b29 w32 f32 nb32 na32 => ?_⟩
 have lc32 := lc24.fr f32
 have ra32 := ra.xa (xa_fr lc24.mem f32)
 refine onM_s lc32.nb6.ldN (s11 hh lc32.mem lc32.pos lc32.nr6 sm bn.data bn.bd fun s2 w35 f35 nr35 _ => ?_)
 have lc35 := lc32.fr f35
 refine s22 hh lc35.mem lc35.pos nr35.ta sm fun r w37 f37 hr => ?_
 obtain ⟨sb,ob,rfl,nbb,rb⟩ := surU hr
 have lc37 := lc35.fr f37
 refine ⟨_,_,_,rfl,nputN lc37.mem lc37.pos nbb fun b42 w45 f45 nb45 nb45' => ?_⟩
 have lc45 := lc37.fr f45
 have g3245 := (f35.trans' f37 (Nat.le_refl _)).trans' f45 (Nat.le_refl _)
 have ra45 := ra32.xa (xa_fr lc32.mem g3245)
 have rb45 := rb.xa (xa_fr lc37.mem f45)
 have na45 := na32.fr lc32.mem g3245
 have nba45 := nb32.fr g3245
 have hg : (gS n).length < 2 ^ 60 := by
  have := bn.bd.reads
  unfold gS pick
  split
  ·rw [List.length_take]; omega
  ·decide
 refine gd_t (nne rfl) (s23 hh ra45 rb45 hg ⟨_,rfl,gd_t rfl (ifT_d (fun h0 => ?_) fun h0 => ⟨b6,b18,s1,rfl,lc45,lg⟩)⟩)
 exact onM_s nba45.ldN (onM_s nb45.ldN (s18 hh lc45.mem na45 nb45' (few_S bn) fun w2 f2 => ⟨_,rfl,ifT_f ⟨b6,b18,s1,rfl,lc45.fr f2,lg⟩⟩))
theorem law3 (hh : HK hk) (lc : LC n s0 s1 dv sv d sd b6 b18 w) (lg : n.log.length ≤ 300) (bn : Bn n) : F4_3 hk index id sv b6 0 b18 0 w RT4 (J4' n s0 dv sv d sd index id) := by
 unfold F4_3
 have sm := bn.sm
 refine onM_s lc.nb18.ldN (s15 hh lc.mem lc.pos lc.nr18 sm (by omega) lc.rsv fun r w24 f24 hr => ?_)
 obtain ⟨sa,rfl,na,za⟩ := comU hr
 have lc24 := lc.fr f24
 refine ⟨_,_,rfl,nputN lc24.mem lc24.pos na fun b29 w32 f32 nb32 na32 => ?_⟩
 have lc32 := lc24.fr f32
 refine onM_s lc32.nb6.ldN (s11 hh lc32.mem lc32.pos lc32.nr6 sm bn.data bn.bd fun s2 w35 f35 nr35 _ => ?_)
 have lc35 := lc32.fr f35
 refine s24 hh lc35.mem lc35.pos nr35.ta sm (by omega) lc35.rsv fun r w37 f37 hr => ?_
 obtain ⟨sb,rfl,nbb,zb⟩ := comU hr
 have lc37 := lc35.fr f37
 refine ⟨_,_,rfl,nputN lc37.mem lc37.pos nbb fun b42 w45 f45 nb45 nb45' => ?_⟩
 have lc45 := lc37.fr f45
 have g3245 := (f35.trans' f37 (Nat.le_refl _)).trans' f45 (Nat.le_refl _)
 have na45 := na32.fr lc32.mem g3245
 have nba45 := nb32.fr g3245
 refine gd_t (nne rfl) ?_
 exact cmp2 hh lc45.mem nba45 nb45 na45 nb45' (few_C bn) (fun h => ⟨(za h).1,rfl,(za h).2⟩) fun w' f => ⟨b6,b18,s1,rfl,lc45.fr f,lg⟩
theorem law4 (hh : HK hk) (lc : LC n s0 s1 dv sv d sd b6 b18 w) (bn : Bn n) : F4_4 hk index id b6 0 b18 0 w RT4 := by
 unfold F4_4
 refine ⟨n.term,lc.nb6.ld rfl,s25 hh lc.mem lc.pos fun r w24 f24 hr => ?_⟩
 obtain ⟨sa,rfl,na⟩ := newU hr
 have lc24 := lc.fr f24
 refine ⟨_,_,rfl,nputN lc24.mem lc24.pos na fun b29 w32 f32 nb32 na32 => ?_⟩
 have lc32 := lc24.fr f32
 refine ⟨n.term,lc32.nb6.ld rfl,s26 hh lc32.mem lc32.pos fun r w37 f37 hr => ?_⟩
 obtain ⟨sb,rfl,nbb⟩ := newU hr
 have lc37 := lc32.fr f37
 refine ⟨_,_,rfl,nputN lc37.mem lc37.pos nbb fun b42 w45 f45 nb45 nb45' => ?_⟩
 have lc45 := lc37.fr f45
 have g3245 := f37.trans' f45 (Nat.le_refl _)
 have na45 := na32.fr lc32.mem g3245
 have nba45 := nb32.fr g3245
 have last : ∀ w',Fr w45.size w45 w' → onM (ldN 19 w' b18 0) fun x => onM (ldN 19 w' b6 0) fun y => Cl Tryz.prog hk 18 [x,y] w' fun r w2 => ∃ x3 : Bool,r = .bool x3 ∧ ifT x3 (Cl Tryz.prog hk 9 [] w2 fun r w3 => ∃ x4 : Bool,r = .bool x4 ∧ RT4 (.bool x4) w3) (RT4 (.bool false) w2) := by
  intro w' f
  have lc' := lc45.fr f
  exact onM_s lc'.nb18.ldN (onM_s lc'.nb6.ldN (s18 hh lc'.mem lc'.nr18 lc'.nr6 (few_n bn) fun w2 f2 => ⟨_,rfl,ifT_t (Cl_hook (hh.awake _) ⟨_,rfl,rfl⟩)⟩))
 refine ifT_d (fun _ => ifT_nd (fun h0 => last _ (Fr.refl lc45.mem)) fun h0 => ?_) fun h => absurd rfl h
 exact onM_s nba45.ldN (onM_s nb45.ldN (s18 hh lc45.mem na45 nb45' few_N fun w2 f2 => ⟨_,rfl,ifT_t (last w2 f2)⟩))
theorem s4 (hh : HK hk) (pv : Pv (fun _ => True) w) (h : NR TA w n s0) (bn : n.log.length ≤ 300 → Bn n) (hd : (rL rU).rd TA w [dv] d) (hsd : (rL rU).rd TA w [sv] sd) : Cl Tryz.prog hk 4 [.agg (ndC n s0),dv,ii index,ii id,sv] w RT4 := by
 refine in4 (hh.no _ _ _ (by decide) (by decide)) (J4 n s0 dv sv d sd index id) (law0 hh pv h bn hd hsd) ?_
 rintro vs w1 ⟨b6,b18,s1,rfl,lc1,lg⟩
 have bn' := bn lg
 refine go4_1 (J4 n s0 dv sv d sd index id) (law1 hh lc1 lg bn') ?_
 rintro vs w2 ⟨b6,b18,s1,rfl,lc2,_⟩
 refine go4_2 (J4 n s0 dv sv d sd index id) (law2 hh lc2 lg bn') ?_
 rintro vs w3 ⟨b6,b18,s1,rfl,lc3,_⟩
 refine go4_3 (J4' n s0 dv sv d sd index id) (law3 hh lc3 lg bn') ?_
 rintro vs w4 ⟨b6,b18,s1,rfl,lc4,_⟩
 exact go4_4 (law4 hh lc4 bn')
end
end Go.Proofs.YtghoifolghelnaaGreat
/-
 The chapter's first example comes out as written,by evaluation; numbers are sorted in their place.
 No condition beyond those that each theorem names.
-/
set_option linter.unusedSimpArgs false
set_option linter.unusedSimpArgs false
set_option linter.unusedVariables false
namespace Go.Proofs
open Go.RowKit Go.Maps Go.Sort Go.Shelf
shelf_lay_g SlLaysM.n5 Slgm 5 at Tryz 122 as Tryz.sorthk0
theorem Tryz.sortPhk0 : Go.Sx.SortP Tryz.prog 122 :=
 ⟨fun blk off cap ss W h1 h2 h3 => AnyM.slices_Sort_int Tryz.sorthk0 blk off cap ss W h1 h2 h3,fun p cap W => AnyM.slices_Sort_int_none Tryz.sorthk0 p cap W⟩
end Go.Proofs
namespace Go.Proofs.YtghoifolghelnaaGreat.raftAsks
open Go.Sx
noncomputable def hooks0 : List HR := []
theorem hooks0_ok : ∀ h ∈ hooks0,HRok Tryz.prog h := by
 intro h hh
 cases hh
set_option maxRecDepth 100000 in
theorem apart9 : kN Tryz.prog (hookOf hooks0) 100000 (.call 9 [] ⟨1,.nil⟩) (says (.bool true)) = true := by kernel_rfl
end Go.Proofs.YtghoifolghelnaaGreat.raftAsks
