/-
 What the functions of this chapter do.
 No condition beyond those that each theorem names.
-/
import Derived.Test.YtbjeebgdjlemjaaSxs
import Derived.Test.YtbjeebgdjlemjaaSxl
import Derived.Test.YtbjeebgdjlemjaaSxw
import Derived.Test.YtbjeebgdjlemjaaSxt
import Derived.Test.YtbjeebgdjlemjaaSxp
set_option linter.unusedSimpArgs false
/-! The document's disk of chapter 7, purely, and how it goes with the program's. -/
namespace Go.Sx
structure RSt where
 names : List (Byts × Int)
 files : List (Int × List Byts)
def rsec (fs : List (Int × List Byts)) (f : Int) : List Byts := ((fs.find? fun x => decide (x.1 = f)).map (·.2)).getD []
def rwo (ns : List (Byts × Int)) (s : Byts) : List (Byts × Int) := ns.filter fun x => decide (x.1 ≠ s)
def rwith (fs : List (Int × List Byts)) (f : Int) (l : List Byts) : List (Int × List Byts) := (fs.filter fun x => decide (x.1 ≠ f)) ++ [(f,l)]
def RSt.find (r : RSt) (s : Byts) : Int := (nget r.names s).getD 0
def RSt.does (r : RSt) (x : Stp) : RSt :=
 if x.what = 0 then ⟨rwo r.names x.name ++ [(x.name,x.file)],r.files⟩
 else if x.what = 1 then ⟨r.names,rwith r.files x.file (putS (rsec r.files x.file) x.n.toNat x.data)⟩
 else if x.what = 2 then ⟨r.names,rwith r.files x.file ((rsec r.files x.file).take x.n.toNat)⟩
 else if x.what = 3 then (if r.find x.name = x.file then ⟨rwo (rwo r.names x.name) x.to ++ [(x.to,x.file)],r.files⟩ else r)
 else (if r.find x.name = x.file then ⟨rwo r.names x.name,r.files⟩ else r)
def RSt.ff (r : RSt) : FF := ⟨nget r.names,rsec r.files⟩
theorem nget_rwo {ns : List (Byts × Int)} {s t : Byts} : nget (rwo ns s) t = if t = s then none else nget ns t := by
 unfold nget rwo
 rw [List.find?_filter]
 by_cases h : t = s
 ·rw [if_pos h,Option.map_eq_none_iff,List.find?_eq_none]
  intro x _
  simp; intro h1; rw [h]; exact h1
 ·rw [if_neg h]
  congr 1
  congr 1
  funext x
  by_cases hx : x.1 = t
  ·simp [hx,h]
  ·simp [hx]
theorem keysN_rwo {ns : List (Byts × Int)} {s : Byts} (h : keysN ns) : keysN (rwo ns s) := List.Nodup.sublist (List.Sublist.map _ List.filter_sublist) h
theorem nget_snoc {ns : List (Byts × Int)} {s t : Byts} {f : Int} (h : nget ns s = none) : nget (ns ++ [(s, f)]) t = if t = s then some f else nget ns t := by
  by_cases e : t = s
  · rw [if_pos e, e]; exact nget_new h
  · rw [if_neg e]
    unfold nget
    rw [List.find?_append]
    cases ns.find? fun x => decide (x.1 = t) with
    | some x => rfl
    | none =>
      have h' : ¬ s = t := fun h => e h.symm
      simp [h']
theorem keysN_snoc {ns : List (Byts × Int)} {s : Byts} {f : Int} (h : keysN ns) (hn : nget ns s = none) : keysN (ns ++ [(s,f)]) := by
 unfold keysN
 rw [List.map_append,List.nodup_append]
 refine ⟨h,by simp,fun a ha b hb => ?_⟩
 simp at hb
 subst hb
 rintro rfl
 rw [mem_keys,hn] at ha
 cases ha
theorem rsec_rwith {fs : List (Int × List Byts)} {f : Int} {l : List Byts} : rsec (rwith fs f l) = updF (rsec fs) f l := by
  funext k
  show (Option.map (fun x => x.2) (List.find? (fun x => decide (x.1 = k)) ((fs.filter fun x => decide (x.1 ≠ f)) ++ [(f, l)]))).getD [] = if k = f then l else (Option.map (fun x => x.2) (List.find? (fun x => decide (x.1 = k)) fs)).getD []
  rw [List.find?_append, List.find?_filter]
  by_cases h : k = f
  · subst h
    rw [if_pos rfl, List.find?_eq_none.2 (fun x _ => by simp)]
    simp
  · rw [if_neg h]
    have e : (fun x : Int × List Byts => decide (decide (x.1 ≠ f) = true ∧ decide (x.1 = k) = true)) = fun x => decide (x.1 = k) := by
      funext x
      by_cases hx : x.1 = k
      · simp [hx, h]
      · simp [hx]
    rw [e]
    cases fs.find? fun x => decide (x.1 = k) with
    | some x => rfl
    | none =>
      have h' : ¬ f = k := fun h2 => h h2.symm
      simp [h']
theorem rfind_iff {r : RSt} {s : Byts} {f : Int} (hf : f ≠ 0) : r.find s = f ↔ nget r.names s = some f := by
 unfold RSt.find
 cases nget r.names s with
 | none => simp; exact fun h => hf h.symm
 | some g => simp
theorem rdoes_keysN {r : RSt} (h : keysN r.names) (x : Stp) : keysN (r.does x).names := by
 unfold RSt.does
 split
 ·exact keysN_snoc (keysN_rwo h) (by rw [nget_rwo,if_pos rfl])
 ·split
  ·exact h
  ·split
   ·exact h
   ·split
    ·split
     ·exact keysN_snoc (keysN_rwo (keysN_rwo h)) (by rw [nget_rwo,if_pos rfl])
     ·exact h
    ·split
     ·exact keysN_rwo h
     ·exact h
theorem rff_does {r : RSt} {x : Stp} (hx : x.file ≠ 0) : (r.does x).ff = r.ff.does x := by
 unfold RSt.does FF.does RSt.ff
 simp only []
 split
 ·congr 1; funext t; rw [nget_snoc (by rw [nget_rwo,if_pos rfl]),nget_rwo]
  by_cases h : t = x.name <;> simp [h]
 ·split
  ·congr 1; exact rsec_rwith
  ·split
   ·congr 1; exact rsec_rwith
   ·by_cases h : nget r.names x.name = some x.file
    ·rw [if_pos h]
     have h' := (rfind_iff (r := r) hx).2 h
     simp only [h',if_true]
     split
     ·congr 1; funext t
      rw [nget_snoc (by rw [nget_rwo,if_pos rfl]),nget_rwo,nget_rwo]
      by_cases h : t = x.to <;> simp [h]
     ·congr 1; funext t; exact nget_rwo
    ·rw [if_neg h]
     have h' : ¬ r.find x.name = x.file := fun e => h ((rfind_iff hx).1 e)
     simp only [h',if_false,ite_self]
theorem rff_foldl : ∀ {l : List Stp} {r : RSt}, keysN r.names → (∀ x ∈ l, x.file ≠ 0) → (l.foldl RSt.does r).ff = l.foldl FF.does r.ff ∧ keysN (l.foldl RSt.does r).names
  | [], r, h, _ => ⟨rfl, h⟩
  | a :: l, r, h, hl => by
    obtain ⟨h1, h2⟩ := rff_foldl (l := l) (rdoes_keysN h a) fun x hx => hl x (List.mem_cons_of_mem _ hx)
    exact ⟨by rw [List.foldl_cons, h1, rff_does (hl a List.mem_cons_self)]; rfl, h2⟩
structure RDk where
 safe : RSt
 steps : List Stp
 last : Int
 down : Bool
 arm : Int
 fault : Int
 wth : Int
def RDk.none : RDk := ⟨⟨[],[]⟩,[],0,false,-1,-1,0⟩
def RDk.now (r : RDk) : RSt := r.steps.foldl RSt.does r.safe
def down1 (n : Int) : Int := if 0 ≤ n then wi (n + -1) else n
def RDk.op (r : RDk) : RDk × Int :=
 if r.down then (r,6) else
 if r.arm = 0 then ({ r with arm := down1 r.arm,fault := down1 r.fault,down := true },6)
 else ({ r with arm := down1 r.arm,fault := down1 r.fault },if r.fault = 0 then r.wth else 0)
def RDk.more (r : RDk) (l : List Stp) : RDk × Int := if r.op.2 ≠ 0 then r.op else ({ r.op.1 with steps := r.steps ++ l },0)
def RDk.put (r : RDk) (s : Byts) (at_ : Int) (data : Byts) : RDk × Int :=
 let f := r.now.find s
 if !named s ∨ data.length ≠ 64 ∨ at_ < 0 ∨ ((rsec r.now.files f).length : Int) < at_ then (r,2)
 else if at_ = 4096 ∨ (f = 0 ∧ 256 ≤ r.now.names.length) then (r,5)
 else if f ≠ 0 then r.more [⟨1,f,at_,data,[],[]⟩]
 else
  let q := r.more [⟨0,r.last + 1,0,zsec,s,[]⟩,⟨1,r.last + 1,at_,data,[],[]⟩]
  if q.2 = 0 then ({ q.1 with last := q.1.last + 1 },0) else q
def RDk.cut (r : RDk) (s : Byts) (n : Int) : RDk × Int :=
 let f := r.now.find s
 if f = 0 then (r,70) else if n < 0 ∨ ((rsec r.now.files f).length : Int) < n then (r,2) else r.more [⟨2,f,n,zsec,[],[]⟩]
def RDk.rename (r : RDk) (a b : Byts) : RDk × Int :=
 if !named b then (r,2) else
 let f := r.now.find a
 if f = 0 then (r,70) else if a = b then r.more [] else r.more [⟨3,f,0,zsec,a,b⟩]
def RDk.remove (r : RDk) (a : Byts) : RDk × Int :=
 let f := r.now.find a
 if f = 0 then (r,70) else r.more [⟨4,f,0,zsec,a,[]⟩]
def uptoR (f : Int) : Nat → List Stp → Int → Int
 | _,[],u => u
 | i,x :: r,u => uptoR f (i + 1) r (if f = 0 ∨ (x.what = 0 ∧ x.file = f) then (i : Int) else u)
def soR (f u : Int) (i : Nat) (x : Stp) : Bool := if x.what = 1 ∨ x.what = 2 then decide (x.file = f) else decide ((i : Int) ≤ u)
def settR (so : Nat → Stp → Bool) : Nat → List Stp → RSt → RSt × List Stp
 | _,[],s => (s,[])
 | i,x :: r,s => if so i x then settR so (i + 1) r (s.does x) else ((settR so (i + 1) r s).1,x :: (settR so (i + 1) r s).2)
def RDk.settled (r : RDk) (f : Int) : RDk × Int :=
 if r.op.2 ≠ 0 then r.op else
 let q := settR (soR f (uptoR f 0 r.steps (-1))) 0 r.steps r.op.1.safe
 ({ r.op.1 with safe := q.1,steps := q.2 },0)
def RDk.sync (r : RDk) (a : Byts) : RDk × Int := let f := r.now.find a; if f = 0 then (r,70) else r.settled f
def RDk.read (r : RDk) (a : Byts) : Byts × Int :=
 let f := r.now.find a
 if f = 0 then ([],70) else if r.down then ([],6) else ((rsec r.now.files f).flatten,0)
def RDk.armed (r : RDk) (n : Int) : RDk × Int := if n < 0 then (r,2) else ({ r with arm := n },0)
def RDk.failing (r : RDk) (n e : Int) : RDk × Int := if n < 0 ∨ (e ≠ 4 ∧ e ≠ 5) then (r,2) else ({ r with fault := n,wth := e },0)
def keepR (keep : List Bool) : Nat → List Stp → RSt → RSt
 | _,[],s => s
 | i,x :: r,s => keepR keep (i + 1) r (if keep.getD i false then s.does x else s)
def heldR (s : RSt) : List (Int × List Byts) := s.files.filter fun x => s.names.any fun n => decide (n.2 = x.1)
def RDk.crash (r : RDk) (keep : List Bool) : RDk :=
 let s := keepR keep 0 r.steps r.safe
 ⟨⟨s.names,heldR s⟩,[],r.last,false,-1,-1,0⟩
def Gd (x : Stp) : Prop := 1 ≤ x.file ∧ 0 ≤ x.what ∧ x.what ≤ 4 ∧ (x.what = 0 → named x.name = true) ∧ (x.what = 3 → named x.to = true)
def GF (s : FF) : Prop := (∀ t f,s.N t = some f → named t = true ∧ 1 ≤ f) ∧ s.F 0 = []
theorem GF.does {s : FF} {x : Stp} (h : GF s) (hx : Gd x) : GF (s.does x) := by
 obtain ⟨h1,h2,h3,h4,h5⟩ := hx
 have hu : ∀ l,updF s.F x.file l 0 = [] := fun l => by unfold updF; rw [if_neg (by omega)]; exact h.2
 unfold FF.does
 split
 ·rename_i e
  refine ⟨fun t f hf => ?_,h.2⟩
  simp only [] at hf
  split at hf
  ·rename_i et; cases hf; rw [et]; exact ⟨h4 e,h1⟩
  ·exact h.1 t f hf
 ·split
  ·exact ⟨h.1,hu _⟩
  ·split
   ·exact ⟨h.1,hu _⟩
   ·split
    ·split
     ·rename_i e
      refine ⟨fun t f hf => ?_,h.2⟩
      simp only [] at hf
      split at hf
      ·rename_i et; cases hf; rw [et]; exact ⟨h5 e,h1⟩
      ·split at hf
       ·cases hf
       ·exact h.1 t f hf
     ·refine ⟨fun t f hf => ?_,h.2⟩
      simp only [] at hf
      split at hf
      ·cases hf
      ·exact h.1 t f hf
    ·exact h
theorem GF.foldl : ∀ {l : List Stp} {s : FF}, GF s → (∀ x ∈ l, Gd x) → GF (l.foldl FF.does s)
  | [], _, h, _ => h
  | a :: l, s, h, hl => by
    rw [List.foldl_cons]
    exact GF.foldl (h.does (hl a List.mem_cons_self)) fun x hx => hl x (List.mem_cons_of_mem _ hx)
def Cnt (c : Nat) (a r : Int) : Prop := (r = -1 ∧ a = 0) ∨ (0 ≤ r ∧ r < 2 ^ 63 ∧ ∃ j : Nat,j ≤ c ∧ a = min r (2 ^ 62 - j) + 1)
theorem Cnt.le {c c' : Nat} {a r : Int} (h : Cnt c a r) (hc : c ≤ c') : Cnt c' a r := by
 rcases h with h | ⟨h1,h2,j,h3,h4⟩
 ·exact .inl h
 ·exact .inr ⟨h1,h2,j,by omega,h4⟩
theorem Cnt.spent {c : Nat} {a r : Int} (h : Cnt c a r) (hc : c < 1000) : Cnt (c + 1) (spent a).1 (down1 r) ∧ ((spent a).2 = decide (r = 0)) := by
 rcases h with ⟨rfl,rfl⟩ | ⟨h1,h2,j,h3,h4⟩
 ·exact ⟨.inl ⟨rfl,rfl⟩,rfl⟩
 ·have ha : a ≠ 0 := by omega
  have e1 : wi (a + -1) = a + -1 := wi_eq (by omega) (by omega)
  have e2 : wi (r + -1) = r + -1 := wi_eq (by omega) (by omega)
  unfold Sx.spent down1
  rw [if_neg ha,if_pos h1,e1,e2]
  refine ⟨?_,?_⟩
  ·by_cases h0 : r = 0
   ·left; subst h0; simp at h4 ⊢; omega
   ·right; exact ⟨by omega,by omega,j + 1,by omega,by simp only []; omega⟩
  ·apply decide_eq_decide.2; omega
structure RR (c : Nat) (d : Dsk) (r : RDk) : Prop where
 kd : keysN d.safe.names
 kr : keysN r.safe.names
 kn : keysN d.now.names
 ff : r.safe.ff = d.safe.ff
 re : d.steps.foldl FF.does d.safe.ff = d.now.ff
 st : r.steps = d.steps
 gd : ∀ x ∈ d.steps,Gd x
 gs : GF d.safe.ff
 mkd : ((d.steps.filter fun x => decide (x.what = 0)).map (·.file)).Nodup
 ml : ∀ x ∈ d.steps,x.what = 0 → x.file ≤ d.last
 last : r.last = d.last
 l0 : 0 ≤ d.last
 down : r.down = d.down
 arm : Cnt c d.arm r.arm
 fault : Cnt c d.fault r.fault
 wth : 0 ≤ r.fault → r.wth = d.wth
section
variable {c : Nat} {d : Dsk} {r : RDk}
theorem RR.le {c' : Nat} (h : RR c d r) (hc : c ≤ c') : RR c' d r := ⟨h.kd,h.kr,h.kn,h.ff,h.re,h.st,h.gd,h.gs,h.mkd,h.ml,h.last,h.l0,h.down,h.arm.le hc,h.fault.le hc,h.wth⟩
theorem RR.none : RR 0 Dsk.none RDk.none := ⟨List.nodup_nil,List.nodup_nil,List.nodup_nil,rfl,rfl,rfl,by simp [Dsk.none],⟨fun t f h => (by cases h),rfl⟩,List.nodup_nil,by simp [Dsk.none],rfl,Int.le_refl _,rfl,.inl ⟨rfl,rfl⟩,.inl ⟨rfl,rfl⟩,fun h => by simp [RDk.none] at h⟩
theorem RR.nowff (h : RR c d r) : r.now.ff = d.now.ff ∧ keysN r.now.names ∧ GF d.now.ff := by
 have hx : ∀ x ∈ r.steps,x.file ≠ 0 := fun x hx => by rw [h.st] at hx; have := (h.gd x hx).1; omega
 obtain ⟨h1,h2⟩ := rff_foldl (l := r.steps) h.kr hx
 refine ⟨?_,h2,?_⟩
 ·rw [← h.re]
  show (r.steps.foldl RSt.does r.safe).ff = _
  rw [h1,h.st,h.ff]
 ·rw [← h.re]; exact h.gs.foldl h.gd
theorem RR.get (h : RR c d r) (s : Byts) : nget r.now.names s = nget d.now.names s := congrFun (congrArg FF.N h.nowff.1) s
theorem RR.sec (h : RR c d r) (f : Int) : rsec r.now.files f = d.now.files f := congrFun (congrArg FF.F h.nowff.1) f
theorem RR.find (h : RR c d r) (s : Byts) : r.now.find s = (nget d.now.names s).getD 0 := by unfold RSt.find; rw [h.get]
theorem RR.found (h : RR c d r) {s : Byts} {f : Int} (hg : nget d.now.names s = some f) : r.now.find s = f ∧ 1 ≤ f := by
 rw [h.find,hg]; exact ⟨rfl,(h.nowff.2.2.1 s f hg).2⟩
theorem RR.perm (h : RR c d r) : (r.now.names.map (·.1)).Perm (d.now.names.map (·.1)) := keys_perm h.nowff.2.1 h.kn (congrArg FF.N h.nowff.1)
theorem RR.len (h : RR c d r) : r.now.names.length = d.now.names.length := by have := h.perm.length_eq; simpa using this
theorem RR.read (h : RR c d r) (a : Byts) : r.read a = d.read a := by
  unfold RDk.read Dsk.read
  cases hg : nget d.now.names a with
  | none => simp [h.find, hg]
  | some f =>
    obtain ⟨h1, h2⟩ := h.found hg
    have h3 : ¬ f = 0 := by omega
    simp only [h1, h3, if_false, h.down, h.sec]
theorem RR.op (h : RR c d r) (hc : c < 1000) : RR (c + 1) d.stopped.1 r.op.1 ∧ r.op.2 = d.stopped.2 := by
 unfold RDk.op Dsk.stopped
 rw [h.down]
 split
 ·exact ⟨h.le (by omega),rfl⟩
 ·obtain ⟨a1,a2⟩ := h.arm.spent hc
  obtain ⟨f1,f2⟩ := h.fault.spent hc
  have hd : ∀ {n : Int},0 ≤ down1 n → 0 ≤ n := fun {n} hn => by unfold down1 at hn; split at hn <;> omega
  rw [a2]
  by_cases h0 : r.arm = 0
  ·simp only [h0,decide_true,if_true,and_true]
   exact ⟨h.kd,h.kr,h.kn,h.ff,h.re,h.st,h.gd,h.gs,h.mkd,h.ml,h.last,h.l0,rfl,by rw [← h0]; exact a1,f1,fun hh => h.wth (hd hh)⟩
  ·simp only [h0,decide_false,Bool.false_eq_true,if_false]
   refine ⟨⟨h.kd,h.kr,h.kn,h.ff,h.re,h.st,h.gd,h.gs,h.mkd,h.ml,h.last,h.l0,rfl,a1,f1,fun hh => h.wth (hd hh)⟩,?_⟩
   rw [f2]
   by_cases h1 : r.fault = 0
   ·simp only [h1,if_true,decide_true]; exact h.wth (by omega)
   ·simp only [h1,if_false,decide_false,Bool.false_eq_true]
theorem op_same (r : RDk) : r.op.1.steps = r.steps ∧ r.op.1.safe = r.safe ∧ r.op.1.last = r.last := by
 unfold RDk.op
 split
 ·exact ⟨rfl,rfl,rfl⟩
 ·split <;> exact ⟨rfl,rfl,rfl⟩
theorem RR.more (h : RR c d r) (hc : c < 1000) {l : List Stp} (hl : ∀ x ∈ l,Gd x) (hm : ∀ x ∈ l,x.what ≠ 0) : RR (c + 1) (d.more l).1 (r.more l).1 ∧ (r.more l).2 = (d.more l).2 := by
 obtain ⟨h1,h2⟩ := h.op hc
 unfold RDk.more Dsk.more
 rw [h2]
 split
 ·exact ⟨h1,h2⟩
 ·obtain ⟨g1,g2⟩ := ff_foldl (l := l) h1.kn
  have e1 := op_same r
  refine ⟨⟨h1.kd,h1.kr,g2,h1.ff,?_,?_,fun x hx => ?_,h1.gs,?_,fun x hx hw => ?_,h1.last,h1.l0,h1.down,h1.arm,h1.fault,h1.wth⟩,rfl⟩
  ·show (d.stopped.1.steps ++ l).foldl FF.does _ = _
   rw [List.foldl_append,h1.re,g1]
  ·show r.steps ++ l = d.stopped.1.steps ++ l
   rw [(stopped_same d).1,h.st]
  ·rcases List.mem_append.1 hx with hx | hx
   ·exact h1.gd x hx
   ·exact hl x hx
  ·show (((d.stopped.1.steps ++ l).filter _).map _).Nodup
   rw [List.filter_append,show l.filter (fun x => decide (x.what = 0)) = [] from List.filter_eq_nil_iff.2 fun x hx => by simpa using hm x hx,List.append_nil]
   exact h1.mkd
  ·rcases List.mem_append.1 hx with hx | hx
   ·exact h1.ml x hx hw
   ·exact absurd hw (hm x hx)
theorem RR.more0 (h : RR c d r) (hc : c < 1000) {a data : Byts} {at_ : Int} (ha : named a = true) :
  let l : List Stp := [⟨0,d.last + 1,0,zsec,a,[]⟩,⟨1,d.last + 1,at_,data,[],[]⟩]
  (r.more l).2 = (d.more l).2 ∧ ((d.more l).2 ≠ 0 → RR (c + 1) (d.more l).1 (r.more l).1) ∧ ((d.more l).2 = 0 → RR (c + 1) { (d.more l).1 with last := d.last + 1 } { (r.more l).1 with last := r.last + 1 }) := by
 intro l
 obtain ⟨h1,h2⟩ := h.op hc
 have hl : ∀ x ∈ l,Gd x := fun x hx => by
  have := h.l0
  simp [l] at hx
  rcases hx with rfl | rfl
  ·exact ⟨by simp only []; omega,by simp,by simp,fun _ => ha,by simp⟩
  ·exact ⟨by simp only []; omega,by simp,by simp,by simp,by simp⟩
 unfold RDk.more Dsk.more
 rw [h2]
 split
 ·rename_i hn
  exact ⟨h2,fun _ => h1,fun e => absurd e hn⟩
 ·obtain ⟨g1,g2⟩ := ff_foldl (l := l) h1.kn
  have el : d.stopped.1.last = d.last := (stopped_same d).2.2.2.1
  refine ⟨rfl,fun e => absurd rfl e,fun _ => ⟨h1.kd,h1.kr,g2,h1.ff,?_,?_,fun x hx => ?_,h1.gs,?_,fun x hx hw => ?_,?_,?_,h1.down,h1.arm,h1.fault,h1.wth⟩⟩
  ·show (d.stopped.1.steps ++ l).foldl FF.does _ = _
   rw [List.foldl_append,h1.re,g1]
  ·show r.steps ++ l = d.stopped.1.steps ++ l
   rw [(stopped_same d).1,h.st]
  ·rcases List.mem_append.1 hx with hx | hx
   ·exact h1.gd x hx
   ·exact hl x hx
  ·show (((d.stopped.1.steps ++ l).filter _).map _).Nodup
   rw [List.filter_append,List.map_append,List.nodup_append]
   refine ⟨h1.mkd,by simp [l],fun x hx y hy => ?_⟩
   simp [l] at hy
   obtain ⟨z,hz,rfl⟩ := List.mem_map.1 hx
   obtain ⟨hz1,hz2⟩ := List.mem_filter.1 hz
   have := h1.ml z hz1 (of_decide_eq_true hz2)
   rw [el] at this
   omega
  ·show x.file ≤ d.last + 1
   rcases List.mem_append.1 hx with hx | hx
   ·have := h1.ml x hx hw; rw [el] at this; omega
   ·simp [l] at hx
    rcases hx with rfl | rfl
    ·exact Int.le_refl _
    ·cases hw
  ·show r.last + 1 = d.last + 1
   rw [h.last]
  ·show 0 ≤ d.last + 1
   have := h.l0; omega
theorem more_last (r : RDk) (l : List Stp) : (r.more l).1.last = r.last := by
 unfold RDk.more
 split
 ·exact (op_same r).2.2
 ·exact (op_same r).2.2
theorem RR.put (h : RR c d r) (hc : c < 1000) (a : Byts) (at_ : Int) (data : Byts) : RR (c + 1) (d.put a at_ data).1 (r.put a at_ data).1 ∧ (r.put a at_ data).2 = (d.put a at_ data).2 := by
  unfold RDk.put Dsk.put
  simp only [h.find, h.sec, h.len]
  cases hg : nget d.now.names a with
  | some f =>
    obtain ⟨_, hf⟩ := h.found hg
    have hf0 : ¬ f = 0 := by omega
    simp only [Option.getD_some, reduceCtorEq, false_and, or_false]
    split
    · exact ⟨h.le (by omega), rfl⟩
    · by_cases h4 : at_ = 4096
      · rw [if_pos h4, if_pos (Or.inl h4)]; exact ⟨h.le (by omega), rfl⟩
      · have h5 : ¬ (at_ = 4096 ∨ f = 0 ∧ 256 ≤ d.now.names.length) := fun h => h.elim h4 fun h => hf0 h.1
        rw [if_neg h4, if_neg h5]
        refine h.more hc (fun x hx => ?_) fun x hx => ?_
        · simp at hx; subst hx; exact ⟨hf, by simp, by simp, by simp, by simp⟩
        · simp at hx; subst hx; simp
  | none =>
    have h0 : d.now.files 0 = [] := h.nowff.2.2.2
    simp only [Option.getD_none, h0, List.length_nil, Int.ofNat_zero, true_and]
    have hb : ((!named a) = true ∨ data.length ≠ 64 ∨ at_ < 0 ∨ (0 : Int) < at_ ∨ 0 < at_) ↔ ((!named a) = true ∨ data.length ≠ 64 ∨ at_ < 0 ∨ (0 : Int) < at_) := by
      constructor
      · rintro (h | h | h | h | h)
        · exact .inl h
        · exact .inr (.inl h)
        · exact .inr (.inr (.inl h))
        · exact .inr (.inr (.inr h))
        · exact .inr (.inr (.inr h))
      · rintro (h | h | h | h)
        · exact .inl h
        · exact .inr (.inl h)
        · exact .inr (.inr (.inl h))
        · exact .inr (.inr (.inr (.inl h)))
    by_cases hA : ((!named a) = true ∨ data.length ≠ 64 ∨ at_ < 0 ∨ (0 : Int) < at_)
    · rw [if_pos hA, if_pos (hb.2 hA)]; exact ⟨h.le (by omega), rfl⟩
    · rw [if_neg hA, if_neg (fun e => hA (hb.1 e))]
      split
      · exact ⟨h.le (by omega), rfl⟩
      · rw [if_neg (show ¬ ((0 : Int) ≠ 0) from fun h => h rfl)]
        have hn : named a = true := by
          simp only [not_or] at hA
          simpa using hA.1
        obtain ⟨g1, g2, g3⟩ := h.more0 (data := data) (at_ := at_) hc hn
        rw [h.last] at g3 ⊢
        simp only [] at g1 g2 g3
        have hl : (r.more [⟨0, d.last + 1, 0, zsec, a, []⟩, ⟨1, d.last + 1, at_, data, [], []⟩]).1.last = d.last := by rw [more_last, h.last]
        rw [g1, hl]
        by_cases e : (d.more [⟨0, d.last + 1, 0, zsec, a, []⟩, ⟨1, d.last + 1, at_, data, [], []⟩]).2 = 0
        · simp only [ne_eq, e, not_true_eq_false, if_false, if_true]; exact ⟨g3 e, trivial⟩
        · simp only [ne_eq, e, not_false_eq_true, if_false, if_true]; exact ⟨g2 e, g1⟩
theorem RR.cut (h : RR c d r) (hc : c < 1000) (a : Byts) (n : Int) : RR (c + 1) (d.cut a n).1 (r.cut a n).1 ∧ (r.cut a n).2 = (d.cut a n).2 := by
  unfold RDk.cut Dsk.cut
  simp only [h.find, h.sec]
  cases hg : nget d.now.names a with
  | none => exact ⟨h.le (by omega), rfl⟩
  | some f =>
    obtain ⟨_, hf⟩ := h.found hg
    have hf0 : ¬ f = 0 := by omega
    simp only [Option.getD_some, hf0, if_false]
    split
    · exact ⟨h.le (by omega), rfl⟩
    · refine h.more hc (fun x hx => ?_) fun x hx => ?_
      · simp at hx; subst hx; exact ⟨hf, by simp, by simp, by simp, by simp⟩
      · simp at hx; subst hx; simp
theorem RR.rename (h : RR c d r) (hc : c < 1000) (a b : Byts) : RR (c + 1) (d.rename a b).1 (r.rename a b).1 ∧ (r.rename a b).2 = (d.rename a b).2 := by
  unfold RDk.rename Dsk.rename
  simp only [h.find]
  split
  · exact ⟨h.le (by omega), rfl⟩
  · rename_i hn
    cases hg : nget d.now.names a with
    | none => exact ⟨h.le (by omega), rfl⟩
    | some f =>
      obtain ⟨_, hf⟩ := h.found hg
      have hf0 : ¬ f = 0 := by omega
      simp only [Option.getD_some, hf0, if_false]
      split
      · exact h.more hc (fun x hx => by cases hx) fun x hx => by cases hx
      · refine h.more hc (fun x hx => ?_) fun x hx => ?_
        · simp at hx; subst hx; exact ⟨hf, by simp, by simp, by simp, fun _ => by simpa using hn⟩
        · simp at hx; subst hx; simp
theorem RR.remove (h : RR c d r) (hc : c < 1000) (a : Byts) : RR (c + 1) (d.remove a).1 (r.remove a).1 ∧ (r.remove a).2 = (d.remove a).2 := by
  unfold RDk.remove Dsk.remove
  simp only [h.find]
  cases hg : nget d.now.names a with
  | none => exact ⟨h.le (by omega), rfl⟩
  | some f =>
    obtain ⟨_, hf⟩ := h.found hg
    have hf0 : ¬ f = 0 := by omega
    simp only [Option.getD_some, hf0, if_false]
    refine h.more hc (fun x hx => ?_) fun x hx => ?_
    · simp at hx; subst hx; exact ⟨hf, by simp, by simp, by simp, by simp⟩
    · simp at hx; subst hx; simp
theorem RR.armed (h : RR c d r) {n : Int} (hn : n < 2 ^ 63) : RR c (if n < 0 then (d,(2 : Int)) else ({ d with arm := wi (imin n 4611686018427387904 + 1) },0)).1 (r.armed n).1 ∧ (r.armed n).2 = (if n < 0 then (d,(2 : Int)) else ({ d with arm := wi (imin n 4611686018427387904 + 1) },0)).2 := by
 unfold RDk.armed
 split
 ·exact ⟨h,rfl⟩
 ·refine ⟨⟨h.kd,h.kr,h.kn,h.ff,h.re,h.st,h.gd,h.gs,h.mkd,h.ml,h.last,h.l0,h.down,?_,h.fault,h.wth⟩,rfl⟩
  refine .inr ⟨by simp only []; omega,hn,0,by omega,?_⟩
  show wi (imin n 4611686018427387904 + 1) = _
  unfold imin
  rw [wi_eq (by split <;> omega) (by split <;> omega)]
  simp only []; split <;> omega
theorem RR.failing (h : RR c d r) {n e : Int} (hn : n < 2 ^ 63) : RR c (if n < 0 ∨ (e ≠ 4 ∧ e ≠ 5) then (d,(2 : Int)) else ({ d with fault := wi (imin n 4611686018427387904 + 1),wth := e },0)).1 (r.failing n e).1 ∧ (r.failing n e).2 = (if n < 0 ∨ (e ≠ 4 ∧ e ≠ 5) then (d,(2 : Int)) else ({ d with fault := wi (imin n 4611686018427387904 + 1),wth := e },0)).2 := by
 unfold RDk.failing
 split
 ·exact ⟨h,rfl⟩
 ·refine ⟨⟨h.kd,h.kr,h.kn,h.ff,h.re,h.st,h.gd,h.gs,h.mkd,h.ml,h.last,h.l0,h.down,h.arm,?_,fun _ => rfl⟩,rfl⟩
  refine .inr ⟨by simp only []; omega,hn,0,by omega,?_⟩
  show wi (imin n 4611686018427387904 + 1) = _
  unfold imin
  rw [wi_eq (by split <;> omega) (by split <;> omega)]
  simp only []; split <;> omega
end
/-! ### What is settled -/
theorem uptoR_none {f : Int} (hf : f ≠ 0) : ∀ {l : List Stp} {i : Nat} {u : Int}, (∀ x ∈ l, ¬ (x.what = 0 ∧ x.file = f)) → uptoR f i l u = u
  | [], _, _, _ => rfl
  | x :: l, i, u, h => by
    have h0 := h x List.mem_cons_self
    simp only [uptoR, hf, h0, or_self, if_false]
    exact uptoR_none hf fun y hy => h y (List.mem_cons_of_mem _ hy)
theorem uptoR_eq {f : Int} (hf : f ≠ 0) : ∀ {l : List Stp} {i : Nat} {u : Int}, ((l.filter fun x => decide (x.what = 0)).map (·.file)).Nodup → uptoR f i l u = match l.findIdx? (fun x => decide (x.file = f) && decide (x.what = 0)) with | some j => ((i + j : Nat) : Int) | none => u
  | [], _, _, _ => rfl
  | x :: l, i, u, h => by
    rw [List.findIdx?_cons]
    by_cases hx : x.what = 0 ∧ x.file = f
    · have e : (decide (x.file = f) && decide (x.what = 0)) = true := by simp [hx]
      simp only [uptoR, hx, and_self, or_true, if_true]
      rw [List.filter_cons, if_pos (by simp [hx.1]), List.map_cons] at h
      have h1 := (List.nodup_cons.1 h).1
      rw [uptoR_none hf fun y hy hyy => h1 (List.mem_map.2 ⟨y, List.mem_filter.2 ⟨hy, by simp [hyy.1]⟩, by rw [hyy.2, hx.2]⟩)]
      simp
    · have e : (decide (x.file = f) && decide (x.what = 0)) = false := by
        rw [Bool.and_eq_false_iff, decide_eq_false_iff_not, decide_eq_false_iff_not]
        by_cases h1 : x.file = f
        · exact .inr fun h2 => hx ⟨h2, h1⟩
        · exact .inl h1
      simp only [uptoR, hf, hx, e, or_self, if_false]
      have h' : ((l.filter fun x => decide (x.what = 0)).map (·.file)).Nodup := by
        refine List.Nodup.sublist (List.Sublist.map _ ?_) h
        rw [List.filter_cons]
        split
        · exact List.sublist_cons_self _ _
        · exact List.Sublist.refl _
      rw [uptoR_eq hf h']
      cases l.findIdx? (fun x => decide (x.file = f) && decide (x.what = 0)) with
      | none => rfl
      | some j => simp only [Option.map_some]; congr 1; omega
theorem uptoR_zero : ∀ {l : List Stp} {i : Nat} {u : Int}, l ≠ [] → uptoR 0 i l u = ((i + l.length : Nat) : Int) - 1
  | [], _, _, h => absurd rfl h
  | [x], i, u, _ => by simp [uptoR]
  | x :: y :: l, i, u, _ => by
    rw [uptoR, uptoR_zero (by simp)]
    simp only [List.length_cons]; omega
theorem settleL_congr {so so' : Nat → Stp → Bool} : ∀ {l : List Stp} {i : Nat} {s : FS}, (∀ j (hj : j < l.length), so (i + j) l[j] = so' (i + j) l[j]) → settleL so i l s = settleL so' i l s
  | [], _, _, _ => rfl
  | a :: l, i, s, h => by
    have h0 := h 0 (by simp)
    simp only [Nat.add_zero, List.getElem_cons_zero] at h0
    have hr : ∀ s, settleL so (i + 1) l s = settleL so' (i + 1) l s := fun s => settleL_congr fun j hj => by
      have := h (j + 1) (by simp; omega)
      rw [show i + 1 + j = i + (j + 1) by omega]; simpa using this
    simp only [settleL, h0, hr]
theorem settR_eq {so : Nat → Stp → Bool} : ∀ {l : List Stp} {i : Nat} {s : RSt} {t : FS}, (settR so i l s).1 = (sett so i l).foldl RSt.does s ∧ (settR so i l s).2 = (settleL so i l t).2
  | [], _, _, _ => ⟨rfl, rfl⟩
  | a :: l, i, s, t => by
    simp only [settR, settleL, sett]
    split
    · obtain ⟨h1, h2⟩ := settR_eq (so := so) (l := l) (i := i + 1) (s := s.does a) (t := t.does a)
      exact ⟨by rw [h1]; rfl, h2⟩
    · obtain ⟨h1, h2⟩ := settR_eq (so := so) (l := l) (i := i + 1) (s := s) (t := t)
      exact ⟨h1, by rw [h2]⟩
theorem settle_sub {so : Nat → Stp → Bool} : ∀ {l : List Stp} {i : Nat} {t : FS}, (settleL so i l t).2.Sublist l ∧ ∀ x ∈ sett so i l, x ∈ l
  | [], _, _ => ⟨List.Sublist.refl _, by simp [sett]⟩
  | a :: l, i, t => by
    simp only [settleL, sett]
    split
    · obtain ⟨h1, h2⟩ := settle_sub (so := so) (l := l) (i := i + 1) (t := t.does a)
      refine ⟨h1.cons a, fun x hx => ?_⟩
      rcases List.mem_cons.1 hx with rfl | hx
      · exact List.mem_cons_self
      · exact List.mem_cons_of_mem _ (h2 x hx)
    · obtain ⟨h1, h2⟩ := settle_sub (so := so) (l := l) (i := i + 1) (t := t)
      exact ⟨h1.cons_cons a, fun x hx => List.mem_cons_of_mem _ (h2 x hx)⟩
theorem turn_soR (f u : Int) {l : List Stp} {i : Nat} : Turn (soR f u) i l := turn_of fun i j x y hij hx hy => by
 unfold soR at hx hy
 unfold Comm fileStp
 by_cases h1 : x.what = 1 ∨ x.what = 2
 ·rw [if_pos h1] at hx
  by_cases h2 : y.what = 1 ∨ y.what = 2
  ·rw [if_pos h2] at hy
   have hx := of_decide_eq_false hx
   have hy := of_decide_eq_true hy
   exact .inr (.inr ⟨h1,h2,by rw [hy]; exact hx⟩)
  ·exact .inl ⟨h1,h2⟩
 ·rw [if_neg h1] at hx
  by_cases h2 : y.what = 1 ∨ y.what = 2
  ·exact .inr (.inl ⟨h1,h2⟩)
  ·rw [if_neg h2] at hy
   have hx := of_decide_eq_false hx
   have hy := of_decide_eq_true hy
   omega
section
variable {c : Nat} {d : Dsk} {r : RDk}
theorem RR.settle (h : RR c d r) (hc : c < 1000) {f u : Int} (hu : uptoR f 0 d.steps (-1) = u) : RR (c + 1) (d.settle (soR f u)).1 (r.settled f).1 ∧ (r.settled f).2 = (d.settle (soR f u)).2 := by
 obtain ⟨h1,h2⟩ := h.op hc
 unfold RDk.settled Dsk.settle
 rw [h2,h.st,hu]
 split
 ·exact ⟨h1,h2⟩
 ·have es := (stopped_same d).1
  rw [es]
  obtain ⟨e1,e2⟩ := settR_eq (so := soR f u) (l := d.steps) (i := 0) (s := r.op.1.safe) (t := d.stopped.1.safe)
  obtain ⟨s1,s2⟩ := settle_sub (so := soR f u) (l := d.steps) (i := 0) (t := d.stopped.1.safe)
  have hx : ∀ x ∈ sett (soR f u) 0 d.steps,Gd x := fun x hx => h.gd x (s2 x hx)
  have hx0 : ∀ x ∈ sett (soR f u) 0 d.steps,x.file ≠ 0 := fun x hx' => by have := (hx x hx').1; omega
  obtain ⟨q1,q2⟩ := rff_foldl (l := sett (soR f u) 0 d.steps) h1.kr hx0
  obtain ⟨p1,p2⟩ := ff_foldl (l := sett (soR f u) 0 d.steps) h1.kd
  refine ⟨⟨?_,?_,h1.kn,?_,?_,e2,fun x hx => h.gd x (s1.subset hx),?_,?_,fun x hx hw => ?_,h1.last,h1.l0,h1.down,h1.arm,h1.fault,h1.wth⟩,rfl⟩
  ·show keysN (settleL _ _ _ _).1.names; rw [settleL_fst]; exact p2
  ·show keysN (settR _ _ _ _).1.names; rw [e1]; exact q2
  ·show (settR _ _ _ _).1.ff = (settleL _ _ _ _).1.ff
   rw [e1,settleL_fst,q1,p1,h1.ff]
  ·show (settleL _ _ _ _).2.foldl FF.does (settleL _ _ _ _).1.ff = _
   rw [settle_ff h1.kd (turn_soR f u),← h1.re,es]
  ·show GF (settleL _ _ _ _).1.ff
   rw [settleL_fst,p1]; exact h1.gs.foldl hx
  ·exact List.Nodup.sublist (List.Sublist.map _ (List.Sublist.filter _ s1)) h.mkd
  ·exact h1.ml x (by rw [es]; exact s1.subset hx) hw
theorem RR.sync (h : RR c d r) (hc : c < 1000) (a : Byts) : RR (c + 1) (d.sync a).1 (r.sync a).1 ∧ (r.sync a).2 = (d.sync a).2 := by
  unfold RDk.sync Dsk.sync
  simp only [h.find]
  cases hg : nget d.now.names a with
  | none => exact ⟨h.le (by omega), rfl⟩
  | some f =>
    obtain ⟨_, hf⟩ := h.found hg
    have hf0 : ¬ f = 0 := by omega
    simp only [Option.getD_some, hf0, if_false]
    refine h.settle hc (u := upto f d.steps) ?_
    rw [uptoR_eq hf0 h.mkd]
    unfold upto
    cases d.steps.findIdx? (fun x => decide (x.file = f) && decide (x.what = 0)) with
    | none => rfl
    | some j => simp
theorem RR.syncNames (h : RR c d r) (hc : c < 1000) : RR (c + 1) d.syncNames.1 (r.settled 0).1 ∧ (r.settled 0).2 = d.syncNames.2 := by
 have e : d.syncNames = d.settle (soR 0 (uptoR 0 0 d.steps (-1))) := by
  unfold Dsk.syncNames Dsk.settle
  rw [settleL_congr]
  intro j hj
  rw [(stopped_same d).1] at hj
  simp only [Nat.zero_add,(stopped_same d).1]
  have hx := (h.gd _ (List.getElem_mem hj)).1
  have hne : d.steps ≠ [] := by intro e; rw [e] at hj; simp at hj
  unfold soR
  rw [uptoR_zero hne]
  by_cases h1 : d.steps[j].what = 1 ∨ d.steps[j].what = 2
  ·rw [if_pos h1,decide_eq_false (by omega : ¬ d.steps[j].file = 0)]
   rcases h1 with h1 | h1 <;> simp [h1]
  ·rw [if_neg h1,decide_eq_true (by omega : (j : Int) ≤ ((0 + d.steps.length : Nat) : Int) - 1)]
   simp only [not_or] at h1
   simp [h1]
 rw [e]
 exact h.settle hc rfl
theorem nget_of_mem {t : Byts} {f : Int} : ∀ {ns : List (Byts × Int)}, keysN ns → (t, f) ∈ ns → nget ns t = some f
  | x :: r, h, hm => by
    obtain ⟨h1, h2⟩ := List.nodup_cons.1 (show (x.1 :: r.map (·.1)).Nodup from h)
    unfold nget
    rw [List.find?_cons]
    rcases List.mem_cons.1 hm with rfl | hm
    · simp
    · have : x.1 ≠ t := fun e => h1 (by rw [e]; exact List.mem_map_of_mem (f := (·.1)) hm)
      simp only [this, decide_false]
      exact nget_of_mem h2 hm
theorem vals_iff {ns : List (Byts × Int)} (h : keysN ns) {k : Int} : k ∈ ns.map (·.2) ↔ ∃ t,nget ns t = some k := by
 constructor
 ·intro hk
  obtain ⟨⟨t,f⟩,hu,rfl⟩ := List.mem_map.1 hk
  exact ⟨t,nget_of_mem h hu⟩
 ·rintro ⟨t,ht⟩
  exact List.mem_map.2 ⟨_,nget_mem ht,rfl⟩
theorem rsec_held (s : RSt) (k : Int) : rsec (heldR s) k = if k ∈ s.names.map (·.2) then rsec s.files k else [] := by
 unfold rsec heldR
 rw [List.find?_filter]
 split
 ·rename_i h
  obtain ⟨n,hn,e⟩ := List.mem_map.1 h
  congr 3
  funext x
  by_cases hx : x.1 = k
  ·simp only [hx,decide_true,Bool.and_true]
   rw [← hx] at e
   simp only [decide_eq_true_eq,and_true,Bool.decide_eq_true]
   exact List.any_eq_true.2 ⟨n,hn,by simp [e,hx]⟩
  ·simp [hx]
 ·rename_i h
  rw [List.find?_eq_none.2]
  ·rfl
  ·intro x _
   simp only [Bool.and_eq_true,decide_eq_true_eq,not_and]
   rintro h1 rfl
   obtain ⟨n,hn,e⟩ := List.any_eq_true.1 h1
   exact h (List.mem_map.2 ⟨n,hn,of_decide_eq_true e⟩)
theorem keep_ff {keep : List Bool} : ∀ {l : List Stp} {i : Nat} {s : RSt} {t : FS}, keysN s.names → keysN t.names → s.ff = t.ff → GF t.ff → (∀ x ∈ l, Gd x) → keysN (keepR keep i l s).names ∧ keysN (keepL keep i l t).names ∧ (keepR keep i l s).ff = (keepL keep i l t).ff ∧ GF (keepL keep i l t).ff
  | [], _, _, _, h1, h2, h3, h4, _ => ⟨h1, h2, h3, h4⟩
  | a :: l, i, s, t, h1, h2, h3, h4, hl => by
    have ha := hl a List.mem_cons_self
    have hl' := fun x hx => hl x (List.mem_cons_of_mem _ hx)
    simp only [keepR, keepL]
    split
    · exact keep_ff (rdoes_keysN h1 a) (does_keysN h2 a) (by rw [rff_does (by have := ha.1; omega), ff_does h2, h3]) (by rw [ff_does h2]; exact h4.does ha) hl'
    · exact keep_ff h1 h2 h3 h4 hl'
theorem RR.crash (h : RR c d r) (keep : List Bool) : RR c (d.crash keep) (r.crash keep) := by
 obtain ⟨h1,h2,h3,h4⟩ := keep_ff (keep := keep) (l := d.steps) (i := 0) h.kr h.kd h.ff h.gs h.gd
 rw [show keepR keep 0 d.steps r.safe = keepR keep 0 r.steps r.safe by rw [h.st]] at h1 h3
 have hN : nget (keepR keep 0 r.steps r.safe).names = nget (keepL keep 0 d.steps d.safe).names := congrArg FF.N h3
 have hF : rsec (keepR keep 0 r.steps r.safe).files = (keepL keep 0 d.steps d.safe).files := congrArg FF.F h3
 refine ⟨h2,h1,h2,?_,rfl,rfl,by simp [Dsk.crash],⟨h4.1,?_⟩,List.nodup_nil,by simp [Dsk.crash],h.last,h.l0,rfl,.inl ⟨rfl,rfl⟩,.inl ⟨rfl,rfl⟩,fun e => by simp [RDk.crash] at e⟩
 ·show (⟨nget (keepR keep 0 r.steps r.safe).names,rsec (heldR _)⟩ : FF) = ⟨nget (keepL keep 0 d.steps d.safe).names,heldF _⟩
  rw [hN]
  congr 1
  funext k
  rw [rsec_held]
  unfold heldF
  have e : (k ∈ (keepR keep 0 r.steps r.safe).names.map (·.2)) = (k ∈ (keepL keep 0 d.steps d.safe).names.map (·.2)) := propext (by rw [vals_iff h1,vals_iff h2,hN])
  rw [hF]
  by_cases hk : k ∈ (keepR keep 0 r.steps r.safe).names.map (·.2)
  ·rw [if_pos hk,if_pos (e ▸ hk)]
  ·rw [if_neg hk,if_neg (fun h => hk (e ▸ h))]
 ·show heldF _ 0 = []
  unfold heldF
  split
  ·exact h4.2
  ·rfl
end
end Go.Sx
/-
 What the functions of this chapter do.
 No condition beyond those that each theorem names.
-/
set_option linter.unusedSimpArgs false
/-! Names, the least first. -/
namespace Go.Sx
theorem cmp_iff : ∀ (x y : Byts), cmpBytes x y = decide (x < y)
  | [], [] => by simp [cmpBytes]
  | _ :: _, [] => by simp [cmpBytes]
  | [], _ :: _ => by simp [cmpBytes]
  | a :: x, b :: y => by
    simp only [cmpBytes, cmp_iff x y, List.cons_lt_cons_iff]
    by_cases h : a < b <;> by_cases h2 : a = b <;> by_cases h3 : x < y <;> simp [h, h2, h3]
def guardN (out : List Byts) (n : Byts) : Bool := match out.getLast? with | some l => !(cmpBytes n l || n == l) | none => true
def leastR (out : List Byts) : List Byts → Byts → Byts
 | [],m => m
 | n :: r,m => leastR out r (if (m == [] || cmpBytes n m) && guardN out n then n else m)
def selR (names : List Byts) : Nat → List Byts → List Byts
 | 0,out => out
 | k + 1,out => selR names k (out ++ [leastR out names []])
theorem leastR_spec (out : List Byts) : ∀ (ns : List Byts) (m : Byts), (∀ n ∈ ns, n ≠ []) →
    (∀ n ∈ ns, guardN out n = true → leastR out ns m ≠ [] ∧ leastR out ns m ≤ n) ∧ (m ≠ [] → leastR out ns m ≠ [] ∧ leastR out ns m ≤ m) ∧ (leastR out ns m = m ∨ (leastR out ns m ∈ ns ∧ guardN out (leastR out ns m) = true))
  | [], m, _ => ⟨by simp, fun h => ⟨h, List.le_refl m⟩, .inl rfl⟩
  | a :: r, m, hn => by
    have ha := hn a List.mem_cons_self
    simp only [leastR, cmp_iff]
    by_cases hc : ((m == [] || decide (a < m)) && guardN out a) = true
    · rw [if_pos hc]
      obtain ⟨h1, h2, h3⟩ := leastR_spec out r a fun n h => hn n (List.mem_cons_of_mem _ h)
      obtain ⟨h4, h5⟩ := h2 ha
      have hg : guardN out a = true := (Bool.and_eq_true _ _ ▸ hc).2
      refine ⟨fun n hm g => ?_, fun hm => ⟨h4, ?_⟩, ?_⟩
      · rcases List.mem_cons.1 hm with rfl | hm
        · exact ⟨h4, h5⟩
        · exact h1 n hm g
      · have : (m == [] || decide (a < m)) = true := (Bool.and_eq_true _ _ ▸ hc).1
        simp [hm] at this
        exact List.le_trans h5 (List.le_of_lt this)
      · rcases h3 with h3 | ⟨h3, h6⟩
        · right; rw [h3]; exact ⟨List.mem_cons_self, hg⟩
        · exact .inr ⟨List.mem_cons_of_mem _ h3, h6⟩
    · rw [if_neg hc]
      obtain ⟨h1, h2, h3⟩ := leastR_spec out r m fun n h => hn n (List.mem_cons_of_mem _ h)
      refine ⟨fun n hm g => ?_, h2, ?_⟩
      · rcases List.mem_cons.1 hm with rfl | hm
        · have : (m == [] || decide (n < m)) = false := by
            cases hb : (m == [] || decide (n < m)) with
            | false => rfl
            | true => exact absurd (by rw [hb, g]; rfl) hc
          rw [Bool.or_eq_false_iff] at this
          have hm0 : m ≠ [] := by simpa using this.1
          have hlt : ¬ n < m := by simpa using this.2
          obtain ⟨h4, h5⟩ := h2 hm0
          exact ⟨h4, List.le_trans h5 (List.not_lt.1 hlt)⟩
        · exact h1 n hm g
      · rcases h3 with h3 | ⟨h3, h6⟩
        · exact .inl h3
        · exact .inr ⟨List.mem_cons_of_mem _ h3, h6⟩
theorem sorted_lt {L : List Byts} (h : L.Pairwise (fun a b => leS a b = true)) (hd : L.Nodup) : L.Pairwise (· < ·) := by
 refine List.Pairwise.imp_of_mem ?_ (h.and hd)
 intro a b _ _ hab
 obtain ⟨h1,h2⟩ := hab
 rw [leS_eq] at h1
 have h1 := of_decide_eq_true h1
 rcases Classical.em (a < b) with h | h
 ·exact h
 ·exact absurd (List.le_antisymm h1 (List.not_lt.1 h)) h2
theorem selR_step {names L : List Byts} (hp : names.Perm L) (hs : L.Pairwise (· < ·)) (hne : ∀ n ∈ names, n ≠ []) {k : Nat} (hk : k < L.length) : leastR (L.take k) names [] = L[k] := by
  obtain ⟨h1, _, h3⟩ := leastR_spec (L.take k) names [] hne
  have hlt : ∀ i j (hi : i < L.length) (hj : j < L.length), i < j → L[i] < L[j] := fun i j hi hj hij => List.pairwise_iff_getElem.1 hs i j hi hj hij
  have hg : ∀ j (hj : j < L.length), guardN (L.take k) L[j] = true ↔ k ≤ j := fun j hj => by
    unfold guardN
    cases k with
    | zero => simp
    | succ k =>
      have e : (L.take (k + 1)).getLast? = some L[k] := by
        rw [List.getLast?_eq_getElem?, List.length_take, Nat.min_eq_left (by omega), List.getElem?_take, if_pos (by omega)]
        simp
      rw [e]
      simp only [cmp_iff]
      constructor
      · intro h
        simp at h
        rcases Nat.lt_or_ge j (k + 1) with hj' | hj'
        · rcases Nat.lt_or_ge j k with hjk | hjk
          · exact absurd (hlt j k hj (by omega) hjk) (List.not_lt.2 h.1)
          · have : j = k := by omega
            subst this; exact absurd rfl h.2
        · exact hj'
      · intro h
        have := hlt k j (by omega) hj (by omega)
        simp
        exact ⟨List.le_of_lt this, fun e => absurd (e ▸ this) (List.lt_irrefl _)⟩
  have hmem : L[k] ∈ names := hp.mem_iff.2 (List.getElem_mem hk)
  obtain ⟨h4, h5⟩ := h1 _ hmem ((hg k hk).2 (Nat.le_refl _))
  rcases h3 with h3 | ⟨h3, h6⟩
  · exact absurd h3 h4
  · obtain ⟨j, hj, e⟩ := List.getElem_of_mem (hp.mem_iff.1 h3)
    rw [← e] at h6 h5 ⊢
    have := (hg j hj).1 h6
    rcases Nat.lt_or_ge k j with hkj | hkj
    · exact absurd (hlt k j hk hj hkj) (List.not_lt.2 h5)
    · have : j = k := by omega
      subst this; rfl
theorem selR_eq {names L : List Byts} (hp : names.Perm L) (hs : L.Pairwise (· < ·)) (hne : ∀ n ∈ names, n ≠ []) : ∀ {m k : Nat}, k + m = L.length → selR names m (L.take k) = L
  | 0, k, h => by rw [show k = L.length by omega, List.take_length]; rfl
  | m + 1, k, h => by
    have hk : k < L.length := by omega
    rw [selR, selR_step hp hs hne hk, show L.take k ++ [L[k]] = L.take (k + 1) by rw [List.take_add_one]; simp [hk]]
    exact selR_eq hp hs hne (by omega)
def RDk.names (r : RDk) : List Byts := selR (r.now.names.map (·.1)) r.now.names.length []
theorem RR.names {c : Nat} {d : Dsk} {r : RDk} (h : RR c d r) : r.names = isort kindS.le (d.now.names.map (·.1)) := by
  have hL : (isort kindS.le (d.now.names.map (·.1))).Pairwise (fun a b => leS a b = true) := isort_sorted (le := leS) (fun a b => by rw [leS_eq, leS_eq]; simp; exact List.le_total a b) (fun a b c h1 h2 => by rw [leS_eq] at *; simp at *; exact List.le_trans h1 h2) _
  have hP := isort_perm kindS.le (d.now.names.map (·.1))
  have hp := h.perm.trans hP.symm
  refine selR_eq (k := 0) hp (sorted_lt hL (hP.nodup_iff.2 h.kn)) (fun n hn => ?_) (by rw [hP.length_eq, List.length_map, h.len]; omega)
  rw [mem_keys, h.get] at hn
  cases hg : nget d.now.names n with
  | none => rw [hg] at hn; cases hn
  | some f =>
    have := (h.nowff.2.2.1 n f hg).1
    rintro rfl
    simp [named] at this
end Go.Sx
/-
 What the functions of this chapter do.
 No condition beyond those that each theorem names.
-/
set_option linter.unusedSimpArgs false
/-! How the document's disk of chapter 7 reads. -/
set_option linter.unusedVariables false
set_option linter.unusedSimpArgs false
namespace Go.Sx
def rNm : Rp (Byts × Int) := ⟨2,fun _ _ cs x => cs = [.str x.1,.int .i64 x.2],fun h => by rw [h]; rfl,fun h => by rw [h]; rfl,fun _ h => h⟩
def rFl : Rp (Int × List Byts) := ⟨2,fun A w cs x => ∃ v,cs = [.int .i64 x.1,v] ∧ (rL (rL rU)).rd A w [v] x.2,fun ⟨v,h,_⟩ => by rw [h]; rfl,fun ⟨v,h,h2⟩ => by
 rw [h]
 have := h2.ok1
 simp only [List.all_cons,this]; rfl,fun e ⟨v,h,h2⟩ => ⟨v,h,h2.xa e⟩⟩
def xC (x : Stp) (v : AV) : List AV := [.int .i64 (x.what + 1),.int .i64 x.file,.int .i64 x.n,v,.str x.name,.str x.to]
def rXs : Rp Stp := ⟨6,fun A w cs x => ∃ v b,cs = xC x v ∧ (rL rU).rd A w [v] b ∧ (x.what = 1 → b = x.data),fun ⟨_,_,h,_⟩ => by rw [h]; rfl,fun ⟨v,b,h,h2,_⟩ => by
 rw [h]
 have := h2.ok1
 simp only [xC,List.all_cons,this]; rfl,fun e ⟨v,b,h,h2,h3⟩ => ⟨v,b,h,h2.xa e,h3⟩⟩
def rC (r : RDk) (a b c : AV) : List AV := [a,b,c,.int .i64 r.last,.bool r.down,.int .i64 r.arm,.int .i64 r.fault,.int .i64 r.wth]
section
variable {A : Nat → Prop} {w : AW} {v : AV}
theorem nm_at {l : List (Byts × Int)} (h : (rL rNm).rd A w [v] l) {i : Nat} (hi : i < l.length) {K : Nat → Nat → Prop} (hK : ∀ b o,Sx.ld w b (o + 0) = some (.str l[i].1) → Sx.ld w b (o + 1) = some (.int .i64 l[i].2) → Sx.ldN 2 w b o = some (.agg [.str l[i].1,.int .i64 l[i].2]) → K b o) : atP (idxS 2 v (.int .i64 (i : Int))) K := by
 refine h.at hi fun b o cs hr hf hn => ?_
 have hr : cs = [.str l[i].1,.int .i64 l[i].2] := hr
 subst hr
 exact hK b o (hf 0 (by decide)) (hf 1 (by decide)) hn
theorem fl_at {l : List (Int × List Byts)} (h : (rL rFl).rd A w [v] l) {i : Nat} (hi : i < l.length) {K : Nat → Nat → Prop} (hK : ∀ b o u,(rL (rL rU)).rd A w [u] l[i].2 → Sx.ld w b (o + 0) = some (.int .i64 l[i].1) → Sx.ld w b (o + 1) = some u → Sx.ldN 2 w b o = some (.agg [.int .i64 l[i].1,u]) → K b o) : atP (idxS 2 v (.int .i64 (i : Int))) K := by
 refine h.at hi fun b o cs hr hf hn => ?_
 obtain ⟨u,rfl,hu⟩ := hr
 exact hK b o u hu (hf 0 (by decide)) (hf 1 (by decide)) hn
theorem xs_at {l : List Stp} (h : (rL rXs).rd A w [v] l) {i : Nat} (hi : i < l.length) {K : Nat → Nat → Prop} (hK : ∀ b o u d,(rL rU).rd A w [u] d → (l[i].what = 1 → d = l[i].data) → (∀ f,f < 6 → Sx.ld w b (o + f) = (xC l[i] u)[f]?) → Sx.ldN 6 w b o = some (.agg (xC l[i] u)) → K b o) : atP (idxS 6 v (.int .i64 (i : Int))) K := by
 refine h.at hi fun b o cs hr hf hn => ?_
 obtain ⟨u,d,rfl,hu,hd⟩ := hr
 exact hK b o u d hu hd (fun f hf' => hf f hf') hn
end
end Go.Sx
/-
 What the functions of this chapter do.
 No condition beyond those that each theorem names.
-/
set_option linter.unusedSimpArgs false
/-! A row that grew behind is let go, or written in one place and let go. -/
set_option linter.unusedVariables false
namespace Go.Sx
section
variable {α : Type} {r : Rp α} {A B : Nat → Prop} {I : List Nat} {w0 w w' : AW} {L : Obs} {v : AV} {l : List α}
theorem sl_of_get {b f o n : Nat} {d dd : Bool} {ex : Option Nat} {cs : List AV} (h4 : w.get b = some (.cells cs f o d)) (h5 : w.root? f = some (f,b,dd)) (hn : n * r.sz = cs.length) (hs : 0 < r.sz) (hex : ex = none ∨ ex = some r.sz) (hA : A b) (hf : A f) (hc : Chk r A w cs l) : (rL r).rd A w [.slice b 0 n n ex] l := by
 have hl := hc.len
 have e : n = l.length := Nat.eq_of_mul_eq_mul_right hs (hn.trans hl)
 subst e
 have hfam : w.fam? b = some (f,b,dd) := AW.fam?_iff.2 ⟨cs,o,d,h4,h5⟩
 refine ⟨_,rfl,.inr ⟨b,0,_,ex,f,cs,rfl,⟨Nat.le_refl _,by rcases hex with rfl | rfl <;> simp [okEx]⟩,hA,hf,⟨⟨b,dd,hfam⟩,AW.cells?_iff.2 ⟨(f,b,dd),o,d,hfam,.inr rfl,h4⟩⟩,by omega,?_⟩⟩
 rw [List.drop_zero,hn,List.take_length]; exact hc
theorem Ow.accRd {f : Nat} {o : Ob} {cs : List AV} (st : Ow A [] w0 w ((f,o) :: L)) (hv : Sv r.sz o v cs) (hs : 0 < r.sz) (hB : ∀ c,w0.size ≤ c → A c) (hc : Chk r (fz A (ids ((f,o) :: L))) w cs l) :
  Ow A [] w0 w L ∧ Xt (ids ((f,o) :: L)) w (ids L) w ∧ (rL r).rd (fz A (ids L)) w [v] l := by
 obtain ⟨st2,x2⟩ := st.forget
 refine ⟨st2,x2,?_⟩
 rcases hv with ⟨rfl,rfl⟩ | ⟨b,n,ex,rfl,rfl,h2,h3⟩
 ·have : l = [] := by
   have := hc.len
   rcases Nat.mul_eq_zero.1 this.symm with h | h
   ·exact List.length_eq_zero_iff.1 h
   ·omega
  subst this
  exact Rp.rd.nil
 ·obtain ⟨⟨⟨o2,d,g1⟩,g2⟩,g3,g4,g5⟩ := st.box _ List.mem_cons_self rfl
  simp only [List.not_mem_nil,or_false] at g3
  have hfb := st.mem.fam _ _ _ _ _ g1
  have hfn := nd_head st.nd rfl
  refine sl_of_get g1 g2 h2 hs h3 ⟨hB b (by simp only [] at hfb; omega),fun hb => ?_⟩ ⟨g4,hfn⟩ (hc.xa x2.xw.xa)
  obtain ⟨q,q1,q2,q3⟩ := ids_of hb
  have hq := (st.box q (List.mem_cons_of_mem _ q1) q2).1
  rw [q3] at hq
  have := hq.root q2 g1
  exact hfn (by rw [this]; exact hb)
theorem Ow.accPut {f b n : Nat} {ex : Option Nat} {cs : List AV} (st : Ow A [] w0 w ((f,.acc b cs) :: L)) (hB : ∀ c,w0.size ≤ c → A c) (hs : 0 < r.sz) (hn : n * r.sz = cs.length) (hex : ex = none ∨ ex = some r.sz)
  (hc : Chk r (fz A (f :: ids L)) w cs l) {k : Nat} (hk : k < l.length) {x : α} {vs : List AV} (hx : r.rd (fz A (f :: ids L)) w vs x) {K : Nat → Nat → Prop}
  (hK : (∀ K' : AW → Prop,(∀ w',Ow A [] w0 w' L → (rL r).rd (fz A (ids L)) w' [.slice b 0 n n ex] (l.set k x) → K' w') → onM (w.putCells b (k * r.sz) vs) K') → K b (k * r.sz)) : atP (idxS r.sz (.slice b 0 n n ex) (.int .i64 (k : Int))) K := by
 obtain ⟨⟨⟨o,d,g1⟩,g2⟩,g3,g4,g5⟩ := st.box _ List.mem_cons_self rfl
 simp only [List.not_mem_nil,or_false] at g3
 have hfb := st.mem.fam _ _ _ _ _ g1
 simp only [] at hfb g1 g2 g3 g4 g5
 have hl := hc.len
 have hvl := r.len hx
 have e : n = l.length := Nat.eq_of_mul_eq_mul_right hs (hn.trans hl)
 subst e
 have hbl : Nat.blt k l.length = true := by simp [Nat.blt_eq,hk]
 refine atP_iff.2 ⟨b,0 + k * r.sz,?_,?_⟩
 ·show (asN (.int .i64 (Int.ofNat k))).bind _ = _
  simp only [asN,Option.bind_some,hbl,guardO,cond_true]
 rw [Nat.zero_add]
 refine hK fun K' hK' => ?_
 have hkl : k * r.sz + vs.length ≤ cs.length := by
  rw [hvl,hl]
  have := Nat.mul_le_mul_right r.sz (show k + 1 ≤ l.length from hk)
  rw [Nat.add_mul,Nat.one_mul] at this
  exact this
 have hown : Own w0.size w r.sz (.slice b 0 l.length l.length ex) cs := .inr ⟨b,_,_,_,f,o,d,false,rfl,hn,g3,g5,g1,g2⟩
 obtain ⟨w',hw,hfr,ho,hz⟩ := hown.put st.mem hkl
 obtain ⟨f',own',dirty',cs',own1,dirty1,cs0,p1,p2,p3,p4,p5,p6,p7,p8⟩ := putCells_get hw
 have hfam : w.fam? b = some (f,b,false) := AW.fam?_iff.2 ⟨cs,o,d,g1,g2⟩
 rw [hfam] at p1; cases p1
 have hget : ∀ c,c ≠ b → c ≠ f → w'.get c = w.get c := fun c hc hcf => by
  rcases p8 with ⟨_,_,_,g⟩ | ⟨_,_,g⟩ | ⟨_,g⟩ <;> simp [g,hc,hcf]
 have hfn := nd_head st.nd rfl
 simp only [] at hfn
 have hx' : Xw (f :: ids L) w (ids L) w' := ⟨fun c g all a a' h => by
  simp only [List.mem_cons,not_or] at a a'
  refine ⟨a.2,a'.2,?_⟩
  obtain ⟨⟨own,dd,h1⟩,h2⟩ := h
  obtain ⟨cc,oo,d2,h3,h4⟩ := AW.fam?_iff.1 h1
  obtain ⟨c0,hc0,_⟩ := AW.root?_iff.1 h4
  simp only [] at hc0 h3
  refine Rdb.congr ⟨⟨own,dd,h1⟩,h2⟩ (hget c (fun e => ?_) a.1) (hget g (fun e => ?_) a'.1)
  ·subst e; rw [g1] at h3; cases h3; exact a'.1 rfl
  ·subst e; rw [g1] at hc0; cases hc0; exact a'.1 rfl⟩
 have hbL : b ∉ ids L := fun hb => by
  obtain ⟨q,q1,q2,q3⟩ := ids_of hb
  have hq := (st.box q (List.mem_cons_of_mem _ q1) q2).1
  rw [q3] at hq
  have := hq.root q2 g1
  exact hfn (by rw [this]; exact hb)
 have st' : Ow A [] w0 w' L := ⟨hfr.mem,st.pos,by have := st.size; omega,fun c hc hi => (hfr.old c hc).trans (st.old c hc hi),fun c hc => st.new c (by omega),fun p hp hr => by
  obtain ⟨q1,q2⟩ := st.box p (List.mem_cons_of_mem _ hp) hr
  have hpf : p.1 ≠ f := fun e => hfn (e ▸ ids_mem hp hr)
  have hpb : p.1 ≠ b := fun e => hbL (e ▸ ids_mem hp hr)
  refine ⟨q1.keep (fun _ => hget _ hpb hpf) fun c cc o2 d2 hcc => hget c (fun e => ?_) (fun e => ?_),q2⟩
  ·subst e; rw [g1] at hcc; cases hcc; exact hpf rfl
  ·subst e
   obtain ⟨c0,hc0,_⟩ := AW.root?_iff.1 g2
   simp only [] at hc0
   rw [hc0] at hcc; cases hcc; exact hpf rfl,nd_tail st.nd⟩
 refine onM_s hw (hK' w' st' ?_)
 rcases ho with ⟨e,_⟩ | ⟨b',n',cap',ex',f',o',d',dd,e,q1,q2,q3,q4,q5⟩
 ·cases e
 cases e
 have hfe : f' = f := by
  rcases p8 with ⟨e1,_,_,g⟩ | ⟨_,e1,g⟩ | ⟨_,g⟩
  ·rw [g b,if_pos rfl] at q4; simp only [Option.some.injEq,AO.cells.injEq] at q4; exact q4.2.1.symm.trans e1.symm
  ·rw [g b,if_pos rfl] at q4; simp only [Option.some.injEq,AO.cells.injEq] at q4; exact q4.2.1.symm.trans e1.symm
  ·rw [g b,if_pos rfl] at q4; simp only [Option.some.injEq,AO.cells.injEq] at q4; exact q4.2.1.symm
 subst hfe
 have hch : Chk r (fz A (ids L)) w' (listPut cs (k * r.sz) vs) (l.set k x) := (hc.xa hx'.xa).set (hx.xa hx'.xa) k hk
 exact sl_of_get q4 q5 q1 hs hex ⟨hB b (by omega),hbL⟩ ⟨g4,hfn⟩ hch
end
end Go.Sx
