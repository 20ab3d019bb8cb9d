/-
 The disk of chapter 7: what it is purely,how it lies in memory.
 No condition beyond those that each theorem names.
-/
import Derived.Test.YtbjeebgdjlemjaaSxt
set_option linter.unusedVariables false
set_option linter.unusedSimpArgs false
/-! The disk of chapter 7: what it is purely, and how it lies in memory. -/
namespace Go.Sx
abbrev Byts := List UInt8
structure Stp where
 what : Int
 file : Int
 n : Int
 data : Byts
 name : Byts
 to : Byts
def Stp.cells (x : Stp) : List AV := .int .i64 x.what :: .int .i64 x.file :: .int .i64 x.n :: (cellsOfBytes x.data ++ [.str x.name,.str x.to])
theorem Stp.length {x : Stp} (h : x.data.length = 64) : x.cells.length = 69 := by simp [Stp.cells,cellsOfBytes_length,h]
theorem ok_bytes (s : Byts) : (cellsOfBytes s).all okCell = true := by
 rw [List.all_eq_true]; intro c hc
 obtain ⟨x,_,rfl⟩ := List.mem_map.1 hc
 rfl
theorem Stp.all (x : Stp) : x.cells.all okCell = true := by
 simp only [Stp.cells,List.all_cons,List.all_append,ok_bytes,List.all_nil]; rfl
theorem Stp.cname {x : Stp} (h : x.data.length = 64) : x.cells[67]? = some (.str x.name) := by
 show (cellsOfBytes x.data ++ [.str x.name,.str x.to])[64]? = _
 rw [List.getElem?_append_right (by rw [cellsOfBytes_length]; omega),cellsOfBytes_length,h]; rfl
theorem Stp.cto {x : Stp} (h : x.data.length = 64) : x.cells[68]? = some (.str x.to) := by
 show (cellsOfBytes x.data ++ [.str x.name,.str x.to])[65]? = _
 rw [List.getElem?_append_right (by rw [cellsOfBytes_length]; omega),cellsOfBytes_length,h]; rfl
theorem Stp.cdata {x : Stp} (h : x.data.length = 64) : (x.cells.drop 3).take 64 = cellsOfBytes x.data := by
 show (cellsOfBytes x.data ++ [AV.str x.name,AV.str x.to]).take 64 = _
 rw [List.take_left' (by rw [cellsOfBytes_length,h])]
def nget (ns : List (Byts × Int)) (s : Byts) : Option Int := (ns.find? fun x => decide (x.1 = s)).map (·.2)
def nset : List (Byts × Int) → Byts → Int → List (Byts × Int)
 | [],s,f => [(s,f)]
 | x :: r,s,f => if x.1 = s then (s,f) :: r else x :: nset r s f
def ndel : List (Byts × Int) → Byts → List (Byts × Int)
 | [],_ => []
 | x :: r,s => if x.1 = s then r else x :: ndel r s
structure FS where
 names : List (Byts × Int)
 files : Int → List Byts
def zsec : Byts := List.replicate 64 0
def putS (l : List Byts) (n : Nat) (d : Byts) : List Byts := (l ++ List.replicate (n + 1 - l.length) zsec).set n d
def updF (F : Int → List Byts) (k : Int) (l : List Byts) : Int → List Byts := fun i => if i = k then l else F i
def FS.does (s : FS) (x : Stp) : FS :=
 if x.what = 0 then ⟨nset s.names x.name x.file,s.files⟩
 else if x.what = 1 then ⟨s.names,updF s.files x.file (putS (s.files x.file) x.n.toNat x.data)⟩
 else if x.what = 2 then ⟨s.names,updF s.files x.file ((s.files x.file).take x.n.toNat)⟩
 else match nget s.names x.name with
  | some f => if f = x.file then (if x.what = 3 then ⟨nset (ndel s.names x.name) x.to x.file,s.files⟩ else ⟨ndel s.names x.name,s.files⟩) else s
  | none => s
/-! ### In memory -/
def nEnts (ns : List (Byts × Int)) : List (AV × AV) := ns.map fun x => (.str x.1,.int .i64 x.2)
theorem nEnts_like (s : Byts) (ns : List (Byts × Int)) : ((nEnts ns).all fun e => likeK (.str s) e.1) = true := by
 rw [List.all_eq_true]; intro e he
 obtain ⟨x,_,rfl⟩ := List.mem_map.1 he
 rfl
theorem nEnts_look (s : Byts) : ∀ ns : List (Byts × Int), lookM (.str s) (nEnts ns) = (nget ns s).map (AV.int .i64)
  | [] => rfl
  | x :: r => by
    have ih := nEnts_look s r
    unfold nget at ih ⊢
    show (bif (AV.str x.1).beq (.str s) then some (AV.int .i64 x.2) else lookM (.str s) (nEnts r)) = _
    rw [beq_str, List.find?_cons]
    by_cases h : x.1 = s
    · simp [h]
    · simp [h, ih]
theorem nEnts_ins (s : Byts) (f : Int) : ∀ ns : List (Byts × Int), insM (.str s) (.int .i64 f) (nEnts ns) = nEnts (nset ns s f)
  | [] => rfl
  | x :: r => by
    have ih := nEnts_ins s f r
    show (bif (AV.str x.1).beq (.str s) then (AV.str s, AV.int .i64 f) :: nEnts r else (.str x.1, .int .i64 x.2) :: insM (.str s) (.int .i64 f) (nEnts r)) = _
    rw [beq_str]
    by_cases h : x.1 = s
    · simp [h, nset, nEnts]
    · simp [h, nset, ih]; simp [nEnts]
theorem nEnts_del (s : Byts) : ∀ ns : List (Byts × Int), delM (.str s) (nEnts ns) = nEnts (ndel ns s)
  | [] => rfl
  | x :: r => by
    have ih := nEnts_del s r
    show (bif (AV.str x.1).beq (.str s) then nEnts r else (.str x.1, .int .i64 x.2) :: delM (.str s) (nEnts r)) = _
    rw [beq_str]
    by_cases h : x.1 = s
    · simp [h, ndel]
    · simp [h, ndel, ih]; simp [nEnts]
def SL (w : AW) (v : AV) (l : List Byts) : Prop := (∀ s ∈ l,s.length = 64) ∧ ((v = .nilslice ∧ l = []) ∨
 ∃ b o cap ex bs,v = .slice b o l.length cap ex ∧ l.length ≤ cap ∧ okEx ex 64 = true ∧ w.cells? b = some (cellsOfBytes bs) ∧ o + l.length * 64 ≤ bs.length ∧ l.flatten = (bs.drop o).take (l.length * 64))
def FMp (w : AW) (r : Nat) (F : Int → List Byts) : Prop := ∃ es cl,w.get r = some (.map es cl) ∧ (∀ e ∈ es,∃ k : Int,e.1 = .int .i64 k) ∧ ∀ k,match lookM (.int .i64 k) es with | some v => SL w v (F k) | none => F k = []
theorem lookM_ins {k : Int} {v : AV} : ∀ {es : List (AV × AV)}, (∀ e ∈ es, ∃ k : Int, e.1 = .int .i64 k) → ∀ j : Int, lookM (.int .i64 j) (insM (.int .i64 k) v es) = if j = k then some v else lookM (.int .i64 j) es
  | [], _, j => by
    show (bif (AV.int .i64 k).beq (.int .i64 j) then some v else none) = _
    rw [beq_int]
    by_cases h : j = k
    · simp [h]
    · have h' : ¬ k = j := fun e => h e.symm
      simp [h, h', lookM]
  | (a, u) :: es, h, j => by
    have ih := lookM_ins (k := k) (v := v) (es := es) (fun e he => h e (List.mem_cons_of_mem _ he)) j
    obtain ⟨i, hi⟩ := h (a, u) List.mem_cons_self
    have hi : a = .int .i64 i := hi
    subst hi
    simp only [insM, beq_int]
    by_cases hik : i = k
    · subst hik
      simp only [decide_true, Bool.and_self, cond_true, lookM, beq_int]
      by_cases h : j = i
      · simp [h]
      · have h' : ¬ i = j := fun e => h e.symm
        simp [h, h']
    · simp only [hik, decide_true, decide_false, Bool.and_false, cond_false, lookM, beq_int, ih]
      by_cases hij : i = j
      · subst hij; simp [hik]
      · simp [hij]
theorem ints_ins {k : Int} {v : AV} : ∀ {es : List (AV × AV)}, (∀ e ∈ es, ∃ k : Int, e.1 = .int .i64 k) → ∀ e ∈ insM (.int .i64 k) v es, ∃ k : Int, e.1 = .int .i64 k
  | [], _, e, he => by simp [insM] at he; subst he; exact ⟨k, rfl⟩
  | (a, u) :: es, h, e, he => by
    simp only [insM] at he
    cases hb : a.beq (.int .i64 k) with
    | true =>
      rw [hb] at he
      rcases List.mem_cons.1 he with rfl | he
      · exact ⟨k, rfl⟩
      · exact h e (List.mem_cons_of_mem _ he)
    | false =>
      rw [hb] at he
      rcases List.mem_cons.1 he with rfl | he
      · exact h _ List.mem_cons_self
      · exact ints_ins (fun e he => h e (List.mem_cons_of_mem _ he)) e he
structure Tz (X : List Nat) (w w' : AW) : Prop where
 ch : Ch X w w'
 cells : ∀ b bs,w.cells? b = some (cellsOfBytes bs) → w'.cells? b = some (cellsOfBytes bs)
theorem Tz.map {w w' : AW} {r : Nat} (hm : Mem w) (hc : Ch [r] w w') (hr : ∃ es cl,w.get r = some (.map es cl)) : Tz [r] w w' := by
 refine ⟨hc,fun b bs h => ?_⟩
 obtain ⟨es,cl,hr⟩ := hr
 obtain ⟨x,o,d,h1,h2,h3⟩ := AW.cells?_iff.1 h
 obtain ⟨cs0,h4,_⟩ := AW.root?_iff.1 (AW.fam?_root h1)
 have e1 : b ≠ r := fun e => by rw [e,hr] at h3; cases h3
 have e2 : x.1 ≠ r := fun e => by rw [e,hr] at h4; cases h4
 rw [AW.cells?_congr h1 (hc.old _ (hm.lt _ _ h3) (by simpa using e1)) (hc.old _ (hm.lt _ _ h4) (by simpa using e2))]
 exact h
theorem kvSet_of {w : AW} {r : Nat} {es : List (AV × AV)} {cl : Nat} {k v : AV} (hm : Mem w) (hr : w.get r = some (.map es cl)) (hl : (es.all fun e => likeK k e.1) = true) {K : AV → AW → Prop}
  (hK : ∀ w',Tz [r] w w' → w'.size = w.size → w'.get r = some (.map (insM k v es) (cl + 1)) → K undef w') : onE (kvSet w (.map r) k v) K := by
 have hma : mapAt w r = some (es,cl) := by unfold mapAt; rw [hr]; rfl
 refine onE_s (v := undef) (w := w.set r (.map (insM k v es) (cl + 1))) ?_ (hK _ (Tz.map hm (Ch.set hm (hm.lt _ _ hr) fun cs f own d e => by cases e) ⟨_,_,hr⟩) rfl (by rw [AW.set_get,if_pos rfl]))
 simp only [kvSet,hma,Option.bind_some,hl,guardO,cond_true]
end Go.Sx
/-! The disk of chapter 7, whole: purely, and in memory. -/
namespace Go.Sx
structure Dsk where
 safe : FS
 now : FS
 steps : List Stp
 last : Int
 down : Bool
 arm : Int
 fault : Int
 wth : Int
def FS.none : FS := ⟨[],fun _ => []⟩
def Dsk.none : Dsk := ⟨FS.none,FS.none,[],0,false,0,0,0⟩
def spent (n : Int) : Int × Bool := if n = 0 then (0,false) else (wi (n + -1),decide (wi (n + -1) = 0))
def Dsk.stopped (d : Dsk) : Dsk × Int :=
 if d.down then (d,6) else
 if (spent d.arm).2 then ({ d with fault := (spent d.fault).1,arm := (spent d.arm).1,down := true },6)
 else ({ d with fault := (spent d.fault).1,arm := (spent d.arm).1 },if (spent d.fault).2 then d.wth else 0)
def Dsk.more (d : Dsk) (l : List Stp) : Dsk × Int :=
 if d.stopped.2 ≠ 0 then d.stopped else ({ d.stopped.1 with steps := d.stopped.1.steps ++ l,now := l.foldl FS.does d.stopped.1.now },0)
def settleL (so : Nat → Stp → Bool) : Nat → List Stp → FS → FS × List Stp
 | _,[],s => (s,[])
 | i,x :: r,s => if so i x then settleL so (i + 1) r (s.does x) else ((settleL so (i + 1) r s).1,x :: (settleL so (i + 1) r s).2)
def Dsk.settle (d : Dsk) (so : Nat → Stp → Bool) : Dsk × Int :=
 if d.stopped.2 ≠ 0 then d.stopped else ({ d.stopped.1 with safe := (settleL so 0 d.stopped.1.steps d.stopped.1.safe).1,steps := (settleL so 0 d.stopped.1.steps d.stopped.1.safe).2 },0)
def named (s : Byts) : Bool := decide (1 ≤ s.length ∧ s.length ≤ 64)
def Dsk.put (d : Dsk) (name : Byts) (at_ : Int) (data : Byts) : Dsk × Int :=
  let f := (nget d.now.names name).getD 0
  if !named name ∨ data.length ≠ 64 ∨ at_ < 0 ∨ ((d.now.files f).length : Int) < at_ ∨ (nget d.now.names name = Option.none ∧ 0 < at_) then (d, 2)
  else if at_ = 4096 ∨ (nget d.now.names name = Option.none ∧ 256 ≤ d.now.names.length) then (d, 5)
  else match nget d.now.names name with
    | some f => d.more [⟨1, f, at_, data, [], []⟩]
    | Option.none =>
      let r := d.more [⟨0, d.last + 1, 0, zsec, name, []⟩, ⟨1, d.last + 1, at_, data, [], []⟩]
      if r.2 ≠ 0 then r else ({ r.1 with last := d.last + 1 }, 0)
def Dsk.cut (d : Dsk) (name : Byts) (n : Int) : Dsk × Int :=
 match nget d.now.names name with
 | Option.none => (d,70)
 | some f => if n < 0 ∨ ((d.now.files f).length : Int) < n then (d,2) else d.more [⟨2,f,n,zsec,[],[]⟩]
def Dsk.rename (d : Dsk) (a b : Byts) : Dsk × Int :=
 if !named b then (d,2) else
 match nget d.now.names a with
 | Option.none => (d,70)
 | some f => if a = b then d.more [] else d.more [⟨3,f,0,zsec,a,b⟩]
def Dsk.remove (d : Dsk) (a : Byts) : Dsk × Int :=
 match nget d.now.names a with
 | Option.none => (d,70)
 | some f => d.more [⟨4,f,0,zsec,a,[]⟩]
def upto (f : Int) (l : List Stp) : Int := match l.findIdx? fun x => decide (x.file = f) && decide (x.what = 0) with | some i => i | Option.none => -1
def Dsk.sync (d : Dsk) (a : Byts) : Dsk × Int :=
 match nget d.now.names a with
 | Option.none => (d,70)
 | some f => d.settle fun i x => if x.what = 1 ∨ x.what = 2 then decide (x.file = f) else decide ((i : Int) ≤ upto f d.steps)
def Dsk.syncNames (d : Dsk) : Dsk × Int := d.settle fun _ x => decide (x.what ≠ 1) && decide (x.what ≠ 2)
def Dsk.read (d : Dsk) (a : Byts) : Byts × Int :=
 match nget d.now.names a with
 | Option.none => ([],70)
 | some f => if d.down then ([],6) else ((d.now.files f).flatten,0)
/-! ### In memory -/
def Dsk.cells (n1 f1 n2 f2 : Nat) (sv : AV) (d : Dsk) : List AV :=
 [.bool true,.map n1,.map f1,.map n2,.map f2,sv,.int .i64 d.last,.bool d.down,.int .i64 d.arm,.int .i64 d.fault,.int .i64 d.wth]
def stpsC (l : List Stp) : List AV := l.flatMap Stp.cells
theorem stpsC_length {l : List Stp} (h : ∀ x ∈ l, x.data.length = 64) : (stpsC l).length = l.length * 69 := by
  induction l with
  | nil => rfl
  | cons a l ih =>
    show (a.cells ++ stpsC l).length = _
    rw [List.length_append, Stp.length (h a List.mem_cons_self), ih fun x hx => h x (List.mem_cons_of_mem _ hx), List.length_cons, Nat.add_mul]; omega
theorem stpsC_at {l : List Stp} (h : ∀ x ∈ l, x.data.length = 64) {i : Nat} (hi : i < l.length) : ((stpsC l).drop (i * 69)).take 69 = l[i].cells := by
  induction l generalizing i with
  | nil => simp at hi
  | cons a l ih =>
    have ha := Stp.length (h a List.mem_cons_self)
    show ((a.cells ++ stpsC l).drop (i * 69)).take 69 = _
    cases i with
    | zero => rw [Nat.zero_mul, List.drop_zero, List.take_left' ha]; rfl
    | succ i =>
      rw [show (i + 1) * 69 = a.cells.length + i * 69 by rw [ha]; omega, List.drop_append, List.drop_eq_nil_of_le (by omega), List.nil_append]
      rw [show a.cells.length + i * 69 - a.cells.length = i * 69 by omega]
      exact ih (fun x hx => h x (List.mem_cons_of_mem _ hx)) (by simpa using hi)
theorem stpsC_append (l l' : List Stp) : stpsC (l ++ l') = stpsC l ++ stpsC l' := by simp [stpsC]
end Go.Sx
/-! The disk in memory: steps are added, states are turned. -/
namespace Go.Sx
end Go.Sx
/-! What stays true of a disk, purely. -/
namespace Go.Sx
def Stp.V (x : Stp) : Prop := x.data.length = 64 ∧ 0 ≤ x.n ∧ x.n ≤ 4096 ∧ (x.what = 1 → x.n < 4096)
def FS.V (s : FS) : Prop := ∀ f,(s.files f).length ≤ 4096 ∧ ∀ t ∈ s.files f,t.length = 64
structure Dsk.V (d : Dsk) (k : Nat) : Prop where
 steps : d.steps.length ≤ k
 sv : ∀ x ∈ d.steps,x.V
 safe : d.safe.V
 now : d.now.V
 last : 0 ≤ d.last ∧ d.last ≤ k
theorem FS.V.none : FS.none.V := fun f => by simp [FS.none]
theorem Dsk.V.none : Dsk.none.V 0 := ⟨Nat.le_refl _,by simp [Dsk.none],FS.V.none,FS.V.none,by simp [Dsk.none]⟩
theorem putS_V {l : List Byts} {n : Nat} {d : Byts} (hl : l.length ≤ 4096) (h64 : ∀ t ∈ l,t.length = 64) (hn : n < 4096) (hd : d.length = 64) : (putS l n d).length ≤ 4096 ∧ ∀ t ∈ putS l n d,t.length = 64 := by
 unfold putS
 refine ⟨by simp; omega,fun t ht => ?_⟩
 rcases List.mem_or_eq_of_mem_set ht with ht | rfl
 ·rcases List.mem_append.1 ht with ht | ht
  ·exact h64 t ht
  ·rw [(List.mem_replicate.1 ht).2]; simp [zsec]
 ·exact hd
theorem FS.V.does {s : FS} {x : Stp} (h : s.V) (hx : x.V) : (s.does x).V := by
 obtain ⟨h1,h2,h3,h4⟩ := hx
 unfold FS.does
 split
 ·exact h
 ·split
  ·rename_i e
   intro f
   simp only [updF]
   split
   ·exact putS_V (h _).1 (h _).2 (by have := h4 e; omega) h1
   ·exact h f
  ·split
   ·intro f
    simp only [updF]
    split
    ·exact ⟨by have := (h x.file).1; simp; omega,fun t ht => (h x.file).2 t (List.mem_of_mem_take ht)⟩
    ·exact h f
   ·split
    ·split
     ·split
      ·exact h
      ·exact h
     ·exact h
    ·exact h
theorem stopped_same (d : Dsk) : d.stopped.1.steps = d.steps ∧ d.stopped.1.safe = d.safe ∧ d.stopped.1.now = d.now ∧ d.stopped.1.last = d.last ∧ d.stopped.1.wth = d.wth := by
 unfold Dsk.stopped
 split
 ·simp
 ·split <;> simp
theorem Dsk.V.stopped {d : Dsk} {k : Nat} (h : d.V k) : d.stopped.1.V k := by
 obtain ⟨e1,e2,e3,e4,_⟩ := stopped_same d
 exact ⟨by rw [e1]; exact h.steps,by rw [e1]; exact h.sv,by rw [e2]; exact h.safe,by rw [e3]; exact h.now,by rw [e4]; exact h.last⟩
theorem Dsk.V.le {d : Dsk} {k k' : Nat} (h : d.V k) (hk : k ≤ k') : d.V k' := ⟨by have := h.steps; omega,h.sv,h.safe,h.now,by have := h.last; omega⟩
theorem settleL_V {so : Nat → Stp → Bool} : ∀ {l : List Stp} {i : Nat} {s : FS}, s.V → (∀ x ∈ l, x.V) → (settleL so i l s).1.V ∧ (∀ x ∈ (settleL so i l s).2, x.V) ∧ (settleL so i l s).2.length ≤ l.length
  | [], i, s, h, _ => ⟨h, fun x hx => (by cases hx), Nat.le_refl _⟩
  | a :: l, i, s, h, hl => by
    simp only [settleL]
    split
    · obtain ⟨a1, a2, a3⟩ := settleL_V (so := so) (i := i + 1) (h.does (hl a List.mem_cons_self)) fun x hx => hl x (List.mem_cons_of_mem _ hx)
      exact ⟨a1, a2, by simp only [List.length_cons]; omega⟩
    · obtain ⟨a1, a2, a3⟩ := settleL_V (so := so) (i := i + 1) h fun x hx => hl x (List.mem_cons_of_mem _ hx)
      refine ⟨a1, fun x hx => ?_, by simp only [List.length_cons]; omega⟩
      rcases List.mem_cons.1 hx with rfl | hx
      · exact hl _ List.mem_cons_self
      · exact a2 x hx
end Go.Sx
/-! The disk of chapter 7 as blocks of one's own. -/
set_option linter.unusedVariables false
namespace Go.Sx
def rSec : Rp Byts := ⟨64,fun _ _ cs s => cs = cellsOfBytes s ∧ s.length = 64,fun ⟨h,h2⟩ => by rw [h,cellsOfBytes_length,h2],fun ⟨h,_⟩ => by rw [h]; exact ok_bytes _,fun _ h => h⟩
def rStp : Rp Stp := ⟨69,fun _ _ cs x => cs = x.cells ∧ x.data.length = 64,fun ⟨h,h2⟩ => by rw [h,Stp.length h2],fun ⟨h,_⟩ => by rw [h]; exact Stp.all _,fun _ h => h⟩
theorem rSec_flat {B : Nat → Prop} {w w' : AW} {cs : List AV} {x : Byts} (h : rSec.rd B w cs x) : rSec.rd B w' cs x := h
theorem Chk.secs {A A' : Nat → Prop} {w w' : AW} : ∀ {cs : List AV} {l : List Byts},Chk rSec A w cs l → Chk rSec A' w' cs l
 | _,[],h => h
 | _,_ :: _,⟨a,b,h1,h2,h3⟩ => ⟨a,b,h1,h2,Chk.secs h3⟩
theorem Chk.sec64 {A : Nat → Prop} {w : AW} : ∀ {cs : List AV} {l : List Byts}, Chk rSec A w cs l → ∀ s ∈ l, s.length = 64
  | _, _ :: _, ⟨a, b, h1, h2, h3⟩, s, hs => by
    rcases List.mem_cons.1 hs with rfl | hs
    · exact h2.2
    · exact Chk.sec64 h3 s hs
theorem Chk.stps {A : Nat → Prop} {w : AW} : ∀ {cs : List AV} {l : List Stp}, Chk rStp A w cs l ↔ cs = stpsC l ∧ ∀ x ∈ l, x.data.length = 64
  | cs, [] => ⟨fun h => ⟨h, by simp⟩, fun h => h.1⟩
  | cs, x :: l => by
    constructor
    · rintro ⟨a, b, h1, ⟨h2, h3⟩, h4⟩
      obtain ⟨h5, h6⟩ := Chk.stps.1 h4
      refine ⟨by rw [h1, h2, h5]; rfl, fun y hy => ?_⟩
      rcases List.mem_cons.1 hy with rfl | hy
      · exact h3
      · exact h6 y hy
    · rintro ⟨h1, h2⟩
      exact ⟨x.cells, stpsC l, h1, ⟨rfl, h2 x List.mem_cons_self⟩, Chk.stps.2 ⟨rfl, fun y hy => h2 y (List.mem_cons_of_mem _ hy)⟩⟩
def FEn (A : Nat → Prop) (w : AW) (es : List (AV × AV)) (F : Int → List Byts) : Prop :=
 (∀ e ∈ es,∃ k : Int,e.1 = .int .i64 k) ∧ ∀ k,match lookM (.int .i64 k) es with | some v => (rL rSec).rd A w [v] (F k) | none => F k = []
section
variable {A B : Nat → Prop} {w w' : AW} {es : List (AV × AV)} {F : Int → List Byts} {U U' : List Nat}
theorem FEn.xa (h : FEn A w es F) (e : Xa A w B w') : FEn B w' es F := ⟨h.1,fun k => by
 have := h.2 k
 cases hl : lookM (.int .i64 k) es with
 | none => rw [hl] at this; exact this
 | some v => rw [hl] at this; exact this.xa e⟩
theorem FEn.x (h : FEn (fz B U) w es F) (e : Xt U w U' w') : FEn (fz B U') w' es F := h.xa e.xw.xa
theorem FEn.like (h : FEn A w es F) (k : Int) : (es.all fun e => likeK (.int .i64 k) e.1) = true := by
 rw [List.all_eq_true]; intro e he
 obtain ⟨j,hj⟩ := h.1 e he
 rw [hj]; rfl
theorem FEn.none : FEn A w [] fun _ => [] := ⟨by simp,fun k => rfl⟩
theorem FEn.look (h : FEn A w es F) (k : Int) : ∃ v,lookV .nilslice false (lookM (.int .i64 k) es) = some v ∧ (rL rSec).rd A w [v] (F k) := by
 have := h.2 k
 cases hl : lookM (.int .i64 k) es with
 | none => rw [hl] at this; exact ⟨_,rfl,by have this : F k = [] := this; rw [this]; exact Rp.rd.nil⟩
 | some v => rw [hl] at this; exact ⟨_,rfl,this⟩
theorem FEn.set (h : FEn A w es F) {k : Int} {v : AV} {l : List Byts} (hv : (rL rSec).rd A w [v] l) : FEn A w (insM (.int .i64 k) v es) (updF F k l) := ⟨ints_ins h.1,fun j => by
 rw [lookM_ins h.1]
 unfold updF
 by_cases hj : j = k
 ·simp only [if_pos hj]; exact hv
 ·simp only [if_neg hj]; exact h.2 j⟩
end
structure DI where
 n1 : Nat
 f1 : Nat
 n2 : Nat
 f2 : Nat
 fs : Nat
 so : Ob
 sv : AV
 e1 : List (AV × AV)
 e2 : List (AV × AV)
def dkL (D : Nat) (i : DI) (d : Dsk) (L : Obs) : Obs :=
 (D,.row (d.cells i.n1 i.f1 i.n2 i.f2 i.sv)) :: (i.n1,.map (nEnts d.safe.names)) :: (i.f1,.map i.e1) :: (i.n2,.map (nEnts d.now.names)) :: (i.f2,.map i.e2) :: (i.fs,i.so) :: L
abbrev dkU (D : Nat) (i : DI) (L : Obs) : List Nat := D :: i.n1 :: i.f1 :: i.n2 :: i.f2 :: ids ((i.fs,i.so) :: L)
structure Dk (A : Nat → Prop) (I : List Nat) (w0 w : AW) (D : Nat) (i : DI) (d : Dsk) (k : Nat) (L : Obs) : Prop where
 ow : Ow A I w0 w (dkL D i d L)
 st : Sv 69 i.so i.sv (stpsC d.steps)
 f1 : FEn (fz A (dkU D i L)) w i.e1 d.safe.files
 f2 : FEn (fz A (dkU D i L)) w i.e2 d.now.files
 V : d.V k
 k27 : k < 2 ^ 27
section
variable {A : Nat → Prop} {I : List Nat} {w0 w w' : AW} {D : Nat} {i i' : DI} {d d' : Dsk} {k k' : Nat} {L L' : Obs} {lf : Nat} {lo : Ob} {K : AV → AW → Prop}
theorem Dk.sd (h : Dk A I w0 w D i d k L) : ∀ x ∈ d.steps,x.data.length = 64 := fun x hx => (h.V.sv x hx).1
theorem Dk.rs (h : Dk A I w0 w D i d k L) : Rs w 69 d.steps.length i.sv (stpsC d.steps) := h.ow.sv (i := 5) (f := i.fs) (o := i.so) rfl h.st (by decide) (stpsC_length h.sd)
theorem Dk.le (h : Dk A I w0 w D i d k L) (hk : k ≤ k') (h27 : k' < 2 ^ 27) : Dk A I w0 w D i d k' L := ⟨h.ow,h.st,h.f1,h.f2,h.V.le hk,h27⟩
theorem Dk.x (h : Dk A I w0 w D i d k L) (st : Ow A I w0 w' (dkL D i d L')) (x : Xt (dkU D i L) w (dkU D i L') w') : Dk A I w0 w' D i d k L' := ⟨st,h.st,h.f1.x x,h.f2.x x,h.V,h.k27⟩
theorem Dk.fr (h : Dk A I w0 w D i d k L) (hf : Fr w.size w w') : Dk A I w0 w' D i d k L ∧ Xt (dkU D i L) w (dkU D i L) w' := by
 obtain ⟨a,b⟩ := h.ow.call hf
 exact ⟨h.x a b,b⟩
theorem Dk.put (h : Dk A I w0 w D i d k L) {o : Nat} {vs : List AV} (hl : o + vs.length ≤ 11) (hd : listPut (d.cells i.n1 i.f1 i.n2 i.f2 i.sv) o vs = d'.cells i.n1 i.f1 i.n2 i.f2 i.sv) (e1 : d'.safe = d.safe) (e2 : d'.now = d.now) (e3 : d'.steps = d.steps) (hV : d'.V k') (hk : k' < 2 ^ 27)
  {K : AW → Prop} (hK : ∀ w',Dk A I w0 w' D i d' k' L → Xt (dkU D i L) w (dkU D i L) w' → K w') : onM (w.putCells D o vs) K := by
 refine h.ow.put 0 rfl hl fun w' st x => ?_
 rw [hd] at st
 have st : Ow A I w0 w' (dkL D i d' L) := by
  unfold dkL; rw [e1,e2]; exact st
 exact hK w' ⟨st,by rw [e3]; exact h.st,by rw [e1]; exact h.f1.x x,by rw [e2]; exact h.f2.x x,hV,hk⟩ x
theorem dkL_mid {p : Nat × Ob} : (p :: dkL D i d L).Perm (dkL D i d (p :: L)) := (List.perm_middle (a := p) (l₁ := [_,_,_,_,_,_]) (l₂ := L)).symm
theorem Dk.new' (h : Dk A I w0 w D i d k L) {cs : List AV} {K : Nat → AW → Prop} (hK : ∀ b w',Dk A I w0 w' D i d k ((b,.row cs) :: L) → Xt (dkU D i L) w (dkU D i ((b,.row cs) :: L)) w' → K b w') : Sx.new w cs K :=
 h.ow.new' fun b w' st x => by
  obtain ⟨st2,x2⟩ := st.perm (L' := dkL D i d ((b,.row cs) :: L)) dkL_mid
  have x3 : Xt (dkU D i L) w (dkU D i ((b,.row cs) :: L)) w' := x.trans x2
  exact hK b w' (h.x st2 x3) x3
theorem Dk.newMap' (h : Dk A I w0 w D i d k L) {K : Nat → AW → Prop} (hK : ∀ b w',Dk A I w0 w' D i d k ((b,.map []) :: L) → Xt (dkU D i L) w (dkU D i ((b,.map []) :: L)) w' → K b w') : newMap w K :=
 h.ow.newMap' fun b w' st x => by
  obtain ⟨st2,x2⟩ := st.perm (L' := dkL D i d ((b,.map []) :: L)) dkL_mid
  have x3 : Xt (dkU D i L) w (dkU D i ((b,.map []) :: L)) w' := x.trans x2
  exact hK b w' (h.x st2 x3) x3
theorem Dk.wr (h : Dk A I w0 w D i d k L) (j : Nat) {b o : Nat} {cs vs : List AV} (hj : nth L j = some (b,.row cs)) (hl : o + vs.length ≤ cs.length) {K : AW → Prop}
  (hK : ∀ w',Dk A I w0 w' D i d k (stN L j (b,.row (listPut cs o vs))) → Xt (dkU D i L) w (dkU D i (stN L j (b,.row (listPut cs o vs)))) w' → K w') : onM (w.putCells b o vs) K := by
 have hi : nth (dkL D i d L) (j + 6) = some (b,.row cs) := hj
 refine h.ow.put (j + 6) hi hl fun w' st x => ?_
 have e : ids (stN (dkL D i d L) (j + 6) (b,.row (listPut cs o vs))) = ids (dkL D i d L) := stN_ids hi rfl
 have x : Xt (dkU D i L) w (dkU D i (stN L j (b,.row (listPut cs o vs)))) w' := by
  have x : Xt (ids (dkL D i d L)) w (ids (dkL D i d L)) w' := x
  rw [← e] at x
  have e2 : Xt (ids (dkL D i d L)) w (dkU D i (stN L j (b,.row (listPut cs o vs)))) w' := by
   rw [← e]
   exact x
  exact e2
 exact hK w' (h.x st x) x
theorem Dk.drop {p : Nat × Ob} (h : Dk A I w0 w D i d k (p :: L)) (hr : p.2.re = true := by rfl) : Dk A I w0 w D i d k L ∧ Xt (dkU D i (p :: L)) w (dkU D i L) w ∧ fz A (dkU D i L) p.1 ∧ p.2.is w p.1 := by
 obtain ⟨st,x⟩ := h.ow.perm (L' := p :: dkL D i d L) dkL_mid.symm
 obtain ⟨st2,x2,q1,q2⟩ := st.drop hr
 have x2 : Xt (ids (p :: dkL D i d L)) w (ids (dkL D i d L)) w := by
  have e : ids (p :: dkL D i d L) = p.1 :: ids (dkL D i d L) := by
   show (bif p.2.re then _ else _) = _
   rw [hr]; rfl
  rw [e]; exact x2
 have x3 : Xt (dkU D i (p :: L)) w (dkU D i L) w := x.trans x2
 exact ⟨h.x st2 x3,x3,q1,q2⟩
def Od (A : Nat → Prop) (I : List Nat) (w0 w : AW) (D : Nat) (i : DI) (L : Obs) (r : Dsk × Int) (k : Nat) (K : AV → AW → Prop) : Prop :=
 ∀ i' w',Dk A I w0 w' D i' r.1 k L → Xt (dkU D i L) w (dkU D i' L) w' → K (.int .i64 r.2) w'
theorem Od.x {r : Dsk × Int} (h : Od A I w0 w D i L r k K) (x : Xt (dkU D i L) w (dkU D i' L) w') : Od A I w0 w' D i' L r k K := fun i2 w2 a b => h i2 w2 a (x.trans b)
theorem Od.now {e : Int} (h : Dk A I w0 w D i d k L) (hK : Od A I w0 w D i L (d,e) k' K) (hk : k ≤ k') (h27 : k' < 2 ^ 27) : K (.int .i64 e) w := hK i w (h.le hk h27) Xt.refl
theorem Dk.app (h : Dk A I w0 w D i d k L) {x : Stp} {xv : AV} (hx : x.V) (hxv : Rs w 69 1 xv x.cells) (hk : k + 1 < 2 ^ 27) {K : AV → AW → Prop}
  (hK : ∀ v' w',okCell v' = true → (∀ K2 : AW → Prop,(∀ i2 w2,i2.n2 = i.n2 → i2.f2 = i.f2 → i2.e2 = i.e2 → Dk A I w0 w2 D i2 { d with steps := d.steps ++ [x] } (k + 1) L → Xt (dkU D i L) w (dkU D i2 L) w2 → K2 w2) → onM (w'.putCells D 5 [v']) K2) → K v' w') : onE (appS 69 120 w i.sv xv) K := by
 have hcl := stpsC_length h.sd
 have hst := h.V.steps
 have h27 := h.k27
 refine h.ow.accApp 5 (f := i.fs) (o := i.so) rfl h.st (by decide) hxv (by rw [hcl,Nat.mul_div_cancel _ (by decide)]; omega) (by rw [hcl,Nat.mul_div_cancel _ (by decide)]; omega) fun v' f' o' w' st x1 hs => ?_
 refine hK v' w' hs.ok fun K2 hK2 => ?_
 have hstp : stpsC d.steps ++ x.cells = stpsC (d.steps ++ [x]) := by rw [stpsC_append]; simp [stpsC]
 rw [hstp] at hs
 let i2 : DI := { i with fs := f',so := o',sv := v' }
 have x1 : Xt (dkU D i L) w (dkU D i2 L) w' := x1
 refine st.put 0 rfl (by simp [Dsk.cells]) fun w2 st2 x2 => ?_
 have x2 : Xt (dkU D i2 L) w' (dkU D i2 L) w2 := x2
 have st2 : Ow A I w0 w2 (dkL D i2 { d with steps := d.steps ++ [x] } L) := st2
 refine hK2 i2 w2 rfl rfl rfl ⟨st2,hs,h.f1.x (x1.trans x2),h.f2.x (x1.trans x2),?_,hk⟩ (x1.trans x2)
 exact ⟨by simp; omega,fun y hy => by
  rcases List.mem_append.1 hy with hy | hy
  ·exact h.V.sv y hy
  ·simp at hy; subst hy; exact hx,h.V.safe,h.V.now,by have := h.V.last; simp only []; omega⟩
theorem Dk.room (h : Dk A I w0 w D i d k L) : Dk A I w0 w D i d k ((0,.none) :: L) ∧ Xt (dkU D i L) w (dkU D i ((0,.none) :: L)) w := by
 obtain ⟨st2,x2⟩ := h.ow.room.perm (L' := dkL D i d ((0,.none) :: L)) dkL_mid
 have x3 : Xt (dkU D i L) w (dkU D i ((0,.none) :: L)) w := x2
 exact ⟨h.x st2 x3,x3⟩
theorem Dk.accL (h : Dk A I w0 w D i d k L) (j : Nat) {f sz bytes n : Nat} {o : Ob} {v xv : AV} {cs new : List AV} (hj : nth L j = some (f,o)) (hv : Sv sz o v cs) (hs : 0 < sz) (hx : Rs w sz n xv new)
  (hb : (2 * (cs.length / sz + n) + 1000) * bytes < 2 ^ 48) (hb2 : cs.length / sz + n < 2 ^ 62) {K : AV → AW → Prop}
  (hK : ∀ v' f' o' w',Dk A I w0 w' D i d k (stN L j (f',o')) → Xt (dkU D i L) w (dkU D i (stN L j (f',o'))) w' → Sv sz o' v' (cs ++ new) → K v' w') : onE (appS sz bytes w v xv) K := by
 have hi : nth (dkL D i d L) (j + 6) = some (f,o) := hj
 refine h.ow.accApp (j + 6) hi hv hs hx hb hb2 fun v' f' o' w' st x hs' => ?_
 have x : Xt (dkU D i L) w (dkU D i (stN L j (f',o'))) w' := x
 exact hK v' f' o' w' (h.x st x) x hs'
theorem Dk.stepsTo (h : Dk A I w0 w D i d k ((lf,lo) :: L)) {lv : AV} {l : List Stp} (hs : Sv 69 lo lv (stpsC l)) (hl : l.length ≤ k) (hv : ∀ x ∈ l,x.V) {K : AW → Prop}
  (hK : ∀ i2 w2,Dk A I w0 w2 D i2 { d with steps := l } k L → Xt (dkU D i ((lf,lo) :: L)) w (dkU D i2 L) w2 → K w2) : onM (w.putCells D 5 [lv]) K := by
 let i2 : DI := { i with fs := lf,so := lo,sv := lv }
 obtain ⟨st1,x1⟩ := h.ow.front 5 (p := (i.fs,i.so)) rfl
 obtain ⟨st2,x2⟩ := st1.forget
 have x2 : Xt (dkU D i ((lf,lo) :: L)) w (dkU D i2 L) w := x1.trans x2
 refine st2.put 0 rfl (by simp [Dsk.cells]) fun w2 st3 x3 => ?_
 have x3 : Xt (dkU D i2 L) w (dkU D i2 L) w2 := x3
 have st3 : Ow A I w0 w2 (dkL D i2 { d with steps := l } L) := st3
 exact hK i2 w2 ⟨st3,hs,h.f1.x (x2.trans x3),h.f2.x (x2.trans x3),⟨hl,hv,h.V.safe,h.V.now,h.V.last⟩,h.k27⟩ (x2.trans x3)
theorem Dk.push (h : Dk A I w0 w D i d k L) (hf : Fr w.size w w') {b : Nat} {cs : List AV} (hb : Box w' b cs) (hl : w.size ≤ b) : Dk A I w0 w' D i d k ((b,.row cs) :: L) ∧ Xt (dkU D i L) w (dkU D i ((b,.row cs) :: L)) w' := by
 obtain ⟨st,x⟩ := h.ow.push (p := (b,.row cs)) rfl hf hl hb
 obtain ⟨st2,x2⟩ := st.perm (L' := dkL D i d ((b,.row cs) :: L)) dkL_mid
 have x3 : Xt (dkU D i L) w (dkU D i ((b,.row cs) :: L)) w' := x.trans x2
 exact ⟨h.x st2 x3,x3⟩
theorem Box.rs {w : AW} {b sz : Nat} {cs : List AV} (h : Box w b cs) (hl : cs.length = sz) : Rs w sz 1 (.slice b 0 1 1 none) cs := .inr ⟨b,0,1,none,cs,rfl,h.cells,by omega,by rw [List.drop_zero,List.take_of_length_le (by omega)]⟩
end
end Go.Sx
