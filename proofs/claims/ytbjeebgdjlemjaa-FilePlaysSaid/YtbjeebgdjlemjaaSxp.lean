/-
 Reading the abstract memory,new memory,rows that grow or are written: what a formula needs.
 No condition beyond those that each theorem names.
-/
import Derived.Test.YtbjeebgdjlemjaaSxn
set_option linter.unusedVariables false
set_option linter.unusedSimpArgs false
/-! Reading memory, new memory: what a function's formula needs. -/
namespace Go.Sx
structure Mem (w : AW) : Prop where
 lt : ∀ b o,w.get b = some o → b < w.size
 fam : ∀ b cs f own d,w.get b = some (.cells cs f own d) → f ≤ b
structure Fr (n : Nat) (w w' : AW) : Prop where
 size : w.size ≤ w'.size
 old : ∀ b,b < n → w'.get b = w.get b
 mem : Mem w'
theorem Fr.refl {n : Nat} {w : AW} (h : Mem w) : Fr n w w := ⟨Nat.le_refl _,fun _ _ => rfl,h⟩
theorem Fr.trans {n m : Nat} {w w1 w2 : AW} (h : Fr n w w1) (h' : Fr m w1 w2) (hm : n ≤ m) : Fr n w w2 :=
 ⟨Nat.le_trans h.size h'.size,fun b hb => (h'.old b (Nat.lt_of_lt_of_le hb hm)).trans (h.old b hb),h'.mem⟩
theorem Mem.cells_fam {w : AW} (h : Mem w) {b : Nat} {cs : List AV} (hc : w.cells? b = some cs) : ∃ x,w.fam? b = some x ∧ b < w.size ∧ x.1 ≤ b := by
 obtain ⟨x,o,d,h1,h2,h3⟩ := AW.cells?_iff.1 hc
 exact ⟨x,h1,h.lt _ _ h3,h.fam _ _ _ _ _ h3⟩
theorem Fr.cells {n : Nat} {w w' : AW} (h : Fr n w w') (hm : Mem w) {b : Nat} {cs : List AV} (hc : w.cells? b = some cs) (hn : w.size ≤ n) : w'.cells? b = some cs := by
 obtain ⟨x,h1,h2,h3⟩ := hm.cells_fam hc
 rw [AW.cells?_congr h1 (h.old b (by omega)) (h.old x.1 (by omega))]; exact hc
def Rs (w : AW) (sz n : Nat) (v : AV) (cs : List AV) : Prop :=
 (v = .nilslice ∧ n = 0 ∧ cs = []) ∨ ∃ b o cap ex all,v = .slice b o n cap ex ∧ w.cells? b = some all ∧ o + n * sz ≤ all.length ∧ cs = (all.drop o).take (n * sz)
theorem Rs.fr {w w' : AW} {sz n k : Nat} {v : AV} {cs : List AV} (h : Rs w sz n v cs) (hm : Mem w) (hf : Fr k w w') (hk : w.size ≤ k) : Rs w' sz n v cs := by
 rcases h with h | ⟨b,o,cap,ex,all,h1,h2,h3,h4⟩
 ·exact .inl h
 ·exact .inr ⟨b,o,cap,ex,all,h1,hf.cells hm h2 hk,h3,h4⟩
theorem Rs.length {w : AW} {sz n : Nat} {v : AV} {cs : List AV} (h : Rs w sz n v cs) : cs.length = n * sz := by
 rcases h with ⟨_,rfl,rfl⟩ | ⟨b,o,cap,ex,all,h1,h2,h3,rfl⟩
 ·simp
 ·simp; omega
theorem Rs.nil {w : AW} {sz : Nat} : Rs w sz 0 .nilslice [] := .inl ⟨rfl,rfl,rfl⟩
theorem Rs.len {w : AW} {sz n : Nat} {v : AV} {cs : List AV} (h : Rs w sz n v cs) : lenS v = some (.int .i64 n) := by
 rcases h with ⟨rfl,rfl,rfl⟩ | ⟨b,o,cap,ex,all,rfl,_⟩ <;> rfl
theorem takeCells_some {cs : List AV} {o n : Nat} (h : o + n ≤ cs.length) : takeCells cs o n = some ((cs.drop o).take n) := by
 unfold takeCells; rw [if_pos h]
theorem Rs.read {w : AW} {sz n : Nat} {v : AV} {cs : List AV} (h : Rs w sz n v cs) : srcCells w sz v = some (n,cs) := by
 rcases h with ⟨rfl,rfl,rfl⟩ | ⟨b,o,cap,ex,all,rfl,h2,h3,rfl⟩
 ·rfl
 ·simp only [srcCells,AW.read,h2,takeCells_some h3,Option.map_some]
theorem Rs.at {w : AW} {sz n : Nat} {v : AV} {cs : List AV} (h : Rs w sz n v cs) {i : Int} (h0 : 0 ≤ i) (h1 : i < n) {K : Nat → Nat → Prop}
  (hK : ∀ b o,(∀ f,f < sz → ld w b (o + f) = cs[i.toNat * sz + f]?) → (ldN sz w b o = some (.agg ((cs.drop (i.toNat * sz)).take sz))) → K b o) : atP (idxS sz v (.int .i64 i)) K := by
 rw [atP_iff]
 rcases h with ⟨rfl,rfl,rfl⟩ | ⟨b,o,cap,ex,all,rfl,h2,h3,rfl⟩
 ·exact absurd h1 (by simp; omega)
 ·obtain ⟨k,rfl⟩ := Int.eq_ofNat_of_zero_le h0
  have hk : k < n := by omega
  have hmul : (k + 1) * sz ≤ n * sz := Nat.mul_le_mul_right _ hk
  rw [Nat.add_mul,Nat.one_mul] at hmul
  have hb : Nat.blt k n = true := by simp [Nat.blt_eq,hk]
  have hk' : Int.toNat (k : Int) = k := rfl
  refine ⟨b,o + k * sz,?_,hK _ _ (fun f hf => ?_) ?_⟩
  ·show (asN (.int .i64 (Int.ofNat k))).bind _ = _
   simp only [asN,Option.bind_some,hb,guardO,cond_true]
  ·simp only [ld,h2,Option.bind_some,hk']
   rw [List.getElem?_take_of_lt (by omega),List.getElem?_drop]
   congr 1; omega
  ·simp only [ldN,h2,Option.bind_some,hk']
   rw [takeCells_some (by omega)]
   simp only [Option.map_some,Option.some.injEq,AV.agg.injEq]
   rw [← List.drop_drop,List.drop_take,List.take_take,Nat.min_eq_left (by omega)]
/-! ### New memory -/
theorem Mem.push {w : AW} (h : Mem w) {o : AO} (ho : ∀ cs f own d,o = .cells cs f own d → f ≤ w.size) : Mem (w.push o) := by
 constructor
 ·intro b x hx
  rw [AW.push_get] at hx
  split at hx
  ·rename_i e; subst e; simp
  ·have := h.lt _ _ hx; simp; omega
 ·intro b cs f own d hx
  rw [AW.push_get] at hx
  split at hx
  ·rename_i e; subst e; exact ho _ _ _ _ (Option.some.inj hx)
  ·exact h.fam _ _ _ _ _ hx
theorem Fr.push {w : AW} (h : Mem w) {o : AO} (ho : ∀ cs f own d,o = .cells cs f own d → f ≤ w.size) : Fr w.size w (w.push o) :=
 ⟨by simp,fun b hb => by simp [Nat.ne_of_lt hb],h.push ho⟩
def Box (w : AW) (b : Nat) (cs : List AV) : Prop := w.get b = some (.cells cs b b false)
theorem Box.cells {w : AW} {b : Nat} {cs : List AV} (h : Box w b cs) : w.cells? b = some cs := by
 have hr : w.root? b = some (b,b,false) := AW.root?_iff.2 ⟨cs,h,rfl⟩
 exact AW.cells?_iff.2 ⟨(b,b,false),b,false,AW.fam?_iff.2 ⟨cs,b,false,h,hr⟩,.inl rfl,h⟩
theorem Box.fam {w : AW} {b : Nat} {cs : List AV} (h : Box w b cs) : w.fam? b = some (b,b,false) :=
 AW.fam?_iff.2 ⟨cs,b,false,h,AW.root?_iff.2 ⟨cs,h,rfl⟩⟩
theorem Box.ld {w : AW} {b o : Nat} {cs : List AV} (h : Box w b cs) : Sx.ld w b o = cs[o]? := by simp [Sx.ld,h.cells]
theorem Box.lt {w : AW} {b : Nat} {cs : List AV} (h : Box w b cs) (hm : Mem w) : b < w.size := hm.lt _ _ h
theorem Box.fr {w w' : AW} {b n : Nat} {cs : List AV} (h : Box w b cs) (hf : Fr n w w') (hb : b < n) : Box w' b cs := (hf.old b hb).trans h
theorem Box.ldN {w : AW} {b o n : Nat} {cs : List AV} (h : Box w b cs) (hn : o + n ≤ cs.length) : Sx.ldN n w b o = some (.agg ((cs.drop o).take n)) := by
 simp [Sx.ldN,h.cells,takeCells_some hn]
theorem new_of {w : AW} {cs : List AV} {K : Nat → AW → Prop} (hm : Mem w) (h : ∀ w',Fr w.size w w' → Box w' w.size cs → w'.size = w.size + 1 → K w.size w') : new w cs K :=
 h _ (Fr.push hm fun cs' f own d e => by cases e; exact Nat.le_refl _) (by simp [Box,newCells,cellsAO]) (by simp [newCells])
theorem Box.put {w : AW} {b o : Nat} {cs vs : List AV} (h : Box w b cs) (hb : b ≠ 0) (hl : o + vs.length ≤ cs.length) : w.putCells b o vs = some (w.set b (.cells (listPut cs o vs) b b false)) := by
 unfold AW.putCells
 rw [h.fam,h.cells]
 simp only []
 rw [if_neg (by omega),if_pos (by simp)]
 unfold AW.setCs
 have h : w.get b = some (.cells cs b b false) := h
 rw [h]
theorem Mem.set {w : AW} (h : Mem w) {b : Nat} {o : AO} (hb : b < w.size) (ho : ∀ cs f own d,o = .cells cs f own d → f ≤ b) : Mem (w.set b o) := by
 constructor
 ·intro c x hx
  rw [AW.set_get] at hx
  split at hx
  ·rename_i e; subst e; exact hb
  ·exact h.lt _ _ hx
 ·intro c cs f own d hx
  rw [AW.set_get] at hx
  split at hx
  ·rename_i e; subst e; exact ho _ _ _ _ (Option.some.inj hx)
  ·exact h.fam _ _ _ _ _ hx
structure Ch (X : List Nat) (w w' : AW) : Prop where
 size : w.size ≤ w'.size
 old : ∀ b,b < w.size → b ∉ X → w'.get b = w.get b
 mem : Mem w'
theorem Ch.fr {X : List Nat} {w w' : AW} (h : Ch X w w') {n : Nat} (hn : n ≤ w.size) (hX : ∀ x ∈ X,n ≤ x) : Fr n w w' :=
 ⟨h.size,fun b hb => h.old b (Nat.lt_of_lt_of_le hb hn) fun hx => absurd (hX b hx) (Nat.not_le.2 hb),h.mem⟩
theorem Ch.set {w : AW} (h : Mem w) {b : Nat} {o : AO} (hb : b < w.size) (ho : ∀ cs f own d,o = .cells cs f own d → f ≤ b) : Ch [b] w (w.set b o) :=
 ⟨Nat.le_refl _,fun c _ hx => by simp at hx; simp [hx],h.set hb ho⟩
def blk : AV → Option Nat
 | .slice b _ _ _ _ => some b
 | _ => none
end Go.Sx
namespace Go.Sx
/-! ### Numbers -/
theorem wi_eq {x : Int} (h1 : -9223372036854775808 ≤ x) (h2 : x < 9223372036854775808) : wi x = x := by
 have : wi x = (x + 9223372036854775808) % 18446744073709551616 - 9223372036854775808 := by
  simp only [wi,IntKind.wrap,IntKind.bits,IntKind.signed,Bool.true_and,decide_eq_true_eq]
  simp only [show (2 ^ 64 : Int) = 18446744073709551616 from rfl,show ((2 : Int) ^ (64 - 1)) = 9223372036854775808 from rfl]
  by_cases h : x % 18446744073709551616 ≥ 9223372036854775808
  ·rw [if_pos (decide_eq_true h)]; omega
  ·rw [if_neg (by simpa using h)]; omega
 rw [this]; omega
theorem ifT_t {A B : Prop} (h : A) : ifT true A B := h
theorem ifT_f {A B : Prop} (h : B) : ifT false A B := h
theorem ifT_d {p : Prop} [Decidable p] {A B : Prop} (h1 : p → A) (h2 : ¬ p → B) : ifT (decide p) A B := by
 by_cases h : p
 ·rw [decide_eq_true h]; exact h1 h
 ·rw [decide_eq_false h]; exact h2 h
theorem ifT_nd {p : Prop} [Decidable p] {A B : Prop} (h1 : ¬ p → A) (h2 : p → B) : ifT (!decide p) A B := by
 by_cases h : p
 ·rw [decide_eq_true h]; exact h2 h
 ·rw [decide_eq_false h]; exact h1 h
theorem gd_t {A : Prop} {b : Bool} (hb : b = true) (h : A) : gd b A := by rw [hb]; exact h
theorem onM_s {α : Type} {x : Option α} {K : α → Prop} {v : α} (h : x = some v) (hK : K v) : onM x K := by rw [h]; exact hK
theorem onE_s {x : Option (AV × AW)} {K : AV → AW → Prop} {v : AV} {w : AW} (h : x = some (v,w)) (hK : K v w) : onE x K := by rw [h]; exact hK
end Go.Sx
/-! A slice of one's own numbers, written in its place. -/
namespace Go.Sx
def Own (n0 : Nat) (w : AW) (sz : Nat) (v : AV) (cs : List AV) : Prop :=
 (v = .nilslice ∧ cs = []) ∨ ∃ b n cap ex f o d dd,v = .slice b 0 n cap ex ∧ n * sz = cs.length ∧ n0 ≤ f ∧ f ≠ 0 ∧ w.get b = some (.cells cs f o d) ∧ w.root? f = some (f,b,dd)
theorem Own.put {n0 : Nat} {w : AW} {sz b n cap : Nat} {ex : Option Nat} {cs vs : List AV} {i : Nat} (h : Own n0 w sz (.slice b 0 n cap ex) cs) (hm : Mem w) (hl : i + vs.length ≤ cs.length) :
  ∃ w',w.putCells b i vs = some w' ∧ Fr n0 w w' ∧ Own n0 w' sz (.slice b 0 n cap ex) (listPut cs i vs) ∧ w'.size = w.size := by
 rcases h with ⟨h,_⟩ | ⟨b',n',cap',ex',f,o,d,dd,h0,h1,h2,h3,h4,h5⟩
 ·cases h
 cases h0
 have hfam : w.fam? b = some (f,b,dd) := AW.fam?_iff.2 ⟨cs,o,d,h4,h5⟩
 have hcells : w.cells? b = some cs := AW.cells?_iff.2 ⟨(f,b,dd),o,d,hfam,.inr rfl,h4⟩
 have hex : ∃ w',w.putCells b i vs = some w' := by
  unfold AW.putCells
  rw [hfam,hcells]
  simp only []
  rw [if_neg (by omega)]
  split <;> exact ⟨_,rfl⟩
 obtain ⟨w',hw⟩ := hex
 have hlen : (listPut cs i vs).length = cs.length := by simp [listPut]; omega
 obtain ⟨c0,hc0,_⟩ := AW.root?_iff.1 h5
 simp only [] at hc0
 have hfb := hm.fam _ _ _ _ _ h4
 have hbl := hm.lt _ _ h4
 obtain ⟨f',own',dirty',cs',own1,dirty1,cs0,g1,g2,g3,g4,g5,g6,g7,g8⟩ := putCells_get hw
 rw [hfam] at g1
 cases g1
 rw [hcells] at g2
 cases g2
 rw [h4] at g6
 cases g6
 refine ⟨w',hw,?_,?_,g5⟩
 ·-- the frame
  have hget : ∀ c,c ≠ b → c ≠ f → w'.get c = w.get c := fun c hc hcf => by
   rcases g8 with ⟨_,_,_,g⟩ | ⟨_,_,g⟩ | ⟨_,g⟩ <;> simp [g,hc,hcf]
  refine ⟨by omega,fun c hc => hget c (by omega) (by omega),?_⟩
  constructor
  ·intro c x hx
   by_cases hcb : c = b
   ·subst hcb; omega
   ·by_cases hcf : c = f
    ·subst hcf; omega
    ·rw [hget c hcb hcf] at hx
     have := hm.lt _ _ hx; omega
  ·intro c cs2 f2 o2 d2 hx
   rcases g8 with ⟨e1,_,_,g⟩ | ⟨_,e1,g⟩ | ⟨_,g⟩ <;> rw [g] at hx
   ·split at hx
    ·rename_i e; cases hx; omega
    ·exact hm.fam _ _ _ _ _ hx
   ·split at hx
    ·rename_i e; cases hx; omega
    ·exact hm.fam _ _ _ _ _ hx
   ·split at hx
    ·rename_i e; cases hx; omega
    ·split at hx
     ·rename_i e; cases hx; omega
     ·exact hm.fam _ _ _ _ _ hx
 ·rcases g8 with ⟨e1,_,_,g⟩ | ⟨_,e1,g⟩ | ⟨e1,g⟩
  ·subst e1
   refine .inr ⟨f,n,cap,ex,f,f,false,false,rfl,by rw [hlen,h1],h2,h3,by rw [g]; simp,AW.root?_iff.2 ⟨listPut cs i vs,by rw [g]; simp,rfl⟩⟩
  ·subst e1
   refine .inr ⟨f,n,cap,ex,f,f,true,true,rfl,by rw [hlen,h1],h2,h3,by rw [g]; simp,AW.root?_iff.2 ⟨listPut cs i vs,by rw [g]; simp,rfl⟩⟩
  ·refine .inr ⟨b,n,cap,ex,f,o,d,true,rfl,by rw [hlen,h1],h2,h3,by rw [g]; simp,AW.root?_iff.2 ⟨cs0,by rw [g,if_neg e1,if_pos rfl],rfl⟩⟩
section
variable {P : Program} {hk : Hook}
theorem Cl_hook {f : FuncId} {args : List AV} {w w' : AW} {v : AV} {K : AV → AW → Prop} (h : hk f args w = some (some (v,w'))) (hK : K v w') : Cl P hk f args w K := by
 refine wpL_in (t := .call f args w) ?_
 show wCall P _ hk f args w _
 unfold wCall
 rw [h]
 exact ⟨v,w',rfl,hK⟩
end
end Go.Sx
/-! Ranges over functions: a step of each kind. -/
namespace Go.Sx
end Go.Sx
/-! Bytes, maps with whole keys. -/
namespace Go.Sx
theorem bytesOfCells_of : ∀ (s : List UInt8), bytesOfCells (cellsOfBytes s) = some s
  | [] => rfl
  | a :: s => by
    show bytesOfCells (.int .u8 (a.toNat : Int) :: cellsOfBytes s) = _
    simp only [bytesOfCells, bytesOfCells_of s, Option.map_some]
    congr 2
    have : ((a.toNat : Int)).toNat = a.toNat := rfl
    rw [this]
    exact UInt8.ofNat_toNat
theorem cellsOfBytes_length (s : List UInt8) : (cellsOfBytes s).length = s.length := by simp [cellsOfBytes]
def RsB (w : AW) (v : AV) (s : List UInt8) : Prop := Rs w 1 s.length v (cellsOfBytes s)
theorem RsB.len {w : AW} {v : AV} {s : List UInt8} (h : RsB w v s) : lenS v = some (.int .i64 s.length) := Rs.len h
theorem RsB.str {w : AW} {v : AV} {s : List UInt8} (h : RsB w v s) : b2s w v = some (.str s) := by
 have hr := Rs.read h
 rcases h with ⟨rfl,h2,_⟩ | ⟨b,o,cap,ex,all,rfl,h2,h3,h4⟩
 ·have : s = [] := List.eq_nil_of_length_eq_zero h2
  subst this; rfl
 ·simp only [b2s]
  simp only [srcCells,Nat.mul_one,Option.map_eq_some_iff] at hr
  obtain ⟨cs,h5,h6⟩ := hr
  cases h6
  rw [h5,Option.bind_some,bytesOfCells_of]; rfl
def BS (n0 : Nat) (w : AW) (v : AV) (s : List UInt8) : Prop := (v = .nilslice ∧ s = []) ∨ ∃ c ex,v = .slice c 0 s.length s.length ex ∧ (ex = none ∨ ex = some 1) ∧ n0 ≤ c ∧ Box w c (cellsOfBytes s)
theorem BS.rs {n0 : Nat} {w : AW} {v : AV} {s : List UInt8} (h : BS n0 w v s) : RsB w v s := by
 rcases h with ⟨rfl,rfl⟩ | ⟨c,ex,rfl,_,_,h⟩
 ·exact Rs.nil
 ·refine .inr ⟨c,0,_,ex,_,rfl,h.cells,by rw [cellsOfBytes_length]; omega,?_⟩
  rw [List.drop_zero,List.take_of_length_le (by rw [cellsOfBytes_length]; omega)]
theorem Box.put' {w : AW} {b o : Nat} {cs vs : List AV} (h : Box w b cs) (hm : Mem w) (hb : b ≠ 0) (hl : o + vs.length ≤ cs.length) {K : AW → Prop} (hK : ∀ w',Ch [b] w w' → Box w' b (listPut cs o vs) → w'.size = w.size → K w') : onM (w.putCells b o vs) K := by
 refine onM_s (h.put hb hl) (hK _ (Ch.set hm (h.lt hm) fun cs f own d e => by cases e; exact Nat.le_refl _) (by simp [Box]) rfl)
/-! ### Maps with whole keys -/
section maps
variable {α : Type} (key : α → Int) (val : AW → α → AV → Prop)
variable {key val}
end maps
end Go.Sx
