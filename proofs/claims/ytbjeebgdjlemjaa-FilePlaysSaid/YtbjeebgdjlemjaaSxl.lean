/-
 The sorted keys of a map,from the shelf,as a hook.
 No condition beyond those that each theorem names.
-/
import Derived.Test.YtbjeebgdjlemjaaSxs
import Derived.Shelf.SlIterI.Nil
import Derived.Shelf.SlIter.Nil
set_option linter.unusedVariables false
set_option linter.unusedSimpArgs false
/-! slices.Sorted(maps.Keys(m)): the contract, and the hook. -/
namespace Go.Sx
open Go.Proofs Go.RowKit Go.Maps Go.Sort Go.Shelf Go.MapKept Go.WideElems Go.WideShapes
/-! ### Sorting -/
section sort
variable {α : Type} (le : α → α → Bool)
def insS (x : α) : List α → List α
 | [] => [x]
 | y :: l => cond (le x y) (x :: y :: l) (y :: insS x l)
def isort : List α → List α
 | [] => []
 | x :: l => insS le x (isort l)
theorem insS_perm (x : α) : ∀ l, (insS le x l).Perm (x :: l)
  | [] => .refl _
  | y :: l => by
    unfold insS
    cases le x y with
    | true => exact .refl _
    | false => exact ((insS_perm x l).cons y).trans (.swap x y l)
theorem isort_perm : ∀ l,(isort le l).Perm l
 | [] => .refl _
 | x :: l => (insS_perm le x _).trans ((isort_perm l).cons x)
variable {le} (tot : ∀ a b,le a b = true ∨ le b a = true) (tr : ∀ a b c,le a b = true → le b c = true → le a c = true)
include tot tr
theorem insS_sorted (x : α) : ∀ l, l.Pairwise (fun a b => le a b = true) → (insS le x l).Pairwise (fun a b => le a b = true)
  | [], _ => List.pairwise_singleton _ _
  | y :: l, h => by
    unfold insS
    cases hxy : le x y with
    | true =>
      refine .cons (fun z hz => ?_) h
      rcases List.mem_cons.1 hz with rfl | hz
      · exact hxy
      · cases h with | cons h1 _ => exact tr _ _ _ hxy (h1 z hz)
    | false =>
      cases h with
      | cons h1 h2 =>
        refine .cons (fun z hz => ?_) (insS_sorted x l h2)
        rcases List.mem_cons.1 ((insS_perm le x l).mem_iff.1 hz) with rfl | hz
        · rcases tot y z with h | h
          · exact h
          · rw [hxy] at h; cases h
        · exact h1 z hz
theorem isort_sorted : ∀ l,(isort le l).Pairwise (fun a b => le a b = true)
 | [] => .nil
 | x :: l => insS_sorted tot tr x _ (isort_sorted l)
end sort
theorem sort_unique {α : Type} {le : α → α → Bool} (tot : ∀ a b,le a b = true ∨ le b a = true) (tr : ∀ a b c,le a b = true → le b c = true → le a c = true) (anti : ∀ a b,le a b = true → le b a = true → a = b)
  {l l' : List α} (hp : l.Perm l') : l.mergeSort le = isort le l' := by
 have h1 := List.pairwise_mergeSort (le := le) tr (fun a b => by rcases tot a b with h | h <;> simp [h]) l
 have h2 := isort_sorted tot tr l'
 exact List.Perm.eq_of_pairwise (le := fun a b => le a b = true) (fun a b _ _ h1 h2 => anti a b h1 h2) h1 h2 ((List.mergeSort_perm l le).trans (hp.trans (isort_perm le l').symm))
/-! ### The contract, ints -/
section ints
variable {P : Program} {ρ ρ' : Ren}
end ints
/-! ### The contract, strings -/
section strs
variable {P : Program} {ρ ρ' : Ren}
theorem fit_strs {t : TypeId} (ht : P.underlying t = some .string) {es : Array MapEntry} {clock : Nat} {ks : List (List UInt8)} (hk : es.toList.map (·.key) = ks.map encStr) (hnd : ks.Nodup) (hwf : ∀ k ∈ ks, k.length ≤ maxLen) (hlen : ks.length ≤ maxLen) (hb : BornOk es.toList clock) :
    Fit P t (fun _ => some ((.nil : DataW Unit), [])) es clock := by
  have hl : es.toList.length = ks.length := by have := congrArg List.length hk; simpa using this
  refine ⟨by have : es.size = ks.length := by simpa using hl
             omega, ⟨hb.2, hb.1, ?_⟩, fun x hx => ?_⟩
  · rw [hk]
    exact List.Pairwise.map _ (fun a b hab h => hab (encStr_inj h)) hnd
  · have : x.key ∈ ks.map encStr := by rw [← hk]; exact List.mem_map_of_mem hx
    obtain ⟨k, hk1, hk2⟩ := List.mem_map.1 this
    refine ⟨(.string k, .nil), ?_⟩
    unfold rd
    rw [← hk2]
    have hz : (ByteArray.mk k.toArray).size ≤ maxLen := by show k.toArray.size ≤ maxLen; simpa using hwf k hk1
    simp [keyOf, ht, encStr, mapKey, hz]
theorem sortedKeysS (L10 : SlLaysZ.n10 P ρ') (L6 : SlLaysZ.n6 P ρ) (hsort : ∀ m,AnyZ.SortsIn P ρ Fence.wide m) (e9 : Enters P (ρ.f 9)) (eg : Enters P (ρ'.f 10)) (ht : P.underlying (ρ'.t 26) = some .string)
  {b Bm : Nat} {es : Array MapEntry} {clock : Nat} {ks : List (List UInt8)} {W : World} (hb : W.heap[b]? = some (.map es clock)) (hbox : W.cell? ⟨Bm,0,none⟩ = some (.map (some b))) (hBm : Bm < W.heap.size)
  (hk : es.toList.map (·.key) = ks.map encStr) (hnd : ks.Nodup) (hwf : ∀ k ∈ ks,k.length ≤ maxLen) (hlen : ks.length ≤ 65536) (hbo : BornOk es.toList clock) :
  Calls P (ρ.f 6) #[.func (.func (ρ'.f 10)) #[] #[.pointer (some ⟨Bm,0,none⟩)]] W fun e W' => ∃ (v : Value) (ss : List (List UInt8)),e = .returned v ∧ ss.Perm ks ∧
   W'.ownsRow W.heap.size (ρ.t 26) 1 v ss.length ((ss.mergeSort (fun x y => decide (x ≤ y))).map encStr) ∧ (v = .slice none 0 0 ↔ ss = []) ∧ RowKit.Below W.heap.size W W' := by
 have hml : (65536 : Nat) ≤ maxLen := by decide
 have hF := fit_strs ht hk hnd hwf (by omega) hbo
 have hl : es.toList.length = ks.length := by have := congrArg List.length hk; simpa using this
 let D0 : DataW Unit := .map ((es.toList.map (rg P (ρ'.t 26) (fun _ => some ((.nil : DataW Unit),[])))).foldr DataW.insert [])
 have hown : W.ownsMap P (ρ'.t 26) (fun _ => some ((.nil : DataW Unit),[])) b es.size D0 := ⟨es,clock,hb,hF,Nat.le_refl _,rfl⟩
 have hsz : Maps.size D0 = ks.length := by
  show (List.foldr DataW.insert [] _).length = _
  rw [(sorted_perm _).length_eq,List.length_map,hl]
 have hkeys : (strKeys D0).Perm ks := by
  show (List.map _ (List.foldr DataW.insert [] _)).Perm ks
  refine ((sorted_perm _).map _).trans ?_
  rw [List.map_map]
  have : es.toList.map ((fun p : Lit × DataW Unit => strOf p.1) ∘ rg P (ρ'.t 26) (fun _ => some ((.nil : DataW Unit),[]))) = ks := by
   have h2 : ∀ x ∈ es.toList,((fun p : Lit × DataW Unit => strOf p.1) ∘ rg P (ρ'.t 26) (fun _ => some ((.nil : DataW Unit),[]))) x = (match x.key with | .string n => n.data.toList | _ => []) := fun x hx => by
    have : x.key ∈ ks.map encStr := by rw [← hk]; exact List.mem_map_of_mem hx
    obtain ⟨k,hk1,hk2⟩ := List.mem_map.1 this
    simp only [Function.comp,rg,rd]
    rw [← hk2]
    have hz : (ByteArray.mk k.toArray).size ≤ maxLen := by show k.toArray.size ≤ maxLen; simpa using hwf k hk1
    simp [keyOf,ht,encStr,mapKey,hz,strOf]
   rw [List.map_congr_left h2]
   have : es.toList.map (fun x => (match x.key with | .string n => n.data.toList | _ => [] : List UInt8)) = (es.toList.map (·.key)).map (fun v => (match v with | .string n => n.data.toList | _ => [] : List UInt8)) := by rw [List.map_map]; rfl
   rw [this,hk,List.map_map]
   conv => rhs; rw [← List.map_id ks]
   rfl
  rw [this]
 have hseq := AnyZ.keys_gives L10 Fence.wide (6 - 1 - 1 - 1) trivial rfl (by omega) Bm b es.size D0 W hBm hbox hown
 have cS := AnyZ.sorted_in L6 Fence.wide 6 trivial trivial trivial trivial rfl (by omega) (hsort _) e9 (ρ'.f 10) #[.pointer (some ⟨Bm,0,none⟩)] trivial eg _ (Maps.size D0) (by omega) (by omega) W hseq
 refine (callsIn_wide.1 cS).mono ?_
 rintro e W' ⟨v,ss,h1,h2,h3,h4,h5⟩
 exact ⟨v,ss,h1,h2.trans hkeys,h3,h4,h5⟩
end strs
/-! ### The hook -/
structure KK (α : Type) where
 encA : α → AV
 encV : α → Value
 dec : AV → Option α
 le : α → α → Bool
 ok : α → Bool
structure KK.Good {α : Type} (κ : KK α) : Prop where
 dec : ∀ a x,κ.dec a = some x → a = κ.encA x
 vr : ∀ (m : Emb) (x : α) (v : Value),VR m (κ.encA x) v ↔ v = κ.encV x
 inj : ∀ x y,κ.encV x = κ.encV y → x = y
 cell : ∀ x,okCell (κ.encA x) = true
 beq : ∀ x,(κ.encA x).beq (κ.encA x) = true
 sorts : ∀ {l l' : List α},l.Perm l' → isort κ.le l = isort κ.le l'
variable {α : Type}
def KK.keys (κ : KK α) : List (AV × AV) → Option (List α)
 | [] => some []
 | e :: es => bnd (κ.dec e.1) fun x => bnd (κ.keys es) fun l => cond (κ.ok x) (some (x :: l)) none
def SortC (P : Program) (κ : KK α) (fS fK : FuncId) (tk : TypeId) : Prop :=
  ∀ (b Bm : Nat) (es : Array MapEntry) (clock : Nat) (ks : List α) (W : World), W.heap[b]? = some (.map es clock) → W.cell? ⟨Bm, 0, none⟩ = some (.map (some b)) → Bm < W.heap.size →
    es.toList.map (·.key) = ks.map κ.encV → ks.Nodup → (∀ k ∈ ks, κ.ok k = true) → ks.length ≤ 65536 → BornOk es.toList clock →
    Calls P fS #[.func (.func fK) #[] #[.pointer (some ⟨Bm, 0, none⟩)]] W fun e W' => ∃ (v : Value) (ss : List α), e = .returned v ∧ ss.Perm ks ∧
      W'.ownsRow W.heap.size tk 1 v ss.length ((isort κ.le ks).map κ.encV) ∧ (v = .slice none 0 0 ↔ ss = []) ∧ RowKit.Below W.heap.size W W'
def sortedA (w : AW) (κ : KK α) (ks : List α) : AV × AW :=
 match ks with
 | [] => (.nilslice,w)
 | k :: r => (.slice w.size 0 (r.length + 1) (r.length + 1) (some 1),newCells w ((isort κ.le (k :: r)).map κ.encA))
def boxMap (w : AW) (bx : Nat) : Option Nat :=
  match w.get bx with
  | some (.cells cs f own d) => cond (Nat.beq f bx && !Nat.beq bx 0 && (!d || Nat.beq own bx)) (match cs with
    | .map r :: _ => some r
    | _ => none) none
  | _ => none
def hookS (κ : KK α) (fS fK : FuncId) (w : AW) (args : List AV) : Option (AV × AW) :=
 match args with
 | [.func g [] [.ptr bx 0]] => cond (Nat.beq g fK) (bnd (boxMap w bx) fun r => bnd (mapAt w r) fun m => bnd (κ.keys m.1) fun ks => cond (Nat.ble ks.length 65536) (some (sortedA w κ ks)) none) none
 | _ => none
theorem boxMap_read {w : AW} {bx r : Nat} (h : boxMap w bx = some r) : bx ≠ 0 ∧ (∃ cs own d, w.get bx = some (.cells cs bx own d)) ∧ w.read bx 0 1 = some [.map r] := by
  unfold boxMap at h
  split at h
  · rename_i cs f own d hg
    have h2 := cond_some h
    clear h
    obtain ⟨hc, h⟩ := h2
    simp only [Bool.and_eq_true, beq_iff, Bool.not_eq_true'] at hc
    obtain ⟨⟨hf, h0⟩, hd⟩ := hc
    subst hf
    have h0 : f ≠ 0 := fun e => by rw [e] at h0; cases h0
    cases cs with
    | nil => cases h
    | cons a cs =>
      cases a <;> try (cases h; done)
      cases h
      refine ⟨h0, ⟨_, own, d, hg⟩, ?_⟩
      have hcl : cellsF w f = some (.map r :: cs) := by
        unfold cellsF
        rw [hg]
        simp only [Nat.beq_refl, cond_true]
        rw [hd]; rfl
      rw [cellsF_eq] at hcl
      unfold AW.read
      rw [hcl]
      simp [takeCells]
  · cases h
theorem keys_vals {κ : KK α} (hκ : κ.Good) : ∀ {es : List (AV × AV)} {ks : List α}, κ.keys es = some ks → es.map (·.1) = ks.map κ.encA ∧ ∀ k ∈ ks, κ.ok k = true
  | [], ks, h => by cases h; simp
  | e :: es, ks, h => by
    simp only [KK.keys, bnd_eq, Option.bind_eq_some_iff] at h
    obtain ⟨x, hx, l, hl, h⟩ := h
    obtain ⟨hok, h⟩ := cond_some h
    cases h
    obtain ⟨h1, h2⟩ := keys_vals hκ hl
    refine ⟨by rw [List.map_cons, List.map_cons, h1, hκ.dec _ _ hx], fun k hk => ?_⟩
    rcases List.mem_cons.1 hk with rfl | hk
    · exact hok
    · exact h2 k hk
theorem EsR_keys {κ : KK α} (hκ : κ.Good) {m : Emb} : ∀ {es : List (AV × AV)} {ks : List α} {l : List MapEntry}, es.map (·.1) = ks.map κ.encA → EsR m es l → l.map (·.key) = ks.map κ.encV
  | [], ks, l, h, he => by
    have : ks = [] := by simpa using h.symm
    subst this
    simp only [EsR] at he
    subst he; rfl
  | e :: es, ks, l, h, he => by
    cases ks with
    | nil => cases h
    | cons k ks =>
      obtain ⟨a, b⟩ := e
      simp only [List.map_cons, List.cons.injEq] at h
      obtain ⟨x, l', rfl, hk, _, hs⟩ := he
      rw [List.map_cons, List.map_cons, EsR_keys hκ h.2 hs]
      rw [h.1] at hk
      rw [(hκ.vr m k _).1 hk]
theorem VRs_enc {κ : KK α} (hκ : κ.Good) {m : Emb} : ∀ l : List α,VRs m (l.map κ.encA) (l.map κ.encV)
 | [] => by simp [VRs]
 | x :: l => VRs.cons ((hκ.vr m x _).2 rfl) (VRs_enc hκ l)
section hooked
variable {P : Program} {W0 : World} {N0 : Nat}
theorem hookS_sound {κ : KK α} (hκ : κ.Good) {fS fK : FuncId} {tk : TypeId} (hC : SortC P κ fS fK tk) {args : List AV} {w : AW} {x : AV × AW} (h : hookS κ fS fK w args = some x) (m : Emb) (W : World) (cargs : Array Value)
    (hr : Rel W0 N0 m w W) (ha : VRs m args cargs.toList) : Calls P fS cargs W fun e W' => ∃ cv m', e = .returned cv ∧ VR m' x.1 cv ∧ Rel W0 N0 m' x.2 W' ∧ Ext m m' w x.2 := by
  unfold hookS at h
  split at h
  · rename_i g bx
    have h2 := cond_some h
    clear h
    obtain ⟨hg, h⟩ := h2
    have hg := beq_iff.1 hg
    subst hg
    simp only [bnd_eq, Option.bind_eq_some_iff] at h
    obtain ⟨r, hbox, mp, hmp, ks, hks, h⟩ := h
    have h2 := cond_some h
    clear h
    obtain ⟨hlen, h⟩ := h2
    have hlen := Nat.le_of_ble_eq_true hlen
    cases h
    -- the arguments
    simp only [VRs, VR] at ha
    obtain ⟨v0, vs0, hca, ⟨as', bs', rfl, has, hbs⟩, rfl⟩ := ha
    obtain ⟨vp, vs1, hbs1, ⟨q, hq, rfl⟩, rfl⟩ := hbs
    have e1 : as' = #[] := Array.ext' has
    have e2 : bs' = #[.pointer (some ⟨q.blk, q.off + 0, none⟩)] := Array.ext' hbs1
    obtain ⟨h0, ⟨csx, own, d, hget⟩, hread⟩ := boxMap_read hbox
    have hoff : q.off = 0 := hr.root0 bx q csx own d hq h0 hget
    have e3 : cargs = #[.func (.func g) #[] #[.pointer (some ⟨q.blk, 0, none⟩)]] := by
      apply Array.ext'
      rw [hca, e1, e2, hoff]
    subst e3
    -- the map
    obtain ⟨c, e, fr, v, hW, hc, hv⟩ := read_one hr hread hq
    simp only [VR] at hv
    obtain ⟨pr, hpr, rfl⟩ := hv
    obtain ⟨_, ces, cl, hWm, ⟨⟨l', hp, hE⟩, hdist⟩, hB⟩ := hr.map hpr hmp
    obtain ⟨hk1, hk2⟩ := keys_vals hκ hks
    have hl' := EsR_keys hκ hk1 hE
    -- the model's order
    have hperm : (ces.toList.map (·.key)).Perm (ks.map κ.encV) := by rw [← hl']; exact (hp.map _).symm
    obtain ⟨ks', hks', hpk⟩ : ∃ ks' : List α, ces.toList.map (·.key) = ks'.map κ.encV ∧ ks'.Perm ks := by
      have key : ∀ (l : List Value) (ks : List α), l.Perm (ks.map κ.encV) → ∃ ks' : List α, l = ks'.map κ.encV ∧ ks'.Perm ks := by
        intro l
        induction l with
        | nil => intro ks h; have := h.nil_eq; have : ks = [] := by simpa using this.symm
                 subst this; exact ⟨[], rfl, .refl _⟩
        | cons a l ih =>
          intro ks h
          have ha : a ∈ ks.map κ.encV := h.mem_iff.1 List.mem_cons_self
          obtain ⟨k, hk, rfl⟩ := List.mem_map.1 ha
          obtain ⟨s, t, rfl⟩ := List.append_of_mem hk
          have h2 : (κ.encV k :: l).Perm (κ.encV k :: (s ++ t).map κ.encV) := h.trans (by
            rw [List.map_append, List.map_append, List.map_cons]
            exact List.perm_middle)
          obtain ⟨ks', e1, e2⟩ := ih (s ++ t) h2.cons_inv
          exact ⟨k :: ks', by rw [e1]; rfl, (e2.cons k).trans List.perm_middle.symm⟩
      exact key _ _ hperm
    have hnd : ks.Nodup := by
      rw [hk1, List.pairwise_map] at hdist
      exact hdist.imp fun {a b} hab e => by subst e; rw [hκ.beq] at hab; cases hab
    have hbm : q.blk < W.heap.size := hr.lt hq
    have hcell : W.cell? ⟨q.blk, 0, none⟩ = some (.map (some pr.blk)) := by
      rw [cell?_of hW]
      rw [hoff] at hc
      exact hc
    have hcall := hC pr.blk q.blk ces cl ks' W hWm hcell hbm hks' (hpk.nodup_iff.2 hnd) (fun k hk => hk2 k (hpk.mem_iff.1 hk)) (by rw [hpk.length_eq]; exact hlen) hB
    refine hcall.mono ?_
    rintro e' W' ⟨v, ss, rfl, hss, hrow, hnil, hbel⟩
    have henv : Env W W' := ⟨hbel.os, hbel.output⟩
    cases ks with
    | nil =>
      have : ss = [] := by
        have := (hss.trans hpk).length_eq
        exact List.eq_nil_of_length_eq_zero this
      have hv := hnil.2 this
      subst hv
      exact ⟨_, m, rfl, by simp [sortedA, VR], hr.more hbel.block hbel.size henv, Ext.refl _ _⟩
    | cons k ks =>
      have hl : ss.length = ks.length + 1 := by have := (hss.trans hpk).length_eq; simpa using this
      obtain ⟨hlr, hrow⟩ := hrow
      rcases hrow with ⟨_, hn⟩ | ⟨g', cap, cur, rfl, hbase, hg', hcap, hmax, hcur, htake⟩
      · omega
      · have hlc : (isort κ.le (k :: ks)).length = ks.length + 1 := by rw [(isort_perm κ.le _).length_eq]; rfl
        have hsame : isort κ.le ks' = isort κ.le (k :: ks) := hκ.sorts hpk
        rw [hsame] at htake
        have hcl : ((isort κ.le (k :: ks)).map κ.encA).length ≤ cur.size := by rw [List.length_map, hlc]; omega
        obtain ⟨hle, hrel⟩ := hr.freshRow (g := g') (cs := (isort κ.le (k :: ks)).map κ.encA) (c := cur) hbel.block hbel.size henv hbase hg' hcl (fun a ha => by
          obtain ⟨y, _, rfl⟩ := List.mem_map.1 ha
          exact hκ.cell y) (by
          rw [List.length_map, hlc]
          have : cur.toList.take (ks.length + 1) = (isort κ.le (k :: ks)).map κ.encV := by rw [← htake, hl, Nat.mul_one]
          rw [this]
          exact VRs_enc hκ _)
        refine ⟨_, _, rfl, ?_, hrel, Ext.push hr _ _⟩
        simp only [sortedA, VR]
        refine ⟨⟨g', 0, cur.size⟩, ⟨g', 0, none⟩, cap, by simp [Emb.ext], by rw [hl], Nat.le_refl _, ⟨by omega, by simp; omega⟩, fun _ => rfl⟩
  · cases h
end hooked
def leS : List UInt8 → List UInt8 → Bool
 | [],_ => true
 | _ :: _,[] => false
 | a :: x,b :: y => cond (Nat.blt a.toNat b.toNat) true (cond (Nat.beq a.toNat b.toNat) (leS x y) false)
theorem leS_eq : ∀ x y, leS x y = decide (x ≤ y)
  | [], y => by simp [leS]
  | a :: x, [] => by
    have : ¬ (a :: x ≤ ([] : List UInt8)) := by simp
    simp [leS, this]
  | a :: x, b :: y => by
    unfold leS
    have ih := leS_eq x y
    by_cases h1 : a < b
    · have : Nat.blt a.toNat b.toNat = true := by rw [Nat.blt_eq]; exact h1
      rw [this]
      have h2 : a :: x ≤ b :: y := List.cons_le_cons_iff.2 (.inl h1)
      simp [h2]
    · have : Nat.blt a.toNat b.toNat = false := by
        cases h : Nat.blt a.toNat b.toNat with
        | false => rfl
        | true => rw [Nat.blt_eq] at h; exact absurd h h1
      rw [this]
      simp only [cond_false]
      by_cases h3 : a = b
      · subst h3
        rw [Nat.beq_refl, cond_true, ih]
        have : (a :: x ≤ a :: y) ↔ x ≤ y := by rw [List.cons_le_cons_iff]; simp
        simp [this]
      · have : Nat.beq a.toNat b.toNat = false := beq_ff fun h => h3 (UInt8.toNat_inj.1 h)
        rw [this]
        have : ¬ (a :: x ≤ b :: y) := by rw [List.cons_le_cons_iff]; rintro (h | ⟨h, _⟩); exact h1 h; exact h3 h
        simp [this]
theorem leS_eq' : leS = fun x y => decide (x ≤ y) := by funext x y; exact leS_eq x y
def kindS : KK (List UInt8) := ⟨.str,encStr,fun a => match a with | .str s => some s | _ => none,leS,fun s => Nat.ble s.length 65536⟩
theorem kindS_good : kindS.Good := by
 refine ⟨fun a x h => ?_,fun m x v => ?_,fun x y h => encStr_inj h,fun x => rfl,fun x => ?_,fun {l l'} h => ?_⟩
 ·simp only [kindS] at h
  split at h
  ·cases h; rfl
  ·cases h
 ·simp only [kindS,VR]
  constructor
  ·rintro ⟨s,rfl,rfl⟩; simp [encStr]
  ·rintro rfl; exact ⟨_,rfl,by simp⟩
 ·simp [kindS,AV.beq]
 ·have t1 : ∀ a b : List UInt8,leS a b = true ∨ leS b a = true := fun a b => by rw [leS_eq,leS_eq]; simp; exact List.le_total a b
  have t2 : ∀ a b c : List UInt8,leS a b = true → leS b c = true → leS a c = true := fun a b c h1 h2 => by rw [leS_eq] at *; simp at *; exact List.le_trans h1 h2
  have t3 : ∀ a b : List UInt8,leS a b = true → leS b a = true → a = b := fun a b h1 h2 => by rw [leS_eq] at *; simp at *; exact List.le_antisymm h1 h2
  exact (sort_unique t1 t2 t3 (.refl l)).symm.trans (sort_unique t1 t2 t3 h)
section kinds
variable {P : Program} {ρ ρ' : Ren}
theorem sortC_str (L10 : SlLaysZ.n10 P ρ') (L6 : SlLaysZ.n6 P ρ) (hsort : ∀ m,AnyZ.SortsIn P ρ Fence.wide m) (e9 : Enters P (ρ.f 9)) (eg : Enters P (ρ'.f 10)) (ht : P.underlying (ρ'.t 26) = some .string) : SortC P kindS (ρ.f 6) (ρ'.f 10) (ρ.t 26) := by
 intro b Bm es clock ks W h1 h2 h3 h4 h5 h6 h7 h8
 refine (sortedKeysS L10 L6 hsort e9 eg ht h1 h2 h3 h4 h5 (fun k hk => Nat.le_trans (Nat.le_of_ble_eq_true (h6 k hk)) (by decide)) h7 h8).mono ?_
 rintro e W' ⟨v,ss,g1,g2,g3,g4,g5⟩
 refine ⟨v,ss,g1,g2,?_,g4,g5⟩
 have : ss.mergeSort (fun x y => decide (x ≤ y)) = isort kindS.le ks := by
  show _ = isort leS ks
  rw [leS_eq']
  exact sort_unique (fun a b => by simp; exact List.le_total a b) (fun a b c h1 h2 => by simp at *; exact List.le_trans h1 h2) (fun a b h1 h2 => by simp at *; exact List.le_antisymm h1 h2) g2
 rw [← this]
 exact g3
end kinds
/-! ### The whole program, with hooks -/
structure HR where
 f : FuncId
 run : AW → List AV → Option (AV × AW)
noncomputable def hookOf : List HR → Hook
 | [] => fun _ _ _ => none
 | h :: l => fun f args w => Bool.rec (motive := fun _ => Option (Option (AV × AW))) (hookOf l f args w) (match h.run w args with | some x => some (some x) | none => hookOf l f args w) (Nat.beq f h.f)
def HRok (P : Program) (h : HR) : Prop := (∃ (fn : Func) (c : Code), P.funcs[h.f]? = some fn ∧ fn.body = some c) ∧
  ∀ (W0 : World) (N0 : Nat) (args : List AV) (w : AW) (x : AV × AW), h.run w args = some x → ∀ (m : Emb) (W : World) (cargs : Array Value), Rel W0 N0 m w W → VRs m args cargs.toList →
    Calls P h.f cargs W fun e W' => ∃ cv m', e = .returned cv ∧ VR m' x.1 cv ∧ Rel W0 N0 m' x.2 W' ∧ Ext m m' w x.2
theorem hookOf_some {P : Program} : ∀ {l : List HR} {f : FuncId} {args : List AV} {w : AW} {x : AV × AW}, (∀ h ∈ l, HRok P h) → hookOf l f args w = some (some x) → ∃ h, HRok P h ∧ h.f = f ∧ h.run w args = some x
  | [], f, args, w, x, _, h => by cases h
  | r :: l, f, args, w, x, hl, h => by
    have h : Bool.rec (motive := fun _ => Option (Option (AV × AW))) (hookOf l f args w) (match r.run w args with | some x => some (some x) | none => hookOf l f args w) (Nat.beq f r.f) = some (some x) := h
    rw [brec_eq] at h
    cases hb : Nat.beq f r.f with
    | false => rw [hb] at h; exact hookOf_some (fun h hh => hl h (List.mem_cons_of_mem _ hh)) h
    | true =>
      rw [hb] at h
      simp only [cond_true] at h
      split at h
      · rename_i y hy
        cases h
        exact ⟨r, hl r List.mem_cons_self, (beq_iff.1 hb).symm, hy⟩
      · exact hookOf_some (fun h hh => hl h (List.mem_cons_of_mem _ hh)) h
theorem host_hooks {P : Program} {W0 : World} {N0 : Nat} {l : List HR} (hl : ∀ h ∈ l,HRok P h) (hm : P.follows .mixedOrders = true) (hn : noNumGo P = true) (hx : plainExterns P = true) : Host P (hookOf l) W0 N0 := by
 have hp := host_plain (W0 := W0) (N0 := N0) hm hn hx
 refine ⟨hp.mixed,hp.num,hp.ext,fun f args w v w' h => ?_⟩
 obtain ⟨r,⟨h1,h2⟩,rfl,h3⟩ := hookOf_some hl h
 exact ⟨h1,h2 W0 N0 args w (v,w') h3⟩
theorem hookS_ok {P : Program} {κ : KK α} (hκ : κ.Good) {fS fK : FuncId} {tk : TypeId} (hC : SortC P κ fS fK tk) {fn : Func} {c : Code} (hf : P.funcs[fS]? = some fn) (hb : fn.body = some c) : HRok P ⟨fS,hookS κ fS fK⟩ :=
 ⟨⟨fn,c,hf,hb⟩,fun _ _ _ _ _ h m W cargs hr ha => hookS_sound hκ hC h m W cargs hr ha⟩
end Go.Sx
