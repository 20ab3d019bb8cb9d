/-
  What each function of the net does, over memory, with its own blocks.
  No condition beyond those that each theorem names.
-/
import Derived.Test.YtingojpcdpelaaaF12
import Derived.Test.YtingojpcdpelaaaSxt
import Derived.Test.YtingojpcdpelaaaSxo
set_option linter.unusedSimpArgs false
open Go.Sx
set_option linter.unusedVariables false
namespace Go.Proofs.Ytingojpcdpelaaa

/-- What is hooked, and what not. -/
structure HK (hk : Hook) : Prop where
  no : ∀ f a w, f ≠ 15 → f ≠ 35 → hk f a w = none
  sorted : ∀ a w x, hookS kindI 35 44 w a = some x → hk 35 a w = some (some x)
  awake : ∀ w, hk 15 [] w = some (some (.bool true, w))

structure Pk where
  num : Int
  src : Int
  dst : Int
  body : List UInt8
def rPk : Rp Pk := ⟨4, fun A w cs x => ∃ v, cs = [.int .i64 x.num, .int .i64 x.src, .int .i64 x.dst, v] ∧ (rL rU).rd A w [v] x.body,
  fun ⟨v, h, _⟩ => by rw [h]; rfl, fun ⟨v, h, h2⟩ => by rw [h]; simp only [List.all_cons, List.all_nil, h2.ok1]; rfl, fun e ⟨v, h, h2⟩ => ⟨v, h, h2.xa e⟩⟩

/-- A net, purely: packets by rising numbers. -/
structure NI (N : List Pk) (last : Int) : Prop where
  rise : (N.map Pk.num).Pairwise (· < ·)
  low : ∀ x ∈ N, 1 ≤ x.num ∧ x.num ≤ last
  last0 : 0 ≤ last
  cap : N.length ≤ 256
  body : ∀ x ∈ N, x.body.length < 2 ^ 40
theorem NI.none : NI [] 0 := ⟨by simp, by simp, by omega, by simp, by simp⟩
def look (N : List Pk) (n : Int) : Option Pk := N.find? fun x => decide (x.num = n)
def del (N : List Pk) (n : Int) : List Pk := N.filter fun x => !decide (x.num = n)
theorem nodup_of {N : List Pk} (h : (N.map Pk.num).Pairwise (· < ·)) : (N.map Pk.num).Nodup := h.imp fun h e => by omega
theorem NI.del {N : List Pk} {last : Int} (h : NI N last) (n : Int) : NI (del N n) last :=
  ⟨h.rise.sublist (List.filter_sublist.map _), fun y hy => h.low y (List.mem_filter.1 hy).1, h.last0, Nat.le_trans (List.length_filter_le _ _) h.cap, fun y hy => h.body y (List.mem_filter.1 hy).1⟩
theorem NI.put {N : List Pk} {last p q : Int} {s : List UInt8} (h : NI N last) (hl : N.length < 256) (hs : s.length < 2 ^ 40) : NI (N ++ [⟨last + 1, p, q, s⟩]) (last + 1) := by
  have h0 := h.last0
  refine ⟨?_, ?_, by omega, by simp; omega, ?_⟩
  · rw [List.map_append, List.pairwise_append]
    refine ⟨h.rise, by simp, fun a ha c hc => ?_⟩
    obtain ⟨x, hx, rfl⟩ := List.mem_map.1 ha
    simp at hc; subst hc
    have := (h.low x hx).2; omega
  · intro x hx
    rcases List.mem_append.1 hx with hx | hx
    · have := h.low x hx; omega
    · simp at hx; subst hx; simp only []; omega
  · intro x hx
    rcases List.mem_append.1 hx with hx | hx
    · exact h.body x hx
    · simp at hx; subst hx; exact hs

abbrev nb (A : Nat → Prop) (b r : Nat) (L : Obs) : Nat → Prop := fz A (b :: r :: ids L)
/-- A net in memory, at the front of one's own blocks. -/
structure Nt (A : Nat → Prop) (I : List Nat) (w0 w : AW) (b r : Nat) (N : List Pk) (last : Int) (es : List (AV × AV)) (L : Obs) : Prop where
  ow : Ow A I w0 w ((b, .row [.map r, .int .i64 last]) :: (r, .map es) :: L)
  en : EnR Pk.num rPk (nb A b r L) w es N
  ni : NI N last

section
variable {hk : Hook} {A : Nat → Prop} {I : List Nat} {w0 w : AW} {b r : Nat} {L : Obs} {N : List Pk} {last n p1 p2 p3 : Int} {es : List (AV × AV)} {v : AV} {s : List UInt8} {K : AV → AW → Prop}

/-- New. -/
theorem s9 (hh : HK hk) (st : Ow A I w0 w L) (hK : ∀ b r w', Nt A I w0 w' b r [] 0 [] L → Xt (ids L) w (b :: r :: ids L) w' → K (.ptr b 0) w') : Cl Try.prog hk 9 [] w K := by
  apply in9 (hh.no _ _ _ (by decide) (by decide))
  exact st.newMap' fun m w1 st1 e1 => st1.new' fun b w3 st3 e3 => hK b m w3 ⟨st3, trivial, NI.none⟩ (e1.trans e3)

/-- none. -/
theorem s31 (hh : HK hk) (h : ld w b 0 = some (.map r)) (hK : K (.bool false) w) : Cl Try.prog hk 31 [.ptr b 0] w K := by
  apply in31 (hh.no _ _ _ (by decide) (by decide))
  exact ⟨false, by kernel_rfl, ifT_f (onM_s h ⟨false, by kernel_rfl, hK⟩)⟩

/-- slices.Clone of bytes. -/
theorem s34 {B : Nat → Prop} (hh : HK hk) (pv : Pv A w) (h : (rL rU).rd B w [v] s) (hs : s.length < 2 ^ 40)
    (hK : ∀ v' w', Fr w.size w w' → (rL rU).rd A w' [v'] s → K v' w') : Cl Try.prog hk 34 [v] w K := by
  apply in34 (hh.no _ _ _ (by decide) (by decide))
  unfold F34
  have h0 := h.rsB
  have hm := pv.mem
  by_cases hv : v = .nilslice
  · subst hv
    have : s = [] := by
      rcases h0 with ⟨_, h2, _⟩ | ⟨b, o, cap, ex, all, h1, _⟩
      · exact List.eq_nil_of_length_eq_zero h2
      · cases h1
    subst this
    exact ⟨true, by kernel_rfl, ifT_t (hK _ _ (Fr.refl hm) Rp.rd.nil)⟩
  · have hsl : ∃ b o n cap ex, v = .slice b o n cap ex := by
      rcases h0 with ⟨h1, _⟩ | ⟨b, o, cap, ex, all, h1, _⟩
      · exact absurd h1 hv
      · exact ⟨b, o, _, cap, ex, h1⟩
    obtain ⟨b, o, n, cap, ex, rfl⟩ := hsl
    refine ⟨false, by kernel_rfl, ifT_f (new_of hm fun w1 f1 b1 z1 => ?_)⟩
    have hr1 := Rs.read (RsB.fr h0 hm f1 (Nat.le_refl _))
    by_cases hn : s.length = 0
    · have : s = [] := List.eq_nil_of_length_eq_zero hn
      subst this
      refine onE_s (v := .slice w.size 0 0 0 none) (w := w1) ?_ (hK _ _ f1 (Box.sl b1 (pv.new _ (Nat.le_refl _)) rfl (Chk.bytes.2 rfl)))
      simp only [appS]
      rw [hr1]
      rfl
    · have e0 : Nat.beq s.length 0 = false := beq_ff hn
      have e1 : Nat.ble (0 + s.length) 0 = false := by
        cases he : Nat.ble (0 + s.length) 0 with
        | false => rfl
        | true => rw [Nat.ble_eq] at he; omega
      have e2 : Nat.blt ((2 * (0 + s.length) + 1000) * 1) room = true := by rw [Nat.blt_eq]; unfold room; omega
      have e3 : Nat.blt (0 + s.length) (2 ^ 62) = true := by rw [Nat.blt_eq]; omega
      have f2 : Fr w1.size w1 (newCells w1 (cellsOfBytes s)) := Fr.push f1.mem fun cs' f own d e => by cases e; exact Nat.le_refl _
      have b2 : Box (newCells w1 (cellsOfBytes s)) w1.size (cellsOfBytes s) := by simp [Box, newCells, cellsAO]
      refine onE_s (v := .slice w1.size 0 (0 + s.length) (0 + s.length) (some 1)) (w := newCells w1 (cellsOfBytes s)) ?_ (hK _ _ (f1.trans f2 (by omega)) (Box.sl b2 (pv.new _ (by omega)) (Nat.zero_add _) (Chk.bytes.2 rfl)))
      simp only [appS]
      rw [hr1]
      simp only [Option.bind_some, e0, cond_false, e1, e2, e3, okSrc, growA, b1.cells, guardO]
      rfl

/-- put. -/
theorem s32 {B : Nat → Prop} (hh : HK hk) (h : Nt A I w0 w b r N last es L) (hl : last < 2 ^ 60) (hx : (rL rU).rd (nb B b r L) w [v] s) (hs : s.length < 2 ^ 40)
    (hfull : 256 ≤ N.length → ∀ w', Nt A I w0 w' b r N last es L → Xt (b :: r :: ids L) w (b :: r :: ids L) w' → K (.tup [.int .i64 0, .int .i64 5]) w')
    (hK : N.length < 256 → ∀ w' es', Nt A I w0 w' b r (N ++ [⟨last + 1, p2, p3, s⟩]) (last + 1) es' L → Xt (b :: r :: ids L) w (b :: r :: ids L) w' → K (.tup [.int .i64 (last + 1), .int .i64 0]) w') : Cl Try.prog hk 32 [.ptr b 0, .agg [.int .i64 p1, .int .i64 p2, .int .i64 p3, v]] w K := by
  apply in32 (hh.no _ _ _ (by decide) (by decide))
  unfold F32
  obtain ⟨st, hE, hI⟩ := h
  have hel := Ents.length hE
  have h0 := hI.last0
  refine gd_t (by simp only [List.all_cons, List.all_nil, hx.ok1]; rfl) (st.new' fun b5 w6 st6 e6 => ?_)
  refine onM_s (st6.ld 1 rfl rfl) ⟨_, st6.len 2 rfl, ifT_d (fun hc => ?_) fun hc => ?_⟩
  · obtain ⟨st7, e7, _⟩ := st6.drop
    have hA := hE.x e6
    have hB := hA.x e7
    exact hfull (by omega) _ ⟨st7, hB, hI⟩ (e6.trans e7)
  refine ⟨_, st6.ld 1 rfl rfl, ?_⟩
  rw [wi_eq (by omega) (by omega)]
  refine st6.put 1 rfl (by simp) fun w16 st16 e16 => ⟨_, st16.ld 1 rfl rfl, onM_s (st16.ld 0 rfl rfl) ?_⟩
  have hx16 : (rL rU).rd (fz B (b5 :: b :: r :: ids L)) w16 [v] s := (by repeat (first | assumption | refine Rp.rd.x ?_ ‹Xt _ _ _ _› | refine Rp.rd.y ?_ ‹Xw _ _ _ _›))
  refine s34 hh st16.P hx16 hs fun v' w22 f22 hv' => ?_
  obtain ⟨st22, e22⟩ := st16.call f22
  refine ⟨st22.ld 1 rfl rfl, st22.put 0 rfl (by simp) fun w23 st23 e23 => gd_t hv'.ok1 (st23.put 0 rfl (by simp [listPut]) fun w24 st24 e24 => ?_)⟩
  refine onM_s (st24.ld 1 rfl rfl) ⟨_, st24.ld 1 rfl rfl, _, _, _, _, st24.ldN 0 rfl rfl rfl, ?_⟩
  have hE24 : EnR Pk.num rPk (fz A (b5 :: b :: r :: ids L)) w24 es N := (by repeat (first | assumption | refine EnR.x ?_ ‹Xt _ _ _ _› | refine EnR.y ?_ ‹Xw _ _ _ _›))
  have hv24 : (rL rU).rd (fz A (b5 :: b :: r :: ids L)) w24 [v'] s := (by repeat (first | assumption | refine Rp.rd.x ?_ ‹Xt _ _ _ _› | refine Rp.rd.y ?_ ‹Xw _ _ _ _›))
  refine st24.kvSet 2 rfl (Ents.like _ hE24) fun w36 st36 e36 => ⟨_, st36.ld 1 rfl rfl, ?_⟩
  obtain ⟨st37, e37, _⟩ := st36.drop
  refine hK (by omega) _ _ ⟨st37, ?_, hI.put (by omega) hs⟩ (by repeat (first | assumption | exact Xt.refl | refine Xt.trans ?_ ‹Xt _ _ _ _›))
  have hE' : EnR Pk.num rPk (fz A (b5 :: b :: r :: ids L)) w24 (insM (.int .i64 (last + 1)) (.agg [.int .i64 (last + 1), .int .i64 p2, .int .i64 p3, v']) es) (N ++ [⟨last + 1, p2, p3, s⟩]) :=
    Ents.ins (key := Pk.num) (y := ⟨last + 1, p2, p3, s⟩) ⟨_, rfl, v', rfl, hv24⟩ hE24 fun x hx => by have := (hI.low x hx).2; simp only []; omega
  exact (by repeat (first | assumption | refine EnR.x ?_ ‹Xt _ _ _ _› | refine EnR.y ?_ ‹Xw _ _ _ _›))

/-- Send. -/
theorem s10 {B : Nat → Prop} (hh : HK hk) (h : Nt A I w0 w b r N last es L) (hl : last < 2 ^ 60) (hx : (rL rU).rd (nb B b r L) w [v] s)
    (hlong : 65545 < s.length → K (.tup [.int .i64 0, .int .i64 3]) w)
    (hfull : s.length ≤ 65545 → 256 ≤ N.length → ∀ w', Nt A I w0 w' b r N last es L → Xt (b :: r :: ids L) w (b :: r :: ids L) w' → K (.tup [.int .i64 0, .int .i64 5]) w')
    (hK : s.length ≤ 65545 → N.length < 256 → ∀ w' es', Nt A I w0 w' b r (N ++ [⟨last + 1, p2, p3, s⟩]) (last + 1) es' L → Xt (b :: r :: ids L) w (b :: r :: ids L) w' → K (.tup [.int .i64 (last + 1), .int .i64 0]) w') : Cl Try.prog hk 10 [.ptr b 0, .int .i64 p2, .int .i64 p3, v] w K := by
  apply in10 (hh.no _ _ _ (by decide) (by decide))
  unfold F10
  refine s31 hh (h.ow.ld 0 rfl rfl) ⟨_, rfl, ifT_f ⟨_, hx.len', ifT_d (fun hc => hlong (by omega)) fun hc => gd_t hx.ok1 ?_⟩⟩
  exact s32 hh h hl hx (by omega) (fun hf w' h' e' => ⟨_, _, rfl, hfull (by omega) hf w' h' e'⟩) fun hf w' es' h' e' => ⟨_, _, rfl, hK (by omega) hf w' es' h' e'⟩

def zeroC : List AV := [.int .i64 0, .int .i64 0, .int .i64 0, .nilslice]
/-- find. -/
theorem s33 (hh : HK hk) (h : Nt A I w0 w b r N last es L)
    (hno : look N n = none → ∀ w', Nt A I w0 w' b r N last es L → Xt (b :: r :: ids L) w (b :: r :: ids L) w' → K (.tup [.agg zeroC, .int .i64 100]) w')
    (hK : ∀ x, look N n = some x → ∀ v w', Nt A I w0 w' b r N last es L → Xt (b :: r :: ids L) w (b :: r :: ids L) w' → (rL rU).rd (nb A b r L) w' [v] x.body → K (.tup [.agg [.int .i64 x.num, .int .i64 x.src, .int .i64 x.dst, v], .int .i64 0]) w') : Cl Try.prog hk 33 [.ptr b 0, .int .i64 n] w K := by
  apply in33 (hh.no _ _ _ (by decide) (by decide))
  unfold F33
  obtain ⟨st, hE, hI⟩ := h
  refine st.new' fun b2 w3 st3 e3 => ?_
  refine s31 hh (st3.ld 1 rfl rfl) ⟨_, rfl, ifT_f (onM_s (st3.ld 1 rfl rfl) ?_)⟩
  have hE3 : EnR Pk.num rPk (fz A (b2 :: b :: r :: ids L)) w3 es N := (by repeat (first | assumption | refine EnR.x ?_ ‹Xt _ _ _ _› | refine EnR.y ?_ ‹Xw _ _ _ _›))
  have hlk := Ents.look n hE3
  have hls := st3.look (z := .agg zeroC) (ok := true) 2 rfl (Ents.like n hE3)
  unfold look at hno hK
  cases hf : N.find? (fun x => decide (x.num = n)) with
  | none =>
    rw [hf] at hlk
    simp only [] at hlk
    rw [hlk] at hls
    refine ⟨_, _, _, _, _, hls, st3.new' fun b20 w21 st21 e21 => gd_t rfl (st21.put 0 rfl (by simp) fun w22 st22 e22 => ifT_t (st22.put 1 rfl (by simp) fun w23 st23 e23 => ⟨_, _, _, _, st23.ldN 1 rfl rfl rfl, ?_⟩))⟩
    obtain ⟨st24, e24, _⟩ := st23.drop
    obtain ⟨st25, e25, _⟩ := st24.drop
    exact hno hf _ ⟨st25, (by repeat (first | assumption | refine EnR.x ?_ ‹Xt _ _ _ _› | refine EnR.y ?_ ‹Xw _ _ _ _›)), hI⟩ (by repeat (first | assumption | exact Xt.refl | refine Xt.trans ?_ ‹Xt _ _ _ _›))
  | some x =>
    rw [hf] at hlk
    obtain ⟨v0, hv0, cs, rfl, v, rfl, hv⟩ := hlk
    rw [hv0] at hls
    refine ⟨_, _, _, _, _, hls, st3.new' fun b20 w21 st21 e21 => gd_t (by simp only [List.all_cons, List.all_nil, hv.ok1]; rfl) (st21.put 0 rfl (by simp) fun w22 st22 e22 => ifT_f ⟨_, _, _, _, st22.ldN 0 rfl rfl rfl, gd_t (by simp only [List.all_cons, List.all_nil, hv.ok1]; rfl) (st22.put 1 rfl (by simp) fun w23 st23 e23 => ⟨_, _, _, _, st23.ldN 1 rfl rfl rfl, ?_⟩)⟩)⟩
    obtain ⟨st24, e24, _⟩ := st23.drop
    obtain ⟨st25, e25, _⟩ := st24.drop
    exact hK x hf v _ ⟨st25, (by repeat (first | assumption | refine EnR.x ?_ ‹Xt _ _ _ _› | refine EnR.y ?_ ‹Xw _ _ _ _›)), hI⟩ (by repeat (first | assumption | exact Xt.refl | refine Xt.trans ?_ ‹Xt _ _ _ _›)) (by repeat (first | assumption | refine Rp.rd.x ?_ ‹Xt _ _ _ _› | refine Rp.rd.y ?_ ‹Xw _ _ _ _›))

/-- Deliver. -/
theorem s13 (hh : HK hk) (h : Nt A I w0 w b r N last es L)
    (hno : look N n = none → ∀ w', Nt A I w0 w' b r N last es L → Xt (b :: r :: ids L) w (b :: r :: ids L) w' → K (.tup [.agg zeroC, .int .i64 100]) w')
    (hK : ∀ x, look N n = some x → ∀ v w' es', Nt A I w0 w' b r (del N n) last es' L → Xt (b :: r :: ids L) w (b :: r :: ids L) w' → (rL rU).rd (nb A b r L) w' [v] x.body → K (.tup [.agg [.int .i64 x.num, .int .i64 x.src, .int .i64 x.dst, v], .int .i64 0]) w') : Cl Try.prog hk 13 [.ptr b 0, .int .i64 n] w K := by
  apply in13 (hh.no _ _ _ (by decide) (by decide))
  unfold F13
  obtain ⟨st, hE, hI⟩ := h
  refine st.new' fun b2 w3 st3 e3 => ?_
  obtain ⟨st3', e3'⟩ := st3.perm (L' := (b, .row [.map r, .int .i64 last]) :: (r, .map es) :: (b2, .row [.int .i64 0, .int .i64 0, .int .i64 0, .nilslice]) :: L) ((List.Perm.swap _ _ _).trans ((List.Perm.swap _ _ _).cons _))
  refine s33 hh (L := (b2, _) :: L) ⟨st3', (by repeat (first | assumption | refine EnR.x ?_ ‹Xt _ _ _ _› | refine EnR.y ?_ ‹Xw _ _ _ _›)), hI⟩ (fun hf w5 h5 e5 => ?_) fun x hf v w5 h5 e5 hv => ?_
  · obtain ⟨st5, hE5, _⟩ := h5
    refine ⟨_, _, _, _, _, rfl, st5.new' fun b11 w12 st12 e12 => gd_t rfl (st12.put 0 rfl (by simp) fun w13 st13 e13 => ifT_t (st13.put 3 rfl (by simp) fun w14 st14 e14 => ⟨_, _, _, _, st14.ldN 3 rfl rfl rfl, ?_⟩))⟩
    obtain ⟨st15, e15, _⟩ := st14.drop
    obtain ⟨st16, e16⟩ := st15.front 2 rfl
    obtain ⟨st17, e17, _⟩ := st16.drop
    exact hno hf _ ⟨st17, (by repeat (first | assumption | refine EnR.x ?_ ‹Xt _ _ _ _› | refine EnR.y ?_ ‹Xw _ _ _ _›)), hI⟩ (by repeat (first | assumption | exact Xt.refl | refine Xt.trans ?_ ‹Xt _ _ _ _›))
  · obtain ⟨st5, hE5, _⟩ := h5
    refine ⟨_, _, _, _, _, rfl, st5.new' fun b11 w12 st12 e12 => gd_t (by simp only [List.all_cons, List.all_nil, hv.ok1]; rfl) (st12.put 0 rfl (by simp) fun w13 st13 e13 => ifT_f (onM_s (st13.ld 1 rfl rfl) ?_))⟩
    have hE13 : EnR Pk.num rPk (fz A (b11 :: b :: r :: b2 :: ids L)) w13 es N := (by repeat (first | assumption | refine EnR.x ?_ ‹Xt _ _ _ _› | refine EnR.y ?_ ‹Xw _ _ _ _›))
    refine st13.kvDel 2 rfl (Ents.like _ hE13) fun w23 st23 e23 => onM_s (st23.ld 0 rfl rfl) ?_
    have hEd : EnR Pk.num rPk (fz A (b11 :: b :: r :: b2 :: ids L)) w13 (delM (.int .i64 n) es) (del N n) := Ents.del n hE13 (nodup_of hI.rise)
    have hxN : x ∈ N := List.mem_of_find?_eq_some hf
    have hx23 : (rL rU).rd (fz A (b11 :: b :: r :: b2 :: ids L)) w23 [v] x.body := (by repeat (first | assumption | refine Rp.rd.x ?_ ‹Xt _ _ _ _› | refine Rp.rd.y ?_ ‹Xw _ _ _ _›))
    refine s34 hh st23.P hx23 (hI.body x hxN) fun v' w26 f26 hv' => gd_t hv'.ok1 ?_
    obtain ⟨st26, e26⟩ := st23.call f26
    refine st26.put 0 rfl (by simp [listPut]) fun w27 st27 e27 => ⟨_, _, _, _, st27.ldN 0 rfl rfl rfl, gd_t (by simp only [List.all_cons, List.all_nil, hv'.ok1]; rfl) (st27.put 3 rfl (by simp) fun w32 st32 e32 => ⟨_, _, _, _, st32.ldN 3 rfl rfl rfl, ?_⟩)⟩
    obtain ⟨st33, e33, _⟩ := st32.drop
    obtain ⟨st34, e34⟩ := st33.front 2 rfl
    obtain ⟨st35, e35, _⟩ := st34.drop
    exact hK x hf v' _ _ ⟨st35, (by repeat (first | assumption | refine EnR.x ?_ ‹Xt _ _ _ _› | refine EnR.y ?_ ‹Xw _ _ _ _›)), hI.del n⟩ (by repeat (first | assumption | exact Xt.refl | refine Xt.trans ?_ ‹Xt _ _ _ _›)) (by repeat (first | assumption | refine Rp.rd.x ?_ ‹Xt _ _ _ _› | refine Rp.rd.y ?_ ‹Xw _ _ _ _›))

/-- Drop. -/
theorem s12 (hh : HK hk) (h : Nt A I w0 w b r N last es L)
    (hno : look N n = none → ∀ w', Nt A I w0 w' b r N last es L → Xt (b :: r :: ids L) w (b :: r :: ids L) w' → K (.int .i64 100) w')
    (hK : ∀ x, look N n = some x → ∀ w' es', Nt A I w0 w' b r (del N n) last es' L → Xt (b :: r :: ids L) w (b :: r :: ids L) w' → K (.int .i64 0) w') : Cl Try.prog hk 12 [.ptr b 0, .int .i64 n] w K := by
  apply in12 (hh.no _ _ _ (by decide) (by decide))
  unfold F12
  refine s13 hh h (fun hf w3 h3 e3 => ?_) fun x hf v w3 es' h3 e3 hv => ?_
  · obtain ⟨st3, hE3, hI⟩ := h3
    refine ⟨_, _, _, _, _, rfl, st3.new' fun b9 w10 st10 e10 => gd_t rfl (st10.put 0 rfl (by simp) fun w11 st11 e11 => ?_)⟩
    obtain ⟨st12, e12, _⟩ := st11.drop
    exact hno hf _ ⟨st12, (by repeat (first | assumption | refine EnR.x ?_ ‹Xt _ _ _ _› | refine EnR.y ?_ ‹Xw _ _ _ _›)), hI⟩ (by repeat (first | assumption | exact Xt.refl | refine Xt.trans ?_ ‹Xt _ _ _ _›))
  · obtain ⟨st3, hE3, hI⟩ := h3
    refine ⟨_, _, _, _, _, rfl, st3.new' fun b9 w10 st10 e10 => gd_t (by simp only [List.all_cons, List.all_nil, hv.ok1]; rfl) (st10.put 0 rfl (by simp) fun w11 st11 e11 => ?_)⟩
    obtain ⟨st12, e12, _⟩ := st11.drop
    exact hK x hf _ _ ⟨st12, (by repeat (first | assumption | refine EnR.x ?_ ‹Xt _ _ _ _› | refine EnR.y ?_ ‹Xw _ _ _ _›)), hI⟩ (by repeat (first | assumption | exact Xt.refl | refine Xt.trans ?_ ‹Xt _ _ _ _›))

/-- Double. -/
theorem s11 (hh : HK hk) (h : Nt A I w0 w b r N last es L) (hl : last < 2 ^ 60)
    (hno : look N n = none → ∀ w', Nt A I w0 w' b r N last es L → Xt (b :: r :: ids L) w (b :: r :: ids L) w' → K (.tup [.int .i64 0, .int .i64 100]) w')
    (hfull : ∀ x, look N n = some x → 256 ≤ N.length → ∀ w', Nt A I w0 w' b r N last es L → Xt (b :: r :: ids L) w (b :: r :: ids L) w' → K (.tup [.int .i64 0, .int .i64 5]) w')
    (hK : ∀ x, look N n = some x → N.length < 256 → ∀ w' es', Nt A I w0 w' b r (N ++ [⟨last + 1, x.src, x.dst, x.body⟩]) (last + 1) es' L → Xt (b :: r :: ids L) w (b :: r :: ids L) w' → K (.tup [.int .i64 (last + 1), .int .i64 0]) w') : Cl Try.prog hk 11 [.ptr b 0, .int .i64 n] w K := by
  apply in11 (hh.no _ _ _ (by decide) (by decide))
  unfold F11
  refine s33 hh h (fun hf w3 h3 e3 => ?_) fun x hf v w3 h3 e3 hv => ?_
  · obtain ⟨st3, hE3, hI⟩ := h3
    refine ⟨_, _, _, _, _, rfl, st3.new' fun b9 w10 st10 e10 => gd_t rfl (st10.put 0 rfl (by simp) fun w11 st11 e11 => ifT_t ?_)⟩
    obtain ⟨st12, e12, _⟩ := st11.drop
    exact hno hf _ ⟨st12, (by repeat (first | assumption | refine EnR.x ?_ ‹Xt _ _ _ _› | refine EnR.y ?_ ‹Xw _ _ _ _›)), hI⟩ (by repeat (first | assumption | exact Xt.refl | refine Xt.trans ?_ ‹Xt _ _ _ _›))
  · obtain ⟨st3, hE3, hI⟩ := h3
    refine ⟨_, _, _, _, _, rfl, st3.new' fun b9 w10 st10 e10 => gd_t (by simp only [List.all_cons, List.all_nil, hv.ok1]; rfl) (st10.put 0 rfl (by simp) fun w11 st11 e11 => ifT_f ⟨_, _, _, _, st11.ldN 0 rfl rfl rfl, ?_⟩)⟩
    obtain ⟨st12, e12, _⟩ := st11.drop
    have hxN : x ∈ N := List.mem_of_find?_eq_some hf
    have hx11 : (rL rU).rd (nb A b r L) w11 [v] x.body := (by repeat (first | assumption | refine Rp.rd.x ?_ ‹Xt _ _ _ _› | refine Rp.rd.y ?_ ‹Xw _ _ _ _›))
    exact s32 hh ⟨st12, (by repeat (first | assumption | refine EnR.x ?_ ‹Xt _ _ _ _› | refine EnR.y ?_ ‹Xw _ _ _ _›)), hI⟩ hl hx11 (hI.body x hxN) (fun hc w17 h17 e17 => ⟨_, _, rfl, hfull x hf hc _ h17 (by repeat (first | assumption | exact Xt.refl | refine Xt.trans ?_ ‹Xt _ _ _ _›))⟩) fun hc w17 es' h17 e17 => ⟨_, _, rfl, hK x hf hc _ _ h17 (by repeat (first | assumption | exact Xt.refl | refine Xt.trans ?_ ‹Xt _ _ _ _›))⟩
end
end Go.Proofs.Ytingojpcdpelaaa
