/-
  What each function of the net does, over memory.
  No condition beyond those that each theorem names.
-/
import Derived.Test.YtingojpcdpelaaaF12
import Derived.Test.YtingojpcdpelaaaSxp
import Derived.Test.YtingojpcdpelaaaSxo
set_option linter.unusedSimpArgs false
open Go.Sx
set_option linter.unusedVariables false
namespace Go.Proofs.Ytingojpcdpelaaa

/-- What is hooked, and what not. -/
structure HK (hk : Hook) : Prop where
  no : ∀ f a w, f ≠ 15 → f ≠ 35 → hk f a w = none
  sorted : ∀ a w x, hookS kindI 35 44 w a = some x → hk 35 a w = some (some x)
  awake : ∀ w, hk 15 [] w = some (some (.bool true, w))

structure Pk where
  num : Int
  src : Int
  dst : Int
  body : List UInt8

def pkVal (n0 : Nat) (w : AW) (x : Pk) (v : AV) : Prop := ∃ bv, v = .agg [.int .i64 x.num, .int .i64 x.src, .int .i64 x.dst, bv] ∧ BS n0 w bv x.body

theorem not_bytes {w : AW} {x : Nat} {a : AV} {cs : List AV} (h : Box w x (a :: cs)) (ha : ∀ n, a ≠ .int .u8 n) (t : List UInt8) : ¬ Box w x (cellsOfBytes t) := fun h2 => by
  unfold Box at h h2
  rw [h] at h2
  cases t with
  | nil => cases h2
  | cons c t =>
    simp only [cellsOfBytes, List.map_cons, Option.some.injEq, AO.cells.injEq, List.cons.injEq] at h2
    exact ha _ h2.1.1
theorem not_bytes_map {w : AW} {x : Nat} {es : List (AV × AV)} {cl : Nat} (h : w.get x = some (.map es cl)) (t : List UInt8) : ¬ Box w x (cellsOfBytes t) := fun h2 => by
  unfold Box at h2
  rw [h] at h2; cases h2

theorem pk_fr {n0 : Nat} {w w' : AW} (hm : Mem w) (hf : Fr w.size w w') {es : List (AV × AV)} {N : List Pk} (h : Ents Pk.num (pkVal n0) w es N) : Ents Pk.num (pkVal n0) w' es N :=
  h.mono fun x v ⟨bv, h1, h2⟩ => ⟨bv, h1, h2.fr hm hf (Nat.le_refl _)⟩
theorem pk_ch {n0 x : Nat} {w w' : AW} (hm : Mem w) (hc : Ch [x] w w') (hx : ∀ t, ¬ Box w x (cellsOfBytes t)) {es : List (AV × AV)} {N : List Pk} (h : Ents Pk.num (pkVal n0) w es N) : Ents Pk.num (pkVal n0) w' es N :=
  h.mono fun y v ⟨bv, h1, h2⟩ => ⟨bv, h1, h2.ch hm hc fun z hz => by simp at hz; subst hz; exact hx⟩

/-- A net in memory: what is on its way, by rising numbers, and the last number. -/
structure Net (n0 : Nat) (w : AW) (b r : Nat) (N : List Pk) (last : Int) : Prop where
  b0 : b ≠ 0
  nb : n0 ≤ b
  nr : n0 ≤ r
  box : Box w b [.map r, .int .i64 last]
  map : ∃ es cl, w.get r = some (.map es cl) ∧ Ents Pk.num (pkVal n0) w es N
  rise : (N.map Pk.num).Pairwise (· < ·)
  low : ∀ x ∈ N, 1 ≤ x.num ∧ x.num ≤ last
  last0 : 0 ≤ last
  cap : N.length ≤ 256

theorem Net.lt {n0 : Nat} {w : AW} {b r : Nat} {N : List Pk} {last : Int} (h : Net n0 w b r N last) (hm : Mem w) : b < w.size ∧ r < w.size := by
  obtain ⟨es, cl, h1, _⟩ := h.map
  exact ⟨h.box.lt hm, hm.lt _ _ h1⟩
theorem Net.fr {n0 : Nat} {w w' : AW} {b r : Nat} {N : List Pk} {last : Int} (h : Net n0 w b r N last) (hm : Mem w) (hf : Fr w.size w w') : Net n0 w' b r N last := by
  obtain ⟨es, cl, h1, h2⟩ := h.map
  exact ⟨h.b0, h.nb, h.nr, h.box.fr hf (h.lt hm).1, ⟨es, cl, (hf.old _ (h.lt hm).2).trans h1, pk_fr hm hf h2⟩, h.rise, h.low, h.last0, h.cap⟩
theorem Net.ch {n0 x : Nat} {w w' : AW} {b r : Nat} {N : List Pk} {last : Int} (h : Net n0 w b r N last) (hm : Mem w) (hc : Ch [x] w w') (hb : x ≠ b) (hr : x ≠ r) (hx : ∀ t, ¬ Box w x (cellsOfBytes t)) : Net n0 w' b r N last := by
  obtain ⟨es, cl, h1, h2⟩ := h.map
  exact ⟨h.b0, h.nb, h.nr, hc.box hm h.box (by simp; exact Ne.symm hb), ⟨es, cl, (hc.old _ (h.lt hm).2 (by simp; exact Ne.symm hr)).trans h1, pk_ch hm hc hx h2⟩, h.rise, h.low, h.last0, h.cap⟩

theorem mapAt_of {w : AW} {r : Nat} {es : List (AV × AV)} {cl : Nat} (h : w.get r = some (.map es cl)) : mapAt w r = some (es, cl) := by unfold mapAt; rw [h]; rfl
theorem newMap_of {w : AW} {K : Nat → AW → Prop} (hm : Mem w) (h : ∀ w', Fr w.size w w' → w'.get w.size = some (.map [] 0) → w'.size = w.size + 1 → K w.size w') : newMap w K :=
  h _ (Fr.push hm fun cs f own d e => by cases e) (by simp) (by simp)

/-- New. -/
theorem s9 {hk : Hook} {w : AW} {n0 : Nat} {K : AV → AW → Prop} (hh : HK hk) (hm : Mem w) (hw : 0 < w.size) (hn : n0 ≤ w.size)
    (hK : ∀ b r w', w.size ≤ b → w.size ≤ r → Fr w.size w w' → Net n0 w' b r [] 0 → K (.ptr b 0) w') : Cl Try.prog hk 9 [] w K := by
  apply in9 (hh.no _ _ _ (by decide) (by decide))
  refine newMap_of hm fun w1 f1 g1 z1 => new_of f1.mem fun w2 f2 b2 z2 => ?_
  refine hK _ w.size _ (by omega) (Nat.le_refl _) (f1.trans f2 (by omega)) ⟨by omega, by omega, hn, b2, ⟨[], 0, (f2.old _ (by omega)).trans g1, trivial⟩, by simp, by simp, by omega, by simp⟩

/-- none. -/
theorem s31 {hk : Hook} {w : AW} {b r n0 : Nat} {N : List Pk} {last : Int} {K : AV → AW → Prop} (hh : HK hk) (h : Net n0 w b r N last) (hK : K (.bool false) w) : Cl Try.prog hk 31 [.ptr b 0] w K := by
  apply in31 (hh.no _ _ _ (by decide) (by decide))
  unfold F31
  refine ⟨false, by kernel_rfl, ifT_f ?_⟩
  exact onM_s (v := .map r) (by rw [h.box.ld]; rfl) ⟨false, by kernel_rfl, hK⟩

/-- slices.Clone of bytes. -/
theorem s34 {hk : Hook} {w : AW} {v : AV} {s : List UInt8} {K : AV → AW → Prop} (hh : HK hk) (hm : Mem w) (h : RsB w v s) (hs : s.length < 2 ^ 40)
    (hK : ∀ v' w', BS w.size w' v' s → Fr w.size w w' → K v' w') : Cl Try.prog hk 34 [v] w K := by
  apply in34 (hh.no _ _ _ (by decide) (by decide))
  unfold F34
  have hr := Rs.read h
  have hl := Rs.length h
  by_cases hv : v = .nilslice
  · subst hv
    have : s = [] := by
      rcases h with ⟨_, h2, _⟩ | ⟨b, o, cap, ex, all, h1, _⟩
      · exact List.eq_nil_of_length_eq_zero h2
      · cases h1
    subst this
    exact ⟨true, by kernel_rfl, ifT_t (hK _ _ (.inl ⟨rfl, rfl⟩) (Fr.refl hm))⟩
  · have hsl : ∃ b o n cap ex, v = .slice b o n cap ex := by
      rcases h with ⟨h1, _⟩ | ⟨b, o, cap, ex, all, h1, _⟩
      · exact absurd h1 hv
      · exact ⟨b, o, _, cap, ex, h1⟩
    obtain ⟨b, o, n, cap, ex, rfl⟩ := hsl
    refine ⟨false, by kernel_rfl, ifT_f (new_of hm fun w1 f1 b1 z1 => ?_)⟩
    have h1 := h.fr hm f1 (Nat.le_refl _)
    have hr1 := Rs.read h1
    by_cases hn : s.length = 0
    · have : s = [] := List.eq_nil_of_length_eq_zero hn
      subst this
      refine onE_s (v := .slice w.size 0 0 0 none) (w := w1) ?_ (hK _ _ (.inr ⟨w.size, none, rfl, .inl rfl, Nat.le_refl _, b1⟩) f1)
      simp only [appS]
      rw [hr1]
      rfl
    · have e0 : Nat.beq s.length 0 = false := beq_ff hn
      have e1 : Nat.ble (0 + s.length) 0 = false := by
        cases he : Nat.ble (0 + s.length) 0 with
        | false => rfl
        | true => rw [Nat.ble_eq] at he; omega
      have e2 : Nat.blt ((2 * (0 + s.length) + 1000) * 1) room = true := by rw [Nat.blt_eq]; unfold room; omega
      have e3 : Nat.blt (0 + s.length) (2 ^ 62) = true := by rw [Nat.blt_eq]; omega
      refine onE_s (v := .slice w1.size 0 (0 + s.length) (0 + s.length) (some 1)) (w := newCells w1 (cellsOfBytes s)) ?_ (hK _ _ (.inr ⟨w1.size, some 1, by rw [Nat.zero_add], .inr rfl, by omega, by simp [Box, newCells, cellsAO]⟩) (f1.trans (Fr.push f1.mem fun cs' f own d e => by cases e; exact Nat.le_refl _) (by omega)))
      simp only [appS]
      rw [hr1]
      simp only [Option.bind_some, e0, cond_false, e1, e2, e3, okSrc, growA, b1.cells, guardO]
      rfl

/-- Bytes that stay when block b turns. -/
def Src (b : Nat) (w : AW) (v : AV) (s : List UInt8) : Prop := okCell v = true ∧ ∀ w1 w2, Fr w.size w w1 → Ch [b] w1 w2 → RsB w2 v s
theorem Src.now {b : Nat} {w : AW} {v : AV} {s : List UInt8} (h : Src b w v s) (hm : Mem w) : RsB w v s := h.2 w w (Fr.refl hm) (Ch.refl hm)
theorem Src.fr {b : Nat} {w w' : AW} {v : AV} {s : List UInt8} (h : Src b w v s) (hf : Fr w.size w w') : Src b w' v s := ⟨h.1, fun w1 w2 h1 h2 => h.2 w1 w2 (hf.trans h1 hf.size) h2⟩
/-- What lay there ahead of the block. -/
theorem Src.old {b : Nat} {w0 w : AW} {v : AV} {s : List UInt8} (hm : Mem w0) (h : RsB w0 v s) (hf : Fr w0.size w0 w) (hb : w0.size ≤ b) : Src b w v s :=
  ⟨Rs.ok h, fun w1 w2 h1 h2 => h.fr hm ((hf.trans h1 hf.size).trans (h2.fr (n := w0.size) (Nat.le_trans hf.size h1.size) (by simp; exact hb)) (Nat.le_refl _)) (Nat.le_refl _)⟩
/-- Bytes in a block of their own, beside a net. -/
theorem Src.own {n0 n1 : Nat} {w : AW} {b r : Nat} {N : List Pk} {last : Int} {v : AV} {s : List UInt8} (hm : Mem w) (hN : Net n0 w b r N last) (h : BS n1 w v s) : Src b w v s :=
  ⟨h.ok, fun w1 w2 h1 h2 => ((h.fr hm h1 (Nat.le_refl _)).ch h1.mem h2 fun z hz => by simp at hz; subst hz; exact not_bytes (hN.fr hm h1).box (by simp)).rs⟩

/-- put. -/
theorem s32 {hk : Hook} {w : AW} {b r n0 : Nat} {N : List Pk} {last p1 p2 p3 : Int} {v : AV} {s : List UInt8} {K : AV → AW → Prop} (hh : HK hk) (hm : Mem w) (hw : 0 < w.size) (h : Net n0 w b r N last) (hn0 : n0 ≤ w.size) (hl : last < 2 ^ 60) (hv : Src b w v s) (hs : s.length < 2 ^ 40)
    (hfull : 256 ≤ N.length → ∀ w', Fr w.size w w' → K (.tup [.int .i64 0, .int .i64 5]) w')
    (hK : N.length < 256 → ∀ w', Ch [b, r] w w' → Net n0 w' b r (N ++ [⟨last + 1, p2, p3, s⟩]) (last + 1) → K (.tup [.int .i64 (last + 1), .int .i64 0]) w') : Cl Try.prog hk 32 [.ptr b 0, .agg [.int .i64 p1, .int .i64 p2, .int .i64 p3, v]] w K := by
  apply in32 (hh.no _ _ _ (by decide) (by decide))
  unfold F32
  refine gd_t (by simp only [List.all_cons, List.all_nil, hv.1]; rfl) (new_of hm fun w6 f6 b6 z6 => ?_)
  have h6 := h.fr hm f6
  obtain ⟨es, cl, hmap6, hE6⟩ := h6.map
  have hbl := h.lt hm
  have hbr : b ≠ r := fun e => by subst e; have := h6.box; unfold Box at this; rw [hmap6] at this; cases this
  refine onM_s (v := .map r) (by rw [h6.box.ld]; rfl) ⟨(es.length : Int), by simp only [lenM]; rw [mapAt_of hmap6]; rfl, ?_⟩
  have hel := hE6.length
  refine ifT_d (fun hc => hfull (by omega) _ f6) fun hc => ?_
  refine ⟨last, by rw [h6.box.ld]; rfl, ?_⟩
  have hlast := h.last0
  rw [wi_eq (by omega) (by omega)]
  refine h6.box.put' f6.mem h.b0 (by simp) fun w16 c16 b16 z16 => ?_
  have hE16 := pk_ch f6.mem c16 (not_bytes h6.box (by simp)) hE6
  have hp16 : Box w16 w.size [.int .i64 p1, .int .i64 p2, .int .i64 p3, v] := c16.box f6.mem b6 (by simp; omega)
  have hmap16 : w16.get r = some (.map es cl) := (c16.old _ (by omega) (by simp; exact Ne.symm hbr)).trans hmap6
  have b16 : Box w16 b [.map r, .int .i64 (last + 1)] := b16
  refine ⟨last + 1, by rw [b16.ld]; rfl, onM_s (v := v) (by rw [hp16.ld]; rfl) ?_⟩
  refine s34 hh c16.mem (hv.2 _ _ f6 c16) hs fun v' w22 hbs f22 => ?_
  have b22 : Box w22 b [.map r, .int .i64 (last + 1)] := b16.fr f22 (by omega)
  have hp22 : Box w22 w.size [.int .i64 p1, .int .i64 p2, .int .i64 p3, v] := hp16.fr f22 (by omega)
  have hmap22 : w22.get r = some (.map es cl) := (f22.old _ (by omega)).trans hmap16
  have hE22 := pk_fr c16.mem f22 hE16
  refine ⟨by rw [b22.ld]; rfl, hp22.put' f22.mem (by omega) (by simp) fun w23 c23 b23 z23 => gd_t hbs.ok ?_⟩
  have hbs23 := hbs.ch f22.mem c23 fun z hz => by simp at hz; subst hz; exact not_bytes hp22 (by simp)
  have hE23 := pk_ch f22.mem c23 (not_bytes hp22 (by simp)) hE22
  have b23 : Box w23 w.size [.int .i64 (last + 1), .int .i64 p2, .int .i64 p3, v] := b23
  refine b23.put' c23.mem (by omega) (by simp) fun w24 c24 b24 z24 => ?_
  have hbs24 := hbs23.ch c23.mem c24 fun z hz => by simp at hz; subst hz; exact not_bytes b23 (by simp)
  have hE24 := pk_ch c23.mem c24 (not_bytes b23 (by simp)) hE23
  have b24 : Box w24 w.size [.int .i64 (last + 1), .int .i64 p2, .int .i64 p3, v'] := b24
  have bb23 : Box w23 b [.map r, .int .i64 (last + 1)] := c23.box f22.mem b22 (by simp; omega)
  have bb24 : Box w24 b [.map r, .int .i64 (last + 1)] := c24.box c23.mem bb23 (by simp; omega)
  have hs22 := f22.size
  have hmap23 : w23.get r = some (.map es cl) := (c23.old _ (by omega) (by simp; omega)).trans hmap22
  have hmap24 : w24.get r = some (.map es cl) := (c24.old _ (by omega) (by simp; omega)).trans hmap23
  refine onM_s (v := .map r) (by rw [bb24.ld]; rfl) ⟨last + 1, by rw [bb24.ld]; rfl, _, _, _, _, by rw [b24.ldN (by simp)]; rfl, ?_⟩
  have hset : kvSet w24 (.map r) (.int .i64 (last + 1)) (.agg [.int .i64 (last + 1), .int .i64 p2, .int .i64 p3, v']) = some (Go.Sx.undef, w24.set r (.map (insM (.int .i64 (last + 1)) (.agg [.int .i64 (last + 1), .int .i64 p2, .int .i64 p3, v']) es) (cl + 1))) := by
    simp only [kvSet]
    rw [mapAt_of hmap24, Option.bind_some]
    simp only [hE24.like (last + 1), guardO, cond_true]
  refine onE_s hset ?_
  have hrl : r < w24.size := by omega
  have c36 : Ch [r] w24 (w24.set r (.map (insM (.int .i64 (last + 1)) (.agg [.int .i64 (last + 1), .int .i64 p2, .int .i64 p3, v']) es) (cl + 1))) := Ch.set c24.mem hrl fun cs f own d e => by cases e
  have hg36 : (w24.set r (.map (insM (.int .i64 (last + 1)) (.agg [.int .i64 (last + 1), .int .i64 p2, .int .i64 p3, v']) es) (cl + 1))).get r = some (.map (insM (.int .i64 (last + 1)) (.agg [.int .i64 (last + 1), .int .i64 p2, .int .i64 p3, v']) es) (cl + 1)) := by simp
  have hs36 : (w24.set r (.map (insM (.int .i64 (last + 1)) (.agg [.int .i64 (last + 1), .int .i64 p2, .int .i64 p3, v']) es) (cl + 1))).size = w24.size := rfl
  generalize w24.set r (.map (insM (.int .i64 (last + 1)) (.agg [.int .i64 (last + 1), .int .i64 p2, .int .i64 p3, v']) es) (cl + 1)) = w36 at *
  have b36 : Box w36 b [.map r, .int .i64 (last + 1)] := c36.box c24.mem bb24 (by simp; exact hbr)
  have hbs36 := hbs24.ch c24.mem c36 fun z hz => by simp at hz; subst hz; exact not_bytes_map hmap24
  have hE36 := pk_ch c24.mem c36 (not_bytes_map hmap24) hE24
  refine ⟨last + 1, by rw [b36.ld]; rfl, ?_⟩
  have hch : Ch [b, r] w w36 := by
    have t1 : Ch [b, w.size, r] w6 w16 := c16.mono (by simp)
    have t2 : Ch [b, w.size, r] w16 w22 := f22.ch
    have t3 : Ch [b, w.size, r] w22 w23 := c23.mono (by simp)
    have t4 : Ch [b, w.size, r] w23 w24 := c24.mono (by simp)
    have t5 : Ch [b, w.size, r] w24 w36 := c36.mono (by simp)
    exact Ch.new f6 ((((t1.trans t2).trans t3).trans t4).trans t5) [b, r] fun z hz => by
      simp at hz ⊢
      rcases hz with rfl | rfl | rfl
      · exact .inl (.inl rfl)
      · exact .inr (Nat.le_refl _)
      · exact .inl (.inr rfl)
  refine hK (by omega) _ hch ⟨h.b0, h.nb, h.nr, b36, ⟨_, _, hg36, ?_⟩, ?_, ?_, by omega, by simp; omega⟩
  · exact Ents.ins (key := Pk.num) (val := pkVal n0) (y := ⟨last + 1, p2, p3, s⟩) ⟨v', rfl, hbs36.le (by omega)⟩ hE36 fun x hx => by have := (h.low x hx).2; simp only []; omega
  · rw [List.map_append, List.pairwise_append]
    refine ⟨h.rise, by simp, fun a ha c hc => ?_⟩
    obtain ⟨x, hx, rfl⟩ := List.mem_map.1 ha
    simp at hc; subst hc
    have := (h.low x hx).2; omega
  · intro x hx
    rcases List.mem_append.1 hx with hx | hx
    · have := h.low x hx; omega
    · simp at hx; subst hx; simp only []; omega

/-- Send. -/
theorem s10 {hk : Hook} {w : AW} {b r n0 : Nat} {N : List Pk} {last p2 p3 : Int} {v : AV} {s : List UInt8} {K : AV → AW → Prop} (hh : HK hk) (hm : Mem w) (hw : 0 < w.size) (h : Net n0 w b r N last) (hn0 : n0 ≤ w.size) (hl : last < 2 ^ 60) (hv : Src b w v s)
    (hlong : 65545 < s.length → K (.tup [.int .i64 0, .int .i64 3]) w)
    (hfull : s.length ≤ 65545 → 256 ≤ N.length → ∀ w', Fr w.size w w' → K (.tup [.int .i64 0, .int .i64 5]) w')
    (hK : s.length ≤ 65545 → N.length < 256 → ∀ w', Ch [b, r] w w' → Net n0 w' b r (N ++ [⟨last + 1, p2, p3, s⟩]) (last + 1) → K (.tup [.int .i64 (last + 1), .int .i64 0]) w') : Cl Try.prog hk 10 [.ptr b 0, .int .i64 p2, .int .i64 p3, v] w K := by
  apply in10 (hh.no _ _ _ (by decide) (by decide))
  unfold F10
  refine s31 hh h ⟨_, rfl, ifT_f ⟨_, (hv.now hm).len, ifT_d (fun hc => hlong (by omega)) fun hc => gd_t hv.1 ?_⟩⟩
  exact s32 hh hm hw h hn0 hl hv (by omega) (fun hf w' f' => ⟨_, _, rfl, hfull (by omega) hf w' f'⟩) fun hf w' c' n' => ⟨_, _, rfl, hK (by omega) hf w' c' n'⟩

def zeroC : List AV := [.int .i64 0, .int .i64 0, .int .i64 0, .nilslice]
def look (N : List Pk) (n : Int) : Option Pk := N.find? fun x => decide (x.num = n)

/-- find. -/
theorem s33 {hk : Hook} {w : AW} {b r n0 : Nat} {N : List Pk} {last n : Int} {K : AV → AW → Prop} (hh : HK hk) (hm : Mem w) (hw : 0 < w.size) (h : Net n0 w b r N last)
    (hno : look N n = none → ∀ w', Fr w.size w w' → K (.tup [.agg zeroC, .int .i64 100]) w')
    (hK : ∀ x, look N n = some x → ∀ v w', Fr w.size w w' → BS n0 w' v x.body → K (.tup [.agg [.int .i64 x.num, .int .i64 x.src, .int .i64 x.dst, v], .int .i64 0]) w') : Cl Try.prog hk 33 [.ptr b 0, .int .i64 n] w K := by
  apply in33 (hh.no _ _ _ (by decide) (by decide))
  unfold F33
  refine new_of hm fun w3 f3 b3 z3 => ?_
  have h3 := h.fr hm f3
  refine s31 hh h3 ⟨_, rfl, ifT_f ?_⟩
  obtain ⟨es, cl, hmap3, hE3⟩ := h3.map
  refine onM_s (v := .map r) (by rw [h3.box.ld]; rfl) ?_
  have hlk := hE3.look n
  have hls : lookS (.agg zeroC) true w3 (.map r) (.int .i64 n) = match lookM (.int .i64 n) es with | some v => some (.tup [v, .bool true]) | none => some (.tup [.agg zeroC, .bool false]) := by
    simp only [lookS, mapOf]
    rw [mapAt_of hmap3]
    simp only [Option.map_some, Option.bind_some, hE3.like n, guardO, cond_true]
    cases lookM (.int .i64 n) es <;> rfl
  unfold look at hno hK
  cases hf : N.find? (fun x => decide (x.num = n)) with
  | none =>
    rw [hf] at hlk
    simp only [] at hlk
    rw [hlk] at hls
    refine ⟨_, _, _, _, _, hls, new_of f3.mem fun w21 f21 b21 z21 => gd_t rfl ?_⟩
    refine b21.put' f21.mem (by omega) (by simp) fun w22 c22 b22 z22 => ?_
    refine ifT_t ?_
    have b3' : Box w22 w.size [.int .i64 0, .int .i64 0, .int .i64 0, .nilslice] := c22.box f21.mem (b3.fr f21 (by omega)) (by simp; omega)
    refine b3'.put' c22.mem (by omega) (by simp) fun w23 c23 b23 z23 => ⟨_, _, _, _, by rw [b23.ldN (by simp [listPut])]; rfl, hno hf _ ?_⟩
    have t : Ch [w3.size, w.size] w3 w23 := ((f21.ch (X := [w3.size, w.size])).trans (c22.mono (by simp))).trans (c23.mono (by simp))
    exact (Ch.new f3 t [] fun z hz => by simp at hz; omega).fr (Nat.le_refl _) (by simp)
  | some x =>
    rw [hf] at hlk
    obtain ⟨v0, hv0, bv, rfl, hbs⟩ := hlk
    rw [hv0] at hls
    refine ⟨_, _, _, _, _, hls, new_of f3.mem fun w21 f21 b21 z21 => gd_t (by simp only [List.all_cons, List.all_nil, hbs.ok]; rfl) ?_⟩
    refine b21.put' f21.mem (by omega) (by simp) fun w22 c22 b22 z22 => ?_
    refine ifT_f ?_
    have b22 : Box w22 w3.size [.int .i64 x.num, .int .i64 x.src, .int .i64 x.dst, bv] := b22
    refine ⟨_, _, _, _, by rw [b22.ldN (by simp)]; rfl, gd_t (by simp only [List.all_cons, List.all_nil, hbs.ok]; rfl) ?_⟩
    have b3' : Box w22 w.size [.int .i64 0, .int .i64 0, .int .i64 0, .nilslice] := c22.box f21.mem (b3.fr f21 (by omega)) (by simp; omega)
    refine b3'.put' c22.mem (by omega) (by simp) fun w32 c32 b32 z32 => ?_
    have b32 : Box w32 w.size [.int .i64 x.num, .int .i64 x.src, .int .i64 x.dst, bv] := b32
    refine ⟨_, _, _, _, by rw [b32.ldN (by simp)]; rfl, hK x hf bv _ ?_ ?_⟩
    · have t : Ch [w3.size, w.size] w3 w32 := ((f21.ch (X := [w3.size, w.size])).trans (c22.mono (by simp))).trans (c32.mono (by simp))
      exact (Ch.new f3 t [] fun z hz => by simp at hz; omega).fr (Nat.le_refl _) (by simp)
    · exact ((hbs.fr f3.mem f21 (Nat.le_refl _)).ch f21.mem c22 (fun z hz => by simp at hz; subst hz; exact not_bytes b21 (by simp))).ch c22.mem c32 fun z hz => by simp at hz; subst hz; exact not_bytes b3' (by simp)

def del (N : List Pk) (n : Int) : List Pk := N.filter fun x => !decide (x.num = n)
theorem nodup_of {N : List Pk} (h : (N.map Pk.num).Pairwise (· < ·)) : (N.map Pk.num).Nodup := h.imp fun h e => by omega

/-- Deliver. -/
theorem s13 {hk : Hook} {w : AW} {b r n0 : Nat} {N : List Pk} {last n : Int} {K : AV → AW → Prop} (hh : HK hk) (hm : Mem w) (hw : 0 < w.size) (h : Net n0 w b r N last) (hn0 : n0 ≤ w.size)
    (hbody : ∀ x ∈ N, x.body.length < 2 ^ 40)
    (hno : look N n = none → ∀ w', Fr w.size w w' → K (.tup [.agg zeroC, .int .i64 100]) w')
    (hK : ∀ x, look N n = some x → ∀ v w', Ch [r] w w' → Net n0 w' b r (del N n) last → BS w.size w' v x.body → K (.tup [.agg [.int .i64 x.num, .int .i64 x.src, .int .i64 x.dst, v], .int .i64 0]) w') : Cl Try.prog hk 13 [.ptr b 0, .int .i64 n] w K := by
  apply in13 (hh.no _ _ _ (by decide) (by decide))
  unfold F13
  have hbl := h.lt hm
  have hbr : b ≠ r := fun e => by
    obtain ⟨es, cl, h1, _⟩ := h.map
    subst e; have := h.box; unfold Box at this; rw [h1] at this; cases this
  refine new_of hm fun w3 f3 b3 z3 => ?_
  have h3 := h.fr hm f3
  refine s33 hh f3.mem (by omega) h3 (fun hf w5 f5 => ?_) fun x hf v w5 f5 hbs => ?_
  · refine ⟨_, _, _, _, _, rfl, new_of f5.mem fun w12 f12 b12 z12 => gd_t rfl ?_⟩
    refine b12.put' f12.mem (by have := f5.size; omega) (by simp) fun w13 c13 b13 z13 => ?_
    refine ifT_t ?_
    have hs5 := f5.size
    have b3' : Box w13 w.size [.int .i64 0, .int .i64 0, .int .i64 0, .nilslice] := c13.box f12.mem ((b3.fr f5 (by omega)).fr f12 (by omega)) (by simp; omega)
    refine b3'.put' c13.mem (by omega) (by simp) fun w14 c14 b14 z14 => ⟨_, _, _, _, by rw [b14.ldN (by simp [listPut])]; rfl, hno hf _ ?_⟩
    have t : Ch [w5.size, w.size] w3 w14 := (((f5.ch (X := [w5.size, w.size])).trans f12.ch).trans (c13.mono (by simp))).trans (c14.mono (by simp))
    exact (Ch.new f3 t [] fun z hz => by simp at hz; omega).fr (Nat.le_refl _) (by simp)
  · have hs5 := f5.size
    have h5 := h3.fr f3.mem f5
    refine ⟨_, _, _, _, _, rfl, new_of f5.mem fun w12 f12 b12 z12 => gd_t (by simp only [List.all_cons, List.all_nil, hbs.ok]; rfl) ?_⟩
    have h12 := h5.fr f5.mem f12
    have hbs12 := hbs.fr f5.mem f12 (Nat.le_refl _)
    refine b12.put' f12.mem (by omega) (by simp) fun w13 c13 b13 z13 => ?_
    have b13 : Box w13 w5.size [.int .i64 x.num, .int .i64 x.src, .int .i64 x.dst, v] := b13
    refine ifT_f ?_
    have h13 := h12.ch f12.mem c13 (by omega) (by omega) (not_bytes b12 (by simp))
    have hbs13 := hbs12.ch f12.mem c13 fun z hz => by simp at hz; subst hz; exact not_bytes b12 (by simp)
    obtain ⟨es, cl, hmap13, hE13⟩ := h13.map
    refine onM_s (v := .map r) (by rw [h13.box.ld]; rfl) ?_
    have hdel : kvDel w13 (.map r) (.int .i64 n) = some (Go.Sx.undef, w13.set r (.map (delM (.int .i64 n) es) (cl + 1))) := by
      simp only [kvDel]
      rw [mapAt_of hmap13, Option.bind_some]
      simp only [hE13.like n, guardO, cond_true]
    refine onE_s hdel ?_
    have hrl : r < w13.size := by omega
    have c23 : Ch [r] w13 (w13.set r (.map (delM (.int .i64 n) es) (cl + 1))) := Ch.set c13.mem hrl fun cs f own d e => by cases e
    have hg23 : (w13.set r (.map (delM (.int .i64 n) es) (cl + 1))).get r = some (.map (delM (.int .i64 n) es) (cl + 1)) := by simp
    have hs23 : (w13.set r (.map (delM (.int .i64 n) es) (cl + 1))).size = w13.size := rfl
    generalize w13.set r (.map (delM (.int .i64 n) es) (cl + 1)) = w23 at *
    have hE23 : Ents Pk.num (pkVal n0) w23 (delM (.int .i64 n) es) (del N n) := pk_ch c13.mem c23 (not_bytes_map hmap13) (hE13.del n (nodup_of h.rise))
    have hbs23 := hbs13.ch c13.mem c23 fun z hz => by simp at hz; subst hz; exact not_bytes_map hmap13
    have b23 : Box w23 w5.size [.int .i64 x.num, .int .i64 x.src, .int .i64 x.dst, v] := c23.box c13.mem b13 (by simp; omega)
    have h23 : Net n0 w23 b r (del N n) last := by
      refine ⟨h.b0, h.nb, h.nr, c23.box c13.mem h13.box (by simp; exact hbr), ⟨_, _, hg23, hE23⟩, ?_, fun y hy => h.low y (List.mem_filter.1 hy).1, h.last0, Nat.le_trans (List.length_filter_le _ _) h.cap⟩
      exact h.rise.sublist (List.filter_sublist.map _)
    refine onM_s (v := v) (by rw [b23.ld]; rfl) ?_
    have hxb : x.body.length < 2 ^ 40 := hbody x (List.mem_of_find?_eq_some hf)
    refine s34 hh c23.mem hbs23.rs hxb fun v' w26 hbs' f26 => gd_t hbs'.ok ?_
    have b26 := b23.fr f26 (by omega)
    have h26 := h23.fr c23.mem f26
    refine b26.put' f26.mem (by omega) (by simp) fun w27 c27 b27 z27 => ?_
    have b27 : Box w27 w5.size [.int .i64 x.num, .int .i64 x.src, .int .i64 x.dst, v'] := b27
    have h27 := h26.ch f26.mem c27 (by omega) (by omega) (not_bytes b26 (by simp))
    have hbs27 := hbs'.ch f26.mem c27 fun z hz => by simp at hz; subst hz; exact not_bytes b26 (by simp)
    refine ⟨_, _, _, _, by rw [b27.ldN (by simp)]; rfl, gd_t (by simp only [List.all_cons, List.all_nil, hbs'.ok]; rfl) ?_⟩
    have hs26 := f26.size
    have b3' : Box w27 w.size [.int .i64 0, .int .i64 0, .int .i64 0, .nilslice] :=
      c27.box f26.mem ((c23.box c13.mem (c13.box f12.mem ((b3.fr f5 (by omega)).fr f12 (by omega)) (by simp; omega)) (by simp; omega)).fr f26 (by omega)) (by simp; omega)
    refine b3'.put' c27.mem (by omega) (by simp) fun w32 c32 b32 z32 => ?_
    have b32 : Box w32 w.size [.int .i64 x.num, .int .i64 x.src, .int .i64 x.dst, v'] := b32
    refine ⟨_, _, _, _, by rw [b32.ldN (by simp)]; rfl, hK x hf v' _ ?_ ?_ ?_⟩
    · have t : Ch [w5.size, w.size, r] w3 w32 := ((((((f5.ch (X := [w5.size, w.size, r])).trans f12.ch).trans (c13.mono (by simp))).trans (c23.mono (by simp))).trans f26.ch).trans (c27.mono (by simp))).trans (c32.mono (by simp))
      exact Ch.new f3 t [r] fun z hz => by simp at hz ⊢; omega
    · exact h27.ch c27.mem c32 (by omega) (by omega) (not_bytes b3' (by simp))
    · exact (hbs27.ch c27.mem c32 fun z hz => by simp at hz; subst hz; exact not_bytes b3' (by simp)).le (by omega)

/-- Drop. -/
theorem s12 {hk : Hook} {w : AW} {b r n0 : Nat} {N : List Pk} {last n : Int} {K : AV → AW → Prop} (hh : HK hk) (hm : Mem w) (hw : 0 < w.size) (h : Net n0 w b r N last) (hn0 : n0 ≤ w.size) (hbody : ∀ x ∈ N, x.body.length < 2 ^ 40)
    (hno : look N n = none → ∀ w', Fr w.size w w' → K (.int .i64 100) w')
    (hK : ∀ x, look N n = some x → ∀ w', Ch [r] w w' → Net n0 w' b r (del N n) last → K (.int .i64 0) w') : Cl Try.prog hk 12 [.ptr b 0, .int .i64 n] w K := by
  apply in12 (hh.no _ _ _ (by decide) (by decide))
  unfold F12
  refine s13 hh hm hw h hn0 hbody (fun hf w3 f3 => ?_) fun x hf v w3 c3 h3 hbs => ?_
  · have hs := f3.size
    refine ⟨_, _, _, _, _, rfl, new_of f3.mem fun w10 f10 b10 z10 => gd_t rfl ?_⟩
    refine b10.put' f10.mem (by omega) (by simp) fun w11 c11 b11 z11 => hno hf _ ?_
    exact (Ch.new f3 ((f10.ch (X := [w3.size])).trans c11) [] fun z hz => by simp at hz; omega).fr (Nat.le_refl _) (by simp)
  · have hs := c3.size
    have hbl := h3.lt c3.mem
    refine ⟨_, _, _, _, _, rfl, new_of c3.mem fun w10 f10 b10 z10 => gd_t (by simp only [List.all_cons, List.all_nil, hbs.ok]; rfl) ?_⟩
    refine b10.put' f10.mem (by omega) (by simp) fun w11 c11 b11 z11 => hK x hf _ ?_ ?_
    · have t : Ch [r, w3.size] w w11 := ((c3.mono (by simp)).trans f10.ch).trans (c11.mono (by simp))
      exact ⟨t.size, fun c hc hx => t.old c hc (by simp at hx ⊢; omega), t.mem⟩
    · exact (h3.fr c3.mem f10).ch f10.mem c11 (by omega) (by omega) (not_bytes b10 (by simp))

/-- Double. -/
theorem s11 {hk : Hook} {w : AW} {b r n0 : Nat} {N : List Pk} {last n : Int} {K : AV → AW → Prop} (hh : HK hk) (hm : Mem w) (hw : 0 < w.size) (h : Net n0 w b r N last) (hn0 : n0 ≤ w.size) (hl : last < 2 ^ 60) (hbody : ∀ x ∈ N, x.body.length < 2 ^ 40)
    (hno : look N n = none → ∀ w', Fr w.size w w' → K (.tup [.int .i64 0, .int .i64 100]) w')
    (hfull : ∀ x, look N n = some x → 256 ≤ N.length → ∀ w', Fr w.size w w' → K (.tup [.int .i64 0, .int .i64 5]) w')
    (hK : ∀ x, look N n = some x → N.length < 256 → ∀ w', Ch [b, r] w w' → Net n0 w' b r (N ++ [⟨last + 1, x.src, x.dst, x.body⟩]) (last + 1) → K (.tup [.int .i64 (last + 1), .int .i64 0]) w') : Cl Try.prog hk 11 [.ptr b 0, .int .i64 n] w K := by
  apply in11 (hh.no _ _ _ (by decide) (by decide))
  unfold F11
  have hbl := h.lt hm
  refine s33 hh hm hw h (fun hf w3 f3 => ?_) fun x hf v w3 f3 hbs => ?_
  · have hs := f3.size
    refine ⟨_, _, _, _, _, rfl, new_of f3.mem fun w10 f10 b10 z10 => gd_t rfl ?_⟩
    refine b10.put' f10.mem (by omega) (by simp) fun w11 c11 b11 z11 => ifT_t (hno hf _ ?_)
    exact (Ch.new f3 ((f10.ch (X := [w3.size])).trans c11) [] fun z hz => by simp at hz; omega).fr (Nat.le_refl _) (by simp)
  · have hs := f3.size
    refine ⟨_, _, _, _, _, rfl, new_of f3.mem fun w10 f10 b10 z10 => gd_t (by simp only [List.all_cons, List.all_nil, hbs.ok]; rfl) ?_⟩
    refine b10.put' f10.mem (by omega) (by simp) fun w11 c11 b11 z11 => ifT_f ?_
    have b11 : Box w11 w3.size [.int .i64 x.num, .int .i64 x.src, .int .i64 x.dst, v] := b11
    have h11 := ((h.fr hm f3).fr f3.mem f10).ch f10.mem c11 (by omega) (by omega) (not_bytes b10 (by simp))
    have hbs11 := (hbs.fr f3.mem f10 (Nat.le_refl _)).ch f10.mem c11 fun z hz => by simp at hz; subst hz; exact not_bytes b10 (by simp)
    have f11 : Fr w.size w w11 := (Ch.new f3 ((f10.ch (X := [w3.size])).trans c11) [] fun z hz => by simp at hz; omega).fr (Nat.le_refl _) (by simp)
    refine ⟨_, _, _, _, by rw [b11.ldN (by simp)]; rfl, ?_⟩
    refine s32 hh c11.mem (by omega) h11 (by omega) hl (Src.own c11.mem h11 hbs11) (hbody x (List.mem_of_find?_eq_some hf)) (fun hc w17 f17 => ⟨_, _, rfl, hfull x hf hc _ (f11.trans f17 f11.size)⟩) fun hc w17 c17 h17 => ⟨_, _, rfl, hK x hf hc _ ?_ h17⟩
    exact (f11.ch (X := [b, r])).trans c17

/-! ### List -/
theorem insS_first {le : Int → Int → Bool} (x : Int) : ∀ (l : List Int), (∀ y ∈ l, le x y = true) → insS le x l = x :: l
  | [], _ => rfl
  | y :: l, h => by unfold insS; rw [h y List.mem_cons_self]; rfl
theorem isort_id {le : Int → Int → Bool} : ∀ (l : List Int), l.Pairwise (fun a b => le a b = true) → isort le l = l
  | [], _ => rfl
  | x :: l, h => by
    obtain ⟨h1, h2⟩ := List.pairwise_cons.1 h
    unfold isort; rw [isort_id l h2]; exact insS_first x l h1

/-- A packet in a list: its four cells. -/
def pkCells (w : AW) (n0 : Nat) (x : Pk) (cs : List AV) : Prop := ∃ v, cs = [.int .i64 x.num, .int .i64 x.src, .int .i64 x.dst, v] ∧ BS n0 w v x.body
/-- Packets' cells, one after the other. -/
def PkL (n0 : Nat) (w : AW) : List Pk → List AV → Prop
  | [], cs => cs = []
  | x :: l, cs => ∃ v rest, cs = .int .i64 x.num :: .int .i64 x.src :: .int .i64 x.dst :: v :: rest ∧ BS n0 w v x.body ∧ PkL n0 w l rest
theorem PkL.length {n0 : Nat} {w : AW} : ∀ {l : List Pk} {cs : List AV}, PkL n0 w l cs → cs.length = l.length * 4
  | [], cs, h => by have h : cs = [] := h; subst h; rfl
  | x :: l, cs, ⟨v, rest, h1, _, h2⟩ => by subst h1; simp [PkL.length h2]; omega
theorem PkL.mono {n0 n1 : Nat} {w w' : AW} (hv : ∀ v s, BS n0 w v s → BS n1 w' v s) : ∀ {l : List Pk} {cs : List AV}, PkL n0 w l cs → PkL n1 w' l cs
  | [], _, h => h
  | x :: l, cs, ⟨v, rest, h1, h2, h3⟩ => ⟨v, rest, h1, hv _ _ h2, PkL.mono hv h3⟩
theorem PkL.snoc {n0 : Nat} {w : AW} {y : Pk} {u : AV} (hu : BS n0 w u y.body) : ∀ {l : List Pk} {cs : List AV}, PkL n0 w l cs → PkL n0 w (l ++ [y]) (cs ++ [.int .i64 y.num, .int .i64 y.src, .int .i64 y.dst, u])
  | [], cs, h => by have h : cs = [] := h; subst h; exact ⟨u, [], rfl, hu, rfl⟩
  | x :: l, cs, ⟨v, rest, h1, h2, h3⟩ => by subst h1; exact ⟨v, _, rfl, h2, PkL.snoc hu h3⟩
theorem PkL.get {n0 : Nat} {w : AW} : ∀ {l : List Pk} {cs : List AV}, PkL n0 w l cs → ∀ (i : Nat) (hi : i < l.length), ∃ v, cs[i * 4 + 0]? = some (.int .i64 l[i].num) ∧ cs[i * 4 + 1]? = some (.int .i64 l[i].src) ∧ cs[i * 4 + 2]? = some (.int .i64 l[i].dst) ∧ cs[i * 4 + 3]? = some v ∧ BS n0 w v l[i].body
  | x :: l, cs, ⟨v, rest, h1, h2, h3⟩, 0, hi => by subst h1; exact ⟨v, rfl, rfl, rfl, rfl, h2⟩
  | x :: l, cs, ⟨v, rest, h1, h2, h3⟩, i + 1, hi => by
    subst h1
    obtain ⟨u, g0, g1, g2, g3, g4⟩ := PkL.get h3 i (by simpa using hi)
    have e : ∀ (a b c d : AV) k, (a :: b :: c :: d :: rest)[(i + 1) * 4 + k]? = rest[i * 4 + k]? := fun a b c d k => by rw [show (i + 1) * 4 + k = (i * 4 + k) + 1 + 1 + 1 + 1 by omega]; rfl
    exact ⟨u, (e _ _ _ _ 0).trans g0, (e _ _ _ _ 1).trans g1, (e _ _ _ _ 2).trans g2, (e _ _ _ _ 3).trans g3, g4⟩

theorem bytes_ne {a : AV} {cs : List AV} (ha : ∀ n, a ≠ .int .u8 n) (t : List UInt8) : cellsOfBytes t ≠ a :: cs := fun e => by
  cases t with
  | nil => cases e
  | cons c t => simp only [cellsOfBytes, List.map_cons, List.cons.injEq] at e; exact ha _ e.1.symm
/-- A slice that grows is none of the bodies. -/
theorem acc_blk {n0 n1 : Nat} {w : AW} {v u : AV} {cs : List AV} {l : List Pk} {s : List UInt8} (ha : Acc n0 w 4 v cs) (hl : PkL n1 w l cs) {c : Nat} {ex : Option Nat} (hc : u = .slice c 0 s.length s.length ex) (hb : Box w c (cellsOfBytes s)) : blk v ≠ some c := by
  intro e
  rcases ha with ⟨rfl, _⟩ | ⟨b, f, n, o, d, rfl, h1, h2, h3, h4, h5, h6⟩
  · cases e
  · simp only [blk, Option.some.injEq] at e
    subst e
    unfold Box at hb
    rw [h5] at hb
    cases l with
    | nil => have hl : cs = [] := hl; subst hl; simp at h1; omega
    | cons x l =>
      obtain ⟨v, rest, rfl, _⟩ := hl
      simp only [Option.some.injEq, AO.cells.injEq] at hb
      exact bytes_ne (by simp) s hb.1.symm
theorem bsGrow {n0 n1 n2 : Nat} {w w' : AW} {v v' u : AV} {cs : List AV} {l : List Pk} {s : List UInt8} (h : BS n2 w u s) (ha : Acc n0 w 4 v cs) (hl : PkL n1 w l cs) (hg : Grow n0 v v' w w') : BS n2 w' u s := by
  rcases h with h | ⟨c, ex, h1, h2, h3, h4⟩
  · exact .inl h
  · exact .inr ⟨c, ex, h1, h2, h3, hg.box _ _ h4 (acc_blk ha hl h1 h4)⟩

/-- A new slice of packets, with bodies of their own. -/
def risen (cs : List AV) : Prop := ∀ i j c c', i < j → (cs[i * 4 + 3]?).bind blk = some c → (cs[j * 4 + 3]?).bind blk = some c' → c < c'
def PkS (n0 : Nat) (w : AW) (v : AV) (l : List Pk) : Prop := ∃ cs, Acc n0 w 4 v cs ∧ PkL n0 w l cs ∧ risen cs
theorem PkL.lt {n0 : Nat} {w : AW} (hm : Mem w) {l : List Pk} {cs : List AV} (h : PkL n0 w l cs) {i c : Nat} (hc : (cs[i * 4 + 3]?).bind blk = some c) : c < w.size := by
  have hl := h.length
  by_cases hi : i < l.length
  · obtain ⟨v, _, _, _, g3, g4⟩ := h.get i hi
    rw [g3] at hc
    rcases g4 with ⟨rfl, _⟩ | ⟨c', ex, rfl, _, _, hb⟩
    · cases hc
    · simp only [Option.bind_some, blk, Option.some.injEq] at hc
      subst hc
      exact hb.lt hm
  · rw [List.getElem?_eq_none (by omega)] at hc; cases hc

theorem keys_of {n0 : Nat} {w : AW} : ∀ {es : List (AV × AV)} {N : List Pk}, Ents Pk.num (pkVal n0) w es N → (∀ x ∈ N, 1 ≤ x.num ∧ x.num < 2 ^ 62) → kindI.keys es = some (N.map Pk.num)
  | [], [], _, _ => rfl
  | (a, b) :: es, x :: N, h, hr => by
    have h1 : a = .int .i64 x.num := h.1
    have h2 := keys_of h.2.2 fun y hy => hr y (List.mem_cons_of_mem _ hy)
    have hx := hr x List.mem_cons_self
    have hok : kindI.ok x.num = true := by
      show (Lit.int .i64 x.num).wf = true
      simp only [Lit.wf, Bool.and_eq_true, decide_eq_true_eq]
      constructor
      · simp [IntKind.min, IntKind.bits, IntKind.signed]; omega
      · simp [IntKind.max, IntKind.bits, IntKind.signed]; omega
    subst h1
    show bnd (some x.num) (fun y => bnd (kindI.keys es) fun l => cond (kindI.ok y) (some (y :: l)) none) = _
    rw [h2]
    show (cond (kindI.ok x.num) (some (x.num :: N.map Pk.num)) none) = _
    rw [hok]; rfl
  | [], _ :: _, h, _ => h.elim
  | _ :: _, [], h, _ => h.elim

/-- List. -/
theorem s14 {hk : Hook} {w : AW} {b r n0 : Nat} {N : List Pk} {last : Int} {K : AV → AW → Prop} (hh : HK hk) (hm : Mem w) (hw : 0 < w.size) (h : Net n0 w b r N last) (hn0 : n0 ≤ w.size) (hl : last < 2 ^ 60) (hbody : ∀ x ∈ N, x.body.length < 2 ^ 40)
    (hK : ∀ v w', Fr w.size w w' → PkS w.size w' v N → K v w') : Cl Try.prog hk 14 [.ptr b 0] w K := by
  apply in14 (hh.no _ _ _ (by decide) (by decide))
  unfold F14
  have hbl := h.lt hm
  refine s31 hh h ⟨_, rfl, ifT_f (onM_s (v := .map r) (by rw [h.box.ld]; rfl) ?_)⟩
  refine in36 (hh.no _ _ _ (by decide) (by decide)) (gd_t rfl (new_of hm fun w8 f8 b8 z8 => ?_))
  have h8 := h.fr hm f8
  obtain ⟨es, cl, hmap8, hE8⟩ := h8.map
  have hkeys := keys_of hE8 fun x hx => by have := h.low x hx; omega
  have hbm : boxMap w8 w.size = some r := by
    unfold boxMap
    have b8 : w8.get w.size = some (.cells [.map r] w.size w.size false) := b8
    rw [b8]
    simp only [Nat.beq_refl, Bool.true_and]
    rw [beq_ff (by omega)]
    rfl
  have hle : kindI.le = Go.Sx.leI := by unfold kindI; rfl
  have hsort : isort kindI.le (N.map Pk.num) = N.map Pk.num := isort_id _ (h.rise.imp fun h => by rw [hle, Go.Sx.leI_eq]; simp; omega)
  have hel : (N.map Pk.num).length = N.length := by simp
  have hhook : hookS kindI 35 44 w8 [.func 44 [] [.ptr w.size 0]] = some (sortedA w8 kindI (N.map Pk.num)) := by
    show cond (Nat.beq 44 44) (bnd (boxMap w8 w.size) fun r => bnd (mapAt w8 r) fun m => bnd (kindI.keys m.1) fun ks => cond (Nat.ble ks.length 65536) (some (sortedA w8 kindI ks)) none) none = _
    rw [hbm]
    show bnd (mapAt w8 r) (fun m => bnd (kindI.keys m.1) fun ks => cond (Nat.ble ks.length 65536) (some (sortedA w8 kindI ks)) none) = _
    rw [mapAt_of hmap8]
    show bnd (kindI.keys es) (fun ks => cond (Nat.ble ks.length 65536) (some (sortedA w8 kindI ks)) none) = _
    rw [hkeys]
    show cond (Nat.ble (N.map Pk.num).length 65536) _ _ = _
    rw [show Nat.ble (N.map Pk.num).length 65536 = true by rw [Nat.ble_eq, hel]; have := h.cap; omega]
    rfl
  -- the keys
  have hsd : ∃ v10 w10, sortedA w8 kindI (N.map Pk.num) = (v10, w10) ∧ RsI w10 v10 (N.map Pk.num) ∧ Fr w8.size w8 w10 := by
    cases hN : N.map Pk.num with
    | nil => exact ⟨_, _, rfl, Rs.nil, Fr.refl f8.mem⟩
    | cons k ks =>
      rw [hN] at hsort
      refine ⟨_, _, rfl, ?_, Fr.push f8.mem fun cs' f own d e => by cases e; exact Nat.le_refl _⟩
      show RsI (newCells w8 ((isort kindI.le (k :: ks)).map kindI.encA)) _ _
      rw [hsort]
      have hb : Box (newCells w8 ((k :: ks).map kindI.encA)) w8.size ((k :: ks).map (AV.int .i64)) := by simp [Box, newCells, cellsAO]; exact ⟨rfl, fun _ _ => rfl⟩
      exact .inr ⟨w8.size, 0, _, _, _, rfl, hb.cells, by simp, by rw [List.drop_zero, List.take_of_length_le (by simp)]⟩
  obtain ⟨v10, w10, hs10, hrs10, f10⟩ := hsd
  refine Cl_hook (hh.sorted _ _ _ (by rw [hhook, hs10])) ⟨_, hrs10.len, ?_⟩
  have hs8 := f8.size
  have hs10' := f10.size
  have f010 : Fr w.size w w10 := f8.trans f10 (by omega)
  refine loopP_ind (fun m lv w' => ∃ (i : Nat) (out : AV), i ≤ N.length ∧ m = N.length - i ∧ lv = [out, .int .i64 i] ∧ Fr w10.size w10 w' ∧ PkS w10.size w' out (N.take i)) ?_
    ⟨0, .nilslice, Nat.zero_le _, rfl, rfl, Fr.refl f010.mem, [], Acc.nil, rfl, fun i j c c' _ h => by cases h⟩
  rintro m lv w14 ⟨i, out, hi, rfl, rfl, hf, cs, hacc, hpl, hrs4⟩ R ih
  have f014 : Fr w.size w w14 := f010.trans hf (by omega)
  refine ⟨_, _, rfl, fun _ => ifT_d (fun hc => ?_) fun hc => ?_⟩
  · have hil : i < N.length := by rw [hel] at hc; omega
    have hrs14 := hrs10.fr f10.mem hf (Nat.le_refl _)
    have h14 := h.fr hm f014
    obtain ⟨es, cl, hmap14, hE14⟩ := h14.map
    have hs14 := hf.size
    refine hrs14.atN (by rw [hel]; exact hil) fun bb oo hld => ⟨_, hld, onM_s (v := .map r) (by rw [h14.box.ld]; rfl) ?_⟩
    rw [List.getElem_map]
    -- the packet
    have hlk := hE14.look N[i].num
    have hfind : N.find? (fun x => decide (x.num = N[i].num)) = some N[i] := by
      rw [List.find?_eq_some_iff_getElem]
      refine ⟨by simp, i, hil, rfl, fun j hj => ?_⟩
      have hlt := List.pairwise_iff_getElem.1 h.rise j i (by simp; omega) (by simp; omega) hj
      simp at hlt
      simp; omega
    rw [hfind] at hlk
    obtain ⟨v0, hv0, bv, rfl, hbs⟩ := hlk
    have hls : lookS (.agg [.int .i64 0, .int .i64 0, .int .i64 0, .nilslice]) false w14 (.map r) (.int .i64 N[i].num) = some (.agg [.int .i64 N[i].num, .int .i64 N[i].src, .int .i64 N[i].dst, bv]) := by
      simp only [lookS, mapOf]
      rw [mapAt_of hmap14]
      simp only [Option.map_some, Option.bind_some, hE14.like, guardO, cond_true, hv0, cond_false]
    refine ⟨_, _, _, _, hls, new_of hf.mem fun w28 f28 b28 z28 => gd_t (by simp only [List.all_cons, List.all_nil, hbs.ok]; rfl) ?_⟩
    refine b28.put' f28.mem (by omega) (by simp) fun w29 c29 b29 z29 => ?_
    have b29 : Box w29 w14.size [.int .i64 N[i].num, .int .i64 N[i].src, .int .i64 N[i].dst, bv] := b29
    have hbs29 := (hbs.fr hf.mem f28 (Nat.le_refl _)).ch f28.mem c29 fun z hz => by simp at hz; subst hz; exact not_bytes b28 (by simp)
    refine onM_s (v := bv) (by rw [b29.ld]; rfl) ?_
    refine s34 hh c29.mem hbs29.rs (hbody _ (List.getElem_mem hil)) fun v' w32 hbs' f32 => gd_t hbs'.ok ?_
    have b32 := b29.fr f32 (by omega)
    refine b32.put' f32.mem (by omega) (by simp) fun w33 c33 b33 z33 => ?_
    have b33 : Box w33 w14.size [.int .i64 N[i].num, .int .i64 N[i].src, .int .i64 N[i].dst, v'] := b33
    have hbs33 := hbs'.ch f32.mem c33 fun z hz => by simp at hz; subst hz; exact not_bytes b32 (by simp)
    refine ⟨_, _, _, _, by rw [b33.ldN (by simp)]; rfl, gd_t (by simp only [List.all_cons, List.all_nil, hbs'.ok]; rfl) ?_⟩
    refine new_of c33.mem fun w39 f39 b39 z39 => ?_
    have hs32 := f32.size
    -- what was gathered stays
    have f1433 : Fr w14.size w14 w33 := by
      have t : Ch [w14.size] w28 w33 := (c29.trans f32.ch).trans c33
      exact (Ch.new f28 t [] fun z hz => by simp at hz; omega).fr (Nat.le_refl _) (by simp)
    have f1439 : Fr w14.size w14 w39 := f1433.trans f39 (by omega)
    have hacc39 := hacc.fr hf.mem f1439 (Nat.le_refl _)
    have hpl39 : PkL w10.size w39 (N.take i) cs := hpl.mono fun v s hb => hb.fr hf.mem f1439 (Nat.le_refl _)
    have hbs39 : BS w10.size w39 v' N[i].body := (hbs33.fr c33.mem f39 (Nat.le_refl _)).le (by omega)
    have hrs : Rs w39 4 1 (.slice w33.size 0 1 1 none) [.int .i64 N[i].num, .int .i64 N[i].src, .int .i64 N[i].dst, v'] := .inr ⟨w33.size, 0, 1, none, _, rfl, b39.cells, by simp, rfl⟩
    have hcl : cs.length / 4 = i := by rw [hpl.length]; simp; omega
    have hcap := h.cap
    have hs39 := f1439.size
    refine Acc.app hacc39 f39.mem (by omega) (by omega) (by decide) hrs (by rw [hcl]; omega) (by rw [hcl]; omega) fun out' w41 hacc' hgrow => ?_
    refine ih (N.length - (i + 1)) (by omega) _ _ ⟨i + 1, out', hil, rfl, by rw [wi_eq (by omega) (by omega)]; rfl, (hf.trans f1439 (by omega)).trans hgrow.fr (Nat.le_refl _), _, hacc', ?_, ?_⟩
    · rw [← List.take_append_getElem hil]
      exact PkL.snoc (bsGrow hbs39 hacc39 hpl39 hgrow) (hpl39.mono fun v s hb => bsGrow hb hacc39 hpl39 hgrow)
    · have hcl4 : cs.length = i * 4 := by rw [hpl.length]; simp; omega
      intro i1 j1 c c' hij h1 h2
      by_cases hj : j1 < i
      · rw [List.getElem?_append_left (by omega)] at h1 h2
        exact hrs4 i1 j1 c c' hij h1 h2
      · by_cases hje : j1 = i
        · subst hje
          rw [List.getElem?_append_left (by omega)] at h1
          rw [List.getElem?_append_right (by omega), hcl4, show j1 * 4 + 3 - j1 * 4 = 3 by omega] at h2
          have hlt := hpl.lt hf.mem h1
          have hge : w29.size ≤ c' := by
            rcases hbs' with ⟨rfl, _⟩ | ⟨c2, ex, rfl, _, hge, _⟩
            · cases h2
            · have h2 : some c2 = some c' := h2
              cases h2; exact hge
          omega
        · rw [List.getElem?_eq_none (by simp; omega)] at h2; cases h2
  · have : i = N.length := by rw [hel] at hc; omega
    subst this
    rw [List.take_length] at hpl
    exact hK _ _ f014 ⟨cs, hacc.le (by omega), hpl.mono fun v s hb => hb.le (by omega), hrs4⟩
end Go.Proofs.Ytingojpcdpelaaa
