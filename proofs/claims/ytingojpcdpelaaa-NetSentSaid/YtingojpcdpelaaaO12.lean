/-
  NetOrder, over memory.
  No condition beyond those that each theorem names.
-/
import Derived.Test.YtingojpcdpelaaaN12
import Derived.Test.YtingojpcdpelaaaSxq
set_option linter.unusedSimpArgs false
open Go.Sx
set_option linter.unusedVariables false
namespace Go.Proofs.Ytingojpcdpelaaa

/-- A slice that grows is none of what turns. -/
theorem accCh {n0 sz : Nat} {X : List Nat} {w w' : AW} {v : AV} {cs : List AV} (h : Acc n0 w sz v cs) (hm : Mem w) (hc : Ch X w w') (hX : ∀ x ∈ X, (∃ es cl, w.get x = some (.map es cl)) ∨ ∃ c, Box w x c ∧ c ≠ cs) : Acc n0 w' sz v cs := by
  rcases h with h | ⟨b, f, n, o, d, h0, h1, h2, h3, h4, h5, h6⟩
  · exact .inl h
  · obtain ⟨c0, hc0, _⟩ := AW.root?_iff.1 h6
    simp only [] at hc0
    have hb : b ∉ X := fun hx => by
      rcases hX b hx with ⟨es, cl, g⟩ | ⟨c, g, hne⟩
      · rw [h5] at g; cases g
      · unfold Box at g; rw [h5] at g; cases g; exact hne rfl
    have hf : f ∉ X := fun hx => by
      rcases hX f hx with ⟨es, cl, g⟩ | ⟨c, g, hne⟩
      · rw [hc0] at g; cases g
      · unfold Box at g; rw [hc0] at g; cases g; exact hb hx
    exact .inr ⟨b, f, n, o, d, h0, h1, h2, h3, h4, (hc.old _ (hm.lt _ _ h5) hb).trans h5, by rw [AW.root?_congr (hc.old _ (hm.lt _ _ hc0) hf)]; exact h6⟩
theorem Net.isMap {n0 : Nat} {w : AW} {b r : Nat} {N : List Pk} {last : Int} (h : Net n0 w b r N last) : ∃ es cl, w.get r = some (.map es cl) := by
  obtain ⟨es, cl, h1, _⟩ := h.map; exact ⟨es, cl, h1⟩

theorem cells_chMap {r : Nat} {w w' : AW} (hm : Mem w) (hc : Ch [r] w w') (hr : ∃ es cl, w.get r = some (.map es cl)) {c : Nat} {all : List AV} (h : w.cells? c = some all) : w'.cells? c = some all := by
  obtain ⟨es, cl, hr⟩ := hr
  obtain ⟨x, o, d, h1, h2, h3⟩ := AW.cells?_iff.1 h
  obtain ⟨cs0, h4, _⟩ := AW.root?_iff.1 (AW.fam?_root h1)
  have e1 : c ≠ r := fun e => by rw [e, hr] at h3; cases h3
  have e2 : x.1 ≠ r := fun e => by rw [e, hr] at h4; cases h4
  rw [AW.cells?_congr h1 (hc.old _ (hm.lt _ _ h3) (by simpa using e1)) (hc.old _ (hm.lt _ _ h4) (by simpa using e2))]
  exact h
theorem acc_ne {n0 sz : Nat} {w : AW} {v : AV} {cs cs' : List AV} {c : Nat} (ha : Acc n0 w sz v cs) (hb : Box w c cs') (hne : cs = cs' → cs = []) (hs : 0 < sz) : blk v ≠ some c := by
  intro e
  rcases ha with ⟨rfl, _⟩ | ⟨b, f, n, o, d, rfl, h1, h2, h3, h4, h5, h6⟩
  · cases e
  · simp only [blk, Option.some.injEq] at e
    subst e
    unfold Box at hb
    rw [h5] at hb
    simp only [Option.some.injEq, AO.cells.injEq] at hb
    have hnil := hne hb.1
    subst hnil
    have : 0 < n * sz := Nat.mul_pos h2 hs
    simp at h1; omega
/-- What another slice gathers is nothing to a net. -/
theorem Net.grow {n0 n1 sz : Nat} {w w' : AW} {b r : Nat} {N : List Pk} {last : Int} {v v' : AV} {cs : List AV} (h : Net n0 w b r N last) (ha : Acc n1 w sz v cs) (hs : 0 < sz) (hne : cs = [] ∨ ∃ a t, cs = a :: t ∧ (∀ n, a ≠ .int .u8 n) ∧ ∀ m, a ≠ .map m) (hg : Grow n1 v v' w w') : Net n0 w' b r N last := by
  obtain ⟨es, cl, h1, h2⟩ := h.map
  have n1 : ∀ t, cs = cellsOfBytes t → cs = [] := fun t e => by
    rcases hne with h | ⟨a, u, rfl, g1, _⟩
    · exact h
    · exact absurd e.symm (bytes_ne g1 t)
  refine ⟨h.b0, h.nb, h.nr, hg.box _ _ h.box (acc_ne ha h.box (fun e => ?_) hs), ⟨es, cl, hg.obj _ _ h1 (fun cs f own d e => by cases e), h2.mono fun x u ⟨bv, e, hb⟩ => ⟨bv, e, ?_⟩⟩, h.rise, h.low, h.last0, h.cap⟩
  · rcases hne with h | ⟨a, u, rfl, _, g2⟩
    · exact h
    · cases e; exact absurd rfl (g2 r)
  · rcases hb with hb | ⟨c, ex, e1, e2, e3, e4⟩
    · exact .inl hb
    · exact .inr ⟨c, ex, e1, e2, e3, hg.box _ _ e4 (acc_ne ha e4 (n1 _) hs)⟩

/-- A slice of numbers that may be cut. -/
def RsIx (w : AW) (v : AV) (l : List Int) : Prop := (v = .nilslice ∧ l = []) ∨ ∃ b o cap ex all, v = .slice b o l.length cap ex ∧ l.length ≤ cap ∧ okEx ex 1 = true ∧ w.cells? b = some all ∧ o + l.length ≤ all.length ∧ l.map (AV.int .i64) = (all.drop o).take l.length
theorem RsIx.rs {w : AW} {v : AV} {l : List Int} (h : RsIx w v l) : RsI w v l := by
  rcases h with ⟨rfl, rfl⟩ | ⟨b, o, cap, ex, all, h1, h2, h3, h4, h5, h6⟩
  · exact Rs.nil
  · exact .inr ⟨b, o, cap, ex, all, h1, h4, by omega, by rw [Nat.mul_one]; exact h6⟩
theorem RsIx.fr {w w' : AW} {v : AV} {l : List Int} (h : RsIx w v l) (hm : Mem w) (hf : Fr w.size w w') : RsIx w' v l := by
  rcases h with h | ⟨b, o, cap, ex, all, h1, h2, h3, h4, h5, h6⟩
  · exact .inl h
  · exact .inr ⟨b, o, cap, ex, all, h1, h2, h3, hf.cells hm h4 (Nat.le_refl _), h5, h6⟩
theorem RsIx.chMap {r : Nat} {w w' : AW} {v : AV} {l : List Int} (h : RsIx w v l) (hm : Mem w) (hc : Ch [r] w w') (hr : ∃ es cl, w.get r = some (.map es cl)) : RsIx w' v l := by
  rcases h with h | ⟨b, o, cap, ex, all, h1, h2, h3, h4, h5, h6⟩
  · exact .inl h
  · exact .inr ⟨b, o, cap, ex, all, h1, h2, h3, cells_chMap hm hc hr h4, h5, h6⟩
theorem accIx {n0 : Nat} {w : AW} {v : AV} {l : List Int} (h : Acc n0 w 1 v (l.map (AV.int .i64))) : RsIx w v l := by
  rcases h with ⟨rfl, h⟩ | ⟨b, f, n, o, d, rfl, h1, h2, h3, h4, h5, h6⟩
  · exact .inl ⟨rfl, by simpa using h⟩
  · have hn : n = l.length := by simpa using h1
    subst hn
    exact .inr ⟨b, 0, _, _, _, rfl, Nat.le_refl _, rfl, AW.cells?_iff.2 ⟨(f, b, false), o, d, AW.fam?_iff.2 ⟨_, o, d, h5, h6⟩, .inl rfl, h5⟩, by simp, by rw [List.drop_zero, List.take_of_length_le (by simp)]⟩

theorem asN_nat (k : Nat) : asN (.int .i64 (k : Int)) = some k := rfl
theorem ble_t {a b : Nat} (h : a ≤ b) : Nat.ble a b = true := by rw [Nat.ble_eq]; exact h

/-- l[:k:k] and l[k+1:], joined: a slice without the item. -/
theorem cut_out {w : AW} {v : AV} {l : List Int} {k : Nat} {K : AV → AW → Prop} (h : RsIx w v l) (hm : Mem w) (hk : k < l.length) (hs : l.length < 2 ^ 30)
    (hK : ∀ v' w', Fr w.size w w' → RsIx w' v' (l.take k ++ l.drop (k + 1)) → K v' w') :
    ∃ a, slS 1 v none (some (.int .i64 (k : Int))) (some (.int .i64 (k : Int))) = some a ∧ ∃ c, slS 1 v (some (.int .i64 ((k + 1 : Nat) : Int))) none none = some c ∧ onE (appS 1 8 w a c) K := by
  rcases h with ⟨_, rfl⟩ | ⟨b, o, cap, ex, all, rfl, h2, h3, h4, h5, h6⟩
  · simp at hk
  refine ⟨.slice b (o + 0 * 1) (k - 0) (k - 0) none, ?_, .slice b (o + (k + 1) * 1) (l.length - (k + 1)) (cap - (k + 1)) ex, ?_, ?_⟩
  · simp only [slS, boundA, Option.bind_some, asN_nat, okB, ble_t (Nat.zero_le k), ble_t (Nat.le_refl k), ble_t (show k ≤ cap by omega), h3, guardO]
    rfl
  · simp only [slS, boundA, Option.bind_some, asN_nat, okB, ble_t (show k + 1 ≤ l.length by omega), ble_t h2, ble_t (Nat.le_refl cap), h3, guardO]
    rfl
  · have hc : Rs w 1 (l.length - (k + 1)) (.slice b (o + (k + 1) * 1) (l.length - (k + 1)) (cap - (k + 1)) ex) ((l.drop (k + 1)).map (AV.int .i64)) := by
      refine .inr ⟨b, o + (k + 1) * 1, cap - (k + 1), ex, all, rfl, h4, by omega, ?_⟩
      rw [List.map_drop, h6, List.drop_take, List.drop_drop, Nat.mul_one, Nat.mul_one]
    have htake : (l.take k).map (AV.int .i64) = (all.drop o).take k := by rw [List.map_take, h6, List.take_take, Nat.min_eq_left (by omega)]
    rw [onE_iff]
    by_cases hz : l.length - (k + 1) = 0
    · refine ⟨.slice b (o + 0 * 1) (k - 0) (k - 0) none, w, ?_, hK _ _ (Fr.refl hm) ?_⟩
      · simp only [appS]
        rw [hc.read]
        simp only [Option.bind_some, hz]; rfl
      · have : l.drop (k + 1) = [] := List.drop_eq_nil_of_le (by omega)
        rw [this, List.append_nil]
        have hkl : (l.take k).length = k := by simp; omega
        exact .inr ⟨b, o + 0 * 1, k - 0, none, all, by rw [hkl]; rfl, by rw [hkl]; exact Nat.le_refl _, rfl, h4, by rw [hkl]; omega, by rw [hkl, htake]; rfl⟩
    · have e0 : Nat.beq (l.length - (k + 1)) 0 = false := beq_ff hz
      have e1 : Nat.ble (k - 0 + (l.length - (k + 1))) (k - 0) = false := by
        cases he : Nat.ble (k - 0 + (l.length - (k + 1))) (k - 0) with
        | false => rfl
        | true => rw [Nat.ble_eq] at he; omega
      have e2 : Nat.blt ((2 * (k - 0 + (l.length - (k + 1))) + 1000) * 8) room = true := by rw [Nat.blt_eq]; unfold room; omega
      have e3 : Nat.blt (k - 0 + (l.length - (k + 1))) (2 ^ 62) = true := by rw [Nat.blt_eq]; omega
      have hbx : Box (newCells w ((l.take k ++ l.drop (k + 1)).map (AV.int .i64))) w.size ((l.take k ++ l.drop (k + 1)).map (AV.int .i64)) := by simp [Box, newCells, cellsAO]
      have hll : (l.take k ++ l.drop (k + 1)).length = k - 0 + (l.length - (k + 1)) := by simp; omega
      refine ⟨.slice w.size 0 (k - 0 + (l.length - (k + 1))) (k - 0 + (l.length - (k + 1))) (some 1), newCells w ((l.take k ++ l.drop (k + 1)).map (AV.int .i64)), ?_, hK _ _ (Fr.push hm fun cs' f own d e => by cases e; exact Nat.le_refl _) (.inr ⟨w.size, 0, _, _, _, by rw [hll], Nat.le_of_eq hll, rfl, hbx.cells, by rw [List.length_map, Nat.zero_add]; exact Nat.le_refl _, by rw [List.drop_zero]; exact (List.take_of_length_le (by rw [List.length_map]; exact Nat.le_refl _)).symm⟩)⟩
      simp only [appS, hc.read, Option.bind_some, e0, cond_false, e1, e2, e3, okSrc, growA, h4, guardO]
      have e4 : takeCells all (o + 0 * 1) ((k - 0) * 1) = some ((l.take k).map (AV.int .i64)) := by
        rw [takeCells_some (by omega), htake, Nat.zero_mul, Nat.add_zero, Nat.sub_zero, Nat.mul_one]
      rw [e4]
      simp only [Option.bind_some, List.map_append]
      rfl

/-- Lists of bytes. -/
def RsL (w : AW) (v : AV) (ss : List (List UInt8)) : Prop := ∃ cs, Rs w 1 ss.length v cs ∧ ∀ i (hi : i < ss.length), ∃ bv, cs[i]? = some bv ∧ RsB w bv ss[i]
theorem RsL.fr {w w' : AW} {v : AV} {ss : List (List UInt8)} (h : RsL w v ss) (hm : Mem w) (hf : Fr w.size w w') : RsL w' v ss := by
  obtain ⟨cs, h1, h2⟩ := h
  exact ⟨cs, h1.fr hm hf (Nat.le_refl _), fun i hi => let ⟨bv, a, b⟩ := h2 i hi; ⟨bv, a, b.fr hm hf (Nat.le_refl _)⟩⟩
theorem RsL.len {w : AW} {v : AV} {ss : List (List UInt8)} (h : RsL w v ss) : lenS v = some (.int .i64 ss.length) := by obtain ⟨cs, h, _⟩ := h; exact h.len
theorem RsL.at {w : AW} {v : AV} {ss : List (List UInt8)} (h : RsL w v ss) {i : Nat} (hi : i < ss.length) {K : Nat → Nat → Prop} (hK : ∀ b o bv, ld w b o = some bv → RsB w bv ss[i] → K b o) : atP (idxS 1 v (.int .i64 (i : Int))) K := by
  obtain ⟨cs, h1, h2⟩ := h
  obtain ⟨bv, g1, g2⟩ := h2 i hi
  exact h1.at (by omega) (by omega) fun b o hf _ => hK b o bv (by
    have := hf 0 (by decide)
    rw [Nat.add_zero] at this
    rw [this]
    simpa using g1) g2

theorem s20 {hk : Hook} {w : AW} {v : AV} {l : List Int} {K : AV → AW → Prop} (hh : HK hk) (hm : Mem w) (hw : 0 < w.size) (hl : RsI w v l) (hs : l.length < 2 ^ 40) (hK : ∀ v' w', Fr w.size w w' → RsIx w' v' l → K v' w') : Cl Try.prog hk 20 [v] w K := by
  apply in20 (hh.no _ _ _ (by decide) (by decide))
  unfold F20
  refine Acc.app (n0 := w.size) Acc.nil hm (Nat.le_refl _) hw (by decide) hl (by simp; omega) (by simp; omega) fun a' w' hacc hgrow => ?_
  rw [List.nil_append] at hacc
  exact hK _ _ hgrow.fr (accIx hacc)

theorem s17 {hk : Hook} {w : AW} {v v' : AV} {s s' : List UInt8} {K : AV → AW → Prop} (hh : HK hk) (h : RsB w v s) (h' : RsB w v' s') (hK : K (.bool (s == s')) w) : Cl Try.prog hk 17 [v, v'] w K := by
  apply in17 (hh.no _ _ _ (by decide) (by decide))
  exact ⟨_, h.str, _, h'.str, hK⟩

def pick (x n : Int) : Int := if n ≤ 0 then 0 else x % n
theorem pick_range {x n : Int} (h : 0 < n) : 0 ≤ pick x n ∧ pick x n < n := by
  unfold pick
  rw [if_neg (by omega)]
  exact ⟨Int.emod_nonneg _ (by omega), Int.emod_lt_of_pos _ h⟩
theorem s19 {hk : Hook} {w : AW} {x n : Int} {K : AV → AW → Prop} (hh : HK hk) (hp : n < 2 ^ 62) (hK : K (.int .i64 (pick x n)) w) : Cl Try.prog hk 19 [.int .i64 x, .int .i64 n] w K := by
  apply in19 (hh.no _ _ _ (by decide) (by decide))
  unfold F19
  unfold pick at hK
  refine ifT_d (fun h => by rwa [if_pos h] at hK) fun h => ?_
  rw [if_neg h] at hK
  have ht := Int.tmod_eq_emod (a := x) (b := n)
  have h1 := Int.emod_nonneg x (show n ≠ 0 by omega)
  have h2 := Int.emod_lt_of_pos x (show 0 < n by omega)
  refine ⟨x.tmod n, by simp only [arith]; rw [if_neg (by omega)], ifT_d (fun h2 => ?_) fun h2 => ?_⟩
  · have : wi (x.tmod n + n) = x % n := by
      rw [ht] at h2 ⊢
      split at h2
      · omega
      · rw [if_neg (by assumption)]
        have : (n.natAbs : Int) = n := by omega
        rw [this, wi_eq (by omega) (by omega)]; omega
    rw [this]; exact hK
  · have : x.tmod n = x % n := by
      rw [ht] at h2 ⊢
      split at h2
      · rw [if_pos (by assumption)]; omega
      · omega
    rw [this]; exact hK

/-- The packet that was sent as the n-th. -/
def pk (ss : List (List UInt8)) (n : Int) : Pk := ⟨n, n - 1, 0, ss.getD (n - 1).toNat []⟩
theorem look_map (ss : List (List UInt8)) : ∀ (l : List Int) (k : Nat) (hk : k < l.length), l.Pairwise (· < ·) → look (l.map (pk ss)) l[k] = some (pk ss l[k])
  | [], k, hk, _ => by simp at hk
  | a :: l, 0, _, _ => by unfold look; simp [pk]
  | a :: l, k + 1, hk, h => by
    obtain ⟨h1, h2⟩ := List.pairwise_cons.1 h
    have hk' : k < l.length := by simpa using hk
    have := look_map ss l k hk' h2
    unfold look at this ⊢
    have hne : a ≠ l[k] := by have := h1 l[k] (List.getElem_mem hk'); omega
    rw [List.map_cons, List.find?_cons]
    simp only [List.getElem_cons_succ]
    rw [show decide ((pk ss a).num = l[k]) = false from by simp [pk, hne]]
    exact this
theorem del_map (ss : List (List UInt8)) : ∀ (l : List Int) (k : Nat) (hk : k < l.length), l.Pairwise (· < ·) → del (l.map (pk ss)) l[k] = (l.take k ++ l.drop (k + 1)).map (pk ss)
  | [], k, hk, _ => by simp at hk
  | a :: l, 0, _, h => by
    obtain ⟨h1, h2⟩ := List.pairwise_cons.1 h
    unfold del
    simp only [List.map_cons, List.getElem_cons_zero, List.filter_cons, pk, decide_true, Bool.not_true, Bool.false_eq_true, if_false, List.take_zero, List.nil_append, Nat.zero_add, List.drop_succ_cons, List.drop_zero]
    rw [List.filter_eq_self]
    intro x hx
    obtain ⟨y, hy, rfl⟩ := List.mem_map.1 hx
    have := h1 y hy
    have e : (pk ss y).num = y := rfl
    simp only [e, Bool.not_eq_true', decide_eq_false_iff_not]; omega
  | a :: l, k + 1, hk, h => by
    obtain ⟨h1, h2⟩ := List.pairwise_cons.1 h
    have hk' : k < l.length := by simpa using hk
    have := del_map ss l k hk' h2
    have hne : a ≠ l[k] := by have := h1 l[k] (List.getElem_mem hk'); omega
    unfold del at this ⊢
    simp only [List.map_cons, List.getElem_cons_succ, List.filter_cons]
    rw [show (!decide ((pk ss a).num = l[k])) = true from by simp [pk, hne]]
    simp only [if_true, this, List.take_succ_cons, List.cons_append, List.map_cons, List.drop_succ_cons]

/-- NetOrder. -/
theorem s5 {hk : Hook} {w : AW} {v vo : AV} {ss : List (List UInt8)} {ord : List Int} (hh : HK hk) (hm : Mem w) (hw : 0 < w.size) (hl : RsL w v ss) (ho : RsI w vo ord) :
    Cl Try.prog hk 5 [v, vo] w fun r _ => r = .bool true := by
  apply in5 (hh.no _ _ _ (by decide) (by decide))
  unfold F5
  refine s9 (n0 := w.size) hh hm hw (Nat.le_refl _) fun b r w3 hb hr f3 hN3 => ?_
  have hs3 := f3.size
  refine join_of (fun lv w' => ∃ (nv : AV) (m : Nat), lv = [nv] ∧ m ≤ 12 ∧ m ≤ ss.length ∧ Fr w.size w w' ∧ Net w.size w' b r (((List.range m).map fun i : Nat => (i : Int) + 1).map (pk ss)) m ∧ RsI w' nv ((List.range m).map fun i : Nat => (i : Int) + 1)
      ∧ ∀ j (hj : j < ss.length), j < m → ss[j].length ≤ 65545) ?_ ?_
  · -- the deliveries
    rintro lv w5 ⟨nv, m, rfl, hm12, hmss, f5, hN5, hnv, hlen⟩
    have hs5 := f5.size
    refine ⟨_, rfl, fun _ => s20 hh f5.mem (by omega) hnv (by simp; omega) fun lv0 w9 f9 hlv => ?_⟩
    have hs9 := f9.size
    refine loopP_ind (fun q lvs w' => ∃ (lv : AV) (l : List Int) (i : Nat), q = l.length ∧ lvs = [lv, .int .i64 i] ∧ i + l.length ≤ 12 ∧ l.Pairwise (· < ·) ∧ (∀ x ∈ l, 1 ≤ x ∧ x ≤ m) ∧ Fr w.size w w' ∧ Net w.size w' b r (l.map (pk ss)) m ∧ RsIx w' lv l) ?_
      ⟨lv0, _, 0, rfl, rfl, by simp; omega, ?_, ?_, f5.trans f9 (by omega), hN5.fr f5.mem f9, hlv⟩
    · rintro q lvs w12 ⟨lv, l, i, rfl, rfl, hil, hpw, hrange, f12, hN12, hlv12⟩ R ih
      have hs12 := f12.size
      have ho12 := ho.fr hm f12 (Nat.le_refl _)
      have hl12 := hl.fr hm f12
      have hm12' := f12.mem
      refine ⟨_, _, rfl, fun _ => ⟨_, hlv12.rs.len, ifT_d (fun hpos => ?_) fun _ => Cl_hook (hh.awake _) ⟨_, rfl, rfl⟩⟩⟩
      refine join_of (fun lv' w' => w' = w12 ∧ ∃ k : Nat, k < l.length ∧ lv' = [.int .i64 k]) ?_ fun J hJ => ?_
      · rintro lv' w' ⟨rfl, k, hk, rfl⟩
        refine ⟨_, rfl, fun _ => hlv12.rs.atN hk fun b1 o1 hld => ⟨_, hld, ?_⟩⟩
        have hmem := List.getElem_mem hk
        have hrk := hrange _ hmem
        have hbody : ∀ x ∈ l.map (pk ss), x.body.length < 2 ^ 40 := fun x hx => by
          obtain ⟨y, hy, rfl⟩ := List.mem_map.1 hx
          have hy' := hrange y hy
          have hjl : (y - 1).toNat < ss.length := by omega
          have := hlen (y - 1).toNat hjl (by omega)
          simp only [pk, List.getD_eq_getElem?_getD, List.getElem?_eq_getElem hjl, Option.getD_some]; omega
        refine s13 hh hm12' (by omega) hN12 (by omega) hbody (fun hno => ?_) fun x hx pv w24 c24 hN24 hbs24 => ?_
        · rw [look_map ss l k hk hpw] at hno; cases hno
        rw [look_map ss l k hk hpw] at hx
        cases hx
        rw [del_map ss l k hk hpw] at hN24
        have hs24 := c24.size
        have f24 : Fr w.size w w24 := f12.trans (c24.fr (n := w.size) (by omega) (by simp; omega)) (Nat.le_refl _)
        have hlv24 : RsIx w24 lv l := hlv12.chMap hm12' c24 hN12.isMap
        refine ⟨_, _, _, _, _, rfl, new_of c24.mem fun w31 f31 b31 z31 => gd_t (by simp only [List.all_cons, List.all_nil, hbs24.ok]; rfl) ?_⟩
        refine b31.put' f31.mem (by omega) (by simp) fun w32 c32 b32 z32 => ifT_f ?_
        have b32 : Box w32 w24.size [.int .i64 l[k], .int .i64 (l[k] - 1), .int .i64 0, pv] := b32
        have hbl := hN24.lt c24.mem
        have f32 : Fr w24.size w24 w32 := (Ch.new f31 c32 [] fun z hz => by simp at hz; omega).fr (Nat.le_refl _) (by simp)
        have hN32 := hN24.fr c24.mem f32
        have hlv32 := hlv24.fr c24.mem f32
        have fw32 : Fr w.size w w32 := f24.trans f32 (by omega)
        have hl32 := hl.fr hm fw32
        have hbs32 := (hbs24.fr c24.mem f31 (Nat.le_refl _)).ch f31.mem c32 fun z hz => by simp at hz; subst hz; exact not_bytes b31 (by simp)
        refine ⟨_, by rw [b32.ld]; rfl, hlv32.rs.atN hk fun b2 o2 hld2 => ⟨_, hld2, ifT_nd (fun h => absurd rfl h) fun _ => ?_⟩⟩
        refine ⟨_, by rw [b32.ld]; rfl, hlv32.rs.atN hk fun b3 o3 hld3 => ⟨_, hld3, ?_⟩⟩
        rw [wi_eq (by omega) (by omega)]
        refine ifT_nd (fun h => absurd rfl h) fun _ => onM_s (v := pv) (by rw [b32.ld]; rfl) ?_
        refine hlv32.rs.atN hk fun b4 o4 hld4 => ⟨_, hld4, ?_⟩
        rw [wi_eq (by omega) (by omega)]
        obtain ⟨j, hj⟩ := Int.eq_ofNat_of_zero_le (show 0 ≤ l[k] - 1 by omega)
        have hjl : j < ss.length := by omega
        rw [hj]
        refine hl32.at hjl fun b5 o5 bv hld5 hbv => onM_s hld5 ?_
        have hpb : (pk ss l[k]).body = ss[j] := by
          simp only [pk, hj, Int.ofNat_eq_natCast, Int.toNat_natCast, List.getD_eq_getElem?_getD, List.getElem?_eq_getElem hjl, Option.getD_some]
        rw [hpb] at hbs32
        refine s17 hh hbs32.rs hbv ⟨_, rfl, ?_⟩
        rw [beq_self_eq_true]
        refine ifT_f ?_
        have hkk : wi ((k : Int) + 1) = ((k + 1 : Nat) : Int) := by rw [wi_eq (by omega) (by omega)]; rfl
        obtain ⟨xa, ha, xc, hc, happ⟩ := cut_out (K := fun v' w' => Fr w32.size w32 w' ∧ RsIx w' v' (l.take k ++ l.drop (k + 1))) hlv32 f32.mem hk (by omega) fun v' w' h1 h2 => ⟨h1, h2⟩
        refine onM_s ha (onM_s (by rw [hkk]; exact hc) ?_)
        rw [onE_iff] at happ ⊢
        obtain ⟨v', w54, happ, f54, hlv54⟩ := happ
        refine ⟨v', w54, happ, ?_⟩
        have hs32 := f32.size
        have hN54 := hN32.fr f32.mem f54
        have hlen' : (l.take k ++ l.drop (k + 1)).length = l.length - 1 := by simp; omega
        have hsub : (l.take k ++ l.drop (k + 1)).Sublist l := by
          have h1 : (l.take k ++ l.drop (k + 1)).Sublist (l.take k ++ l.drop k) := (List.Sublist.refl _).append (List.drop_sublist_drop_left l (Nat.le_succ k))
          rwa [List.take_append_drop] at h1
        have hpw' := hpw.sublist hsub
        have hrange' : ∀ x ∈ l.take k ++ l.drop (k + 1), 1 ≤ x ∧ x ≤ m := fun x hx => hrange x (hsub.mem hx)
        have hbody' : ∀ x ∈ (l.take k ++ l.drop (k + 1)).map (pk ss), x.body.length < 2 ^ 40 := fun x hx => hbody x ((hsub.map _).mem hx)
        generalize l.take k ++ l.drop (k + 1) = l' at *
        have hs54 := f54.size
        refine s14 hh f54.mem (by omega) hN54 (by omega) (by omega) hbody' fun lr w56 f56 hps => ?_
        obtain ⟨cs, hacc, hpl, _⟩ := hps
        have hlr := hacc.rs (by decide)
        have hcl : cs.length / 4 = l'.length := by rw [hpl.length]; simp
        rw [hcl] at hlr
        have hlv56 := hlv54.fr f54.mem f56
        have hN56 := hN54.fr f54.mem f56
        refine ⟨_, hlr.len, _, hlv56.rs.len, ifT_nd (fun h => absurd rfl h) fun _ => ?_⟩
        refine loopP_ind (fun q lv w' => w' = w56 ∧ ∃ j : Nat, j ≤ l'.length ∧ q = l'.length - j ∧ lv = [.int .i64 j]) ?_ ⟨rfl, 0, Nat.zero_le _, rfl, rfl⟩
        rintro q lv2 w61 ⟨rfl, j2, hj2, rfl, rfl⟩ R2 ih2
        refine ⟨_, rfl, fun _ => ⟨_, hlr.len, ifT_d (fun h => ?_) fun h => ?_⟩⟩
        · have h : j2 < l'.length := by omega
          refine hlr.at (by omega) (by omega) fun b6 o6 hf6 _ => ?_
          obtain ⟨u, g0, _⟩ := hpl.get j2 (by simpa using h)
          refine ⟨_, (hf6 0 (by decide)).trans g0, hlv56.rs.atN h fun b7 o7 hld7 => ⟨_, hld7, ?_⟩⟩
          rw [List.getElem_map]
          exact ifT_nd (fun h => absurd rfl h) fun _ => ih2 (l'.length - (j2 + 1)) (by omega) _ _ ⟨rfl, j2 + 1, h, rfl, by rw [wi_eq (by omega) (by omega)]; rfl⟩
        · exact ih l'.length (by omega) _ _ ⟨v', l', i + 1, rfl, by rw [wi_eq (by omega) (by omega)]; rfl, by omega, hpw', hrange', ((fw32.trans f54 (by omega)).trans f56 (by omega)), hN56, hlv56⟩
      · -- which one
        refine ⟨_, ho12.len, ifT_d (fun hopos => ?_) fun _ => hJ _ _ ⟨rfl, 0, by omega, rfl⟩⟩
        refine ⟨_, ho12.len, (i : Int).tmod ord.length, by simp only [arith]; rw [if_neg (by omega)], ?_⟩
        have ht : (i : Int).tmod ord.length = ((i % ord.length : Nat) : Int) := by rw [Int.tmod_eq_emod_of_nonneg (by omega)]; rfl
        rw [ht]
        have hlt : i % ord.length < ord.length := Nat.mod_lt _ (by omega)
        refine ho12.atN hlt fun b1 o1 hld => ⟨_, hld, _, hlv12.rs.len, s19 hh (by omega) ⟨_, rfl, ?_⟩⟩
        have hp := pick_range (x := ord[i % ord.length]) (n := l.length) (by omega)
        obtain ⟨k, hk⟩ := Int.eq_ofNat_of_zero_le hp.1
        exact hJ _ _ ⟨rfl, k, by omega, by rw [hk]⟩
    · rw [List.pairwise_map]
      exact List.pairwise_lt_range.imp fun h => by omega
    · intro x hx
      obtain ⟨y, hy, rfl⟩ := List.mem_map.1 hx
      have := List.mem_range.1 hy
      omega
  · -- they are sent
    intro J hJ
    refine loopP_ind (fun q lv w' => ∃ (i : Nat) (nv : AV), q = 12 - i ∧ i ≤ 12 ∧ i ≤ ss.length ∧ lv = [nv, .int .i64 i] ∧ Fr w.size w w' ∧ Net w.size w' b r (((List.range i).map fun i : Nat => (i : Int) + 1).map (pk ss)) i ∧ Acc w.size w' 1 nv (((List.range i).map fun i : Nat => (i : Int) + 1).map (AV.int .i64))
        ∧ ∀ j (hj : j < ss.length), j < i → ss[j].length ≤ 65545) ?_ ⟨0, .nilslice, rfl, by omega, by omega, rfl, f3, hN3, Acc.nil, fun j hj h => absurd h (Nat.not_lt_zero _)⟩
    rintro q lv w85 ⟨i, nv, rfl, hi12, hiss, rfl, f85, hN85, hacc, hlen⟩ R ih
    have hs85 := f85.size
    have hl85 := hl.fr hm f85
    have stop : J [nv] w85 := hJ _ _ ⟨nv, i, rfl, hi12, hiss, f85, hN85, hacc.rsI, hlen⟩
    refine ⟨_, _, rfl, fun _ => ⟨_, hl85.len, ifT_d (fun h => ifT_d (fun h12 => ?_) fun _ => stop) fun _ => stop⟩⟩
    have h : i < ss.length := by omega
    obtain ⟨cs, hcs1, hcs2⟩ := hl
    obtain ⟨bv, g1, g2⟩ := hcs2 i h
    refine (hcs1.fr hm f85 (Nat.le_refl _)).at (by omega) (by omega) fun b1 o1 hf1 _ => onM_s (v := bv) (by
      have h0 := hf1 0 (by decide)
      rw [Nat.add_zero] at h0
      rw [h0]
      simpa using g1) ?_
    -- the argument's bytes lie below the net
    have hsrc : Src b w85 bv ss[i] := Src.old hm g2 f85 hb
    have hNl : (((List.range i).map fun i : Nat => (i : Int) + 1).map (pk ss)).length = i := by simp
    refine s10 hh f85.mem (by omega) hN85 (by omega) (by omega) hsrc (fun _ => ⟨_, _, rfl, ifT_nd (fun _ => ifT_d (fun _ => Cl_hook (hh.awake _) ⟨_, rfl, rfl⟩) fun h => absurd rfl h) fun h => absurd h (by decide)⟩) (fun _ hf => by omega) fun hle _ w93 c93 hN93 => ⟨_, _, rfl, ifT_nd (fun h => absurd rfl h) fun _ => ?_⟩
    have hs93 := c93.size
    have f93 : Fr w.size w w93 := f85.trans (c93.fr (n := w.size) (by omega) (by simp; omega)) (Nat.le_refl _)
    have hacc93 : Acc w.size w93 1 nv (((List.range i).map fun i : Nat => (i : Int) + 1).map (AV.int .i64)) := accCh hacc f85.mem c93 fun x hx => by
      simp at hx
      rcases hx with rfl | rfl
      · refine .inr ⟨_, hN85.box, ?_⟩
        cases i with
        | zero => simp
        | succ i => rw [List.range_succ_eq_map]; simp
      · exact .inl hN85.isMap
    have hNapp : ((List.range i).map fun i : Nat => (i : Int) + 1).map (pk ss) ++ [⟨(i : Int) + 1, i, 0, ss[i]⟩] = ((List.range (i + 1)).map fun i : Nat => (i : Int) + 1).map (pk ss) := by
      rw [List.range_succ, List.map_append, List.map_append]
      congr 1
      simp only [List.map_cons, List.map_nil, pk, List.cons.injEq, and_true]
      congr 1
      · omega
      · rw [show ((i : Int) + 1 - 1).toNat = i by omega, List.getD_eq_getElem?_getD, List.getElem?_eq_getElem h]; rfl
    rw [hNapp] at hN93
    have hi1 : (i : Int) + 1 = ((i + 1 : Nat) : Int) := rfl
    refine new_of c93.mem fun w100 f100 b100 z100 => ?_
    have hrs : Rs w100 1 1 (.slice w93.size 0 1 1 none) [.int .i64 ((i : Int) + 1)] := .inr ⟨w93.size, 0, 1, none, _, rfl, b100.cells, by simp, rfl⟩
    have hcl : (((List.range i).map fun i : Nat => (i : Int) + 1).map (AV.int .i64)).length / 1 = i := by simp
    have hacc100 := hacc93.fr c93.mem f100 (Nat.le_refl _)
    have hN100 := hN93.fr c93.mem f100
    refine Acc.app hacc100 f100.mem (by omega) (by omega) (by decide) hrs (by rw [hcl]; omega) (by rw [hcl]; omega) fun nv' w102 hacc' hgrow => ?_
    refine ih (12 - (i + 1)) (by omega) _ _ ⟨i + 1, nv', rfl, by omega, h, by rw [wi_eq (by omega) (by omega)]; rfl, (f93.trans f100 (by omega)).trans hgrow.fr (Nat.le_refl _), ?_, ?_, fun j hj hji => ?_⟩
    · refine hN100.grow hacc100 (by decide) ?_ hgrow
      cases i with
      | zero => exact .inl rfl
      | succ i => rw [List.range_succ_eq_map]; exact .inr ⟨_, _, rfl, by simp, by simp⟩
    · rw [List.range_succ, List.map_append, List.map_append]; exact hacc'
    · by_cases e : j = i
      · subst e; exact hle
      · exact hlen j hj (by omega)
end Go.Proofs.Ytingojpcdpelaaa
