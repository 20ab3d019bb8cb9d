/-
  Bytes, numbers and rows that grow behind, wherever they lie; bytes cut; calls of what lies outside.
  No condition beyond those that each theorem names.
-/
import Derived.Test.YthpjoogmmjikmaaGreatDoorSxq
set_option linter.unusedVariables false
set_option linter.unusedSimpArgs false
/-! Bytes that grow behind, wherever they lie. -/
namespace Go.Sx
theorem asN_ofNat (k : Nat) : asN (.int .i64 (k : Int)) = some k := rfl
def Gw (X : Nat → Prop) (w : AW) (v : AV) (t : List UInt8) : Prop :=
  (v = .nilslice ∧ t = []) ∨ ∃ b f ex o d, v = .slice b 0 t.length t.length ex ∧ (ex = none ∨ ex = some 1) ∧ f ≠ 0 ∧ X f ∧ w.get b = some (.cells (cellsOfBytes t) f o d) ∧ w.root? f = some (f, b, false)
theorem Gw.of {X : Nat → Prop} {w : AW} {v : AV} {t : List UInt8} (h : BS 1 w v t) (hX : ∀ c, blk v = some c → X c) : Gw X w v t := by
  rcases h with h | ⟨c, ex, rfl, h2, h3, h4⟩
  · exact .inl h
  · exact .inr ⟨c, c, ex, c, false, rfl, h2, by omega, hX c rfl, h4, AW.root?_iff.2 ⟨_, h4, rfl⟩⟩
theorem Gw.rs {X : Nat → Prop} {w : AW} {v : AV} {t : List UInt8} (h : Gw X w v t) : RsB w v t := by
  rcases h with ⟨rfl, rfl⟩ | ⟨b, f, ex, o, d, rfl, _, _, _, h4, h5⟩
  · exact Rs.nil
  · refine .inr ⟨b, 0, _, ex, _, rfl, AW.cells?_iff.2 ⟨(f, b, false), o, d, AW.fam?_iff.2 ⟨_, o, d, h4, h5⟩, .inl rfl, h4⟩, by rw [cellsOfBytes_length]; omega, ?_⟩
    rw [List.drop_zero, List.take_of_length_le (by rw [cellsOfBytes_length]; omega)]
theorem Gw.ok {X : Nat → Prop} {w : AW} {v : AV} {t : List UInt8} (h : Gw X w v t) : okCell v = true := by
  rcases h with ⟨rfl, _⟩ | ⟨b, f, ex, o, d, rfl, _⟩ <;> rfl
theorem Gw.lt {X : Nat → Prop} {w : AW} {v : AV} {t : List UInt8} (h : Gw X w v t) (hm : Mem w) {c : Nat} (hc : blk v = some c) : c < w.size := by
  rcases h with ⟨rfl, _⟩ | ⟨b, f, ex, o, d, rfl, _, _, _, h4, _⟩
  · cases hc
  · simp only [blk, Option.some.injEq] at hc; subst hc; exact hm.lt _ _ h4
theorem Gw.fr {X : Nat → Prop} {w w' : AW} {v : AV} {t : List UInt8} (h : Gw X w v t) (hm : Mem w) (hf : Fr w.size w w') : Gw X w' v t := by
  rcases h with h | ⟨b, f, ex, o, d, h1, h2, h3, hx, h4, h5⟩
  · exact .inl h
  · obtain ⟨c0, hc0, _⟩ := AW.root?_iff.1 h5
    exact .inr ⟨b, f, ex, o, d, h1, h2, h3, hx, (hf.old _ (hm.lt _ _ h4)).trans h4, by rw [AW.root?_congr (hf.old _ (hm.lt _ _ hc0))]; exact h5⟩
theorem Gw.box {X : Nat → Prop} {w w' : AW} {v : AV} {t : List UInt8} {x : Nat} {cs : List AV} (h : Gw X w v t) (hm : Mem w) (hc : Ch [x] w w') (hb : Box w x cs) (hx : blk v ≠ some x) : Gw X w' v t := by
  rcases h with h | ⟨b, f, ex, o, d, rfl, h2, h3, hX, h4, h5⟩
  · exact .inl h
  · obtain ⟨c0, hc0, _⟩ := AW.root?_iff.1 h5
    simp only [] at hc0
    have e1 : b ≠ x := fun e => hx (by rw [e]; rfl)
    have e2 : f ≠ x := fun e => by
      subst e
      unfold Box at hb
      rw [hc0] at hb
      cases hb
      exact e1 rfl
    exact .inr ⟨b, f, ex, o, d, rfl, h2, h3, hX, (hc.old _ (hm.lt _ _ h4) (by simpa using e1)).trans h4, by rw [AW.root?_congr (hc.old _ (hm.lt _ _ hc0) (by simpa using e2))]; exact h5⟩
structure Gr (X : Nat → Prop) (v : AV) (w w' : AW) : Prop where
  size : w.size ≤ w'.size
  mem : Mem w'
  old : ∀ b, b < w.size → ¬ X b → w'.get b = w.get b
  cells : ∀ c all, w.cells? c = some all → w'.cells? c = some all
  gw : ∀ v2 t2, Gw X w v2 t2 → (∀ c, blk v2 = some c → blk v ≠ some c) → Gw X w' v2 t2
  box : ∀ c cs, Box w c cs → blk v ≠ some c → Box w' c cs
theorem Gr.of_fr {X : Nat → Prop} {v : AV} {w w' : AW} (hm : Mem w) (hf : Fr w.size w w') : Gr X v w w' :=
  ⟨hf.size, hf.mem, fun b hb _ => hf.old b hb, fun c all h => hf.cells hm h (Nat.le_refl _), fun v2 t2 h _ => h.fr hm hf, fun c cs h _ => h.fr hf (h.lt hm)⟩
theorem Gr.rs {X : Nat → Prop} {v : AV} {w w' : AW} (h : Gr X v w w') {sz n : Nat} {x : AV} {cs : List AV} (hx : Rs w sz n x cs) : Rs w' sz n x cs := by
  rcases hx with hx | ⟨b, o, cap, ex, all, h1, h2, h3, h4⟩
  · exact .inl hx
  · exact .inr ⟨b, o, cap, ex, all, h1, h.cells _ _ h2, h3, h4⟩
theorem Gw.app {X : Nat → Prop} {w : AW} {v : AV} {t : List UInt8} {x : UInt8} {nb : Nat} (h : Gw X w v t) (hm : Mem w) (hw : 0 < w.size) (hb : Box w nb [.int .u8 x.toNat]) (hX : ∀ f, w.size ≤ f → X f) (hs : t.length < 2 ^ 40)
    {K : AV → AW → Prop} (hK : ∀ v' w', Gw X w' v' (t ++ [x]) → blk v' = some w.size → Gr X v w w' → K v' w') : onE (appS 1 1 w v (.slice nb 0 1 1 none)) K := by
  have hsrc : srcCells w 1 (.slice nb 0 1 1 none) = some (1, [.int .u8 x.toNat]) := by
    have : Rs w 1 1 (.slice nb 0 1 1 none) [.int .u8 x.toNat] := .inr ⟨nb, 0, 1, none, _, rfl, hb.cells, by simp, rfl⟩
    exact this.read
  have hcs : cellsOfBytes t ++ [AV.int .u8 x.toNat] = cellsOfBytes (t ++ [x]) := by rw [cellsOfBytes_append]; rfl
  have e1 : Nat.blt ((2 * (t.length + 1) + 1000) * 1) room = true := by rw [Nat.blt_eq]; unfold room; omega
  have e2 : Nat.blt (t.length + 1) (2 ^ 62) = true := by rw [Nat.blt_eq]; omega
  have e0 : Nat.ble (t.length + 1) t.length = false := by
    cases he : Nat.ble (t.length + 1) t.length with
    | false => rfl
    | true => rw [Nat.ble_eq] at he; omega
  have hlen : (t ++ [x]).length = t.length + 1 := by simp
  rcases h with ⟨rfl, rfl⟩ | ⟨b, f, ex, o, d, rfl, h2, h3, hXf, h4, h5⟩
  · refine onE_s (v := .slice w.size 0 1 1 (some 1)) (w := newCells w [.int .u8 x.toNat]) ?_ (hK _ _ ?_ rfl (Gr.of_fr hm (Fr.push hm fun cs' f own d e => by cases e; exact Nat.le_refl _)))
    · simp only [appS, hsrc, Option.bind_some]; rfl
    · have hb' : Box (newCells w [.int .u8 x.toNat]) w.size (cellsOfBytes [x]) := by simp [Box, newCells, cellsAO, cellsOfBytes]
      exact .inr ⟨w.size, w.size, some 1, w.size, false, rfl, .inr rfl, by omega, hX _ (Nat.le_refl _), hb', AW.root?_iff.2 ⟨_, hb', rfl⟩⟩
  · have hfam : w.fam? b = some (f, b, false) := AW.fam?_iff.2 ⟨_, o, d, h4, h5⟩
    have hcells : w.cells? b = some (cellsOfBytes t) := AW.cells?_iff.2 ⟨(f, b, false), o, d, hfam, .inl rfl, h4⟩
    have htake : takeCells (cellsOfBytes t) 0 (t.length * 1) = some (cellsOfBytes t) := by
      rw [takeCells_some (by rw [cellsOfBytes_length]; omega), List.drop_zero, List.take_of_length_le (by rw [cellsOfBytes_length]; omega)]
    rcases h2 with rfl | rfl
    · refine onE_s (v := .slice w.size 0 (t.length + 1) (t.length + 1) (some 1)) (w := newCells w (cellsOfBytes t ++ [.int .u8 x.toNat])) ?_ (hK _ _ ?_ rfl (Gr.of_fr hm (Fr.push hm fun cs' f own d e => by cases e; exact Nat.le_refl _)))
      · simp only [appS, hsrc, Option.bind_some, show Nat.beq 1 0 = false from rfl, cond_false, okSrc, guardO, e0, e1, e2, growA, hcells, htake]; rfl
      · rw [hcs]
        have hb' : Box (newCells w (cellsOfBytes (t ++ [x]))) w.size (cellsOfBytes (t ++ [x])) := by simp [Box, newCells, cellsAO]
        exact .inr ⟨w.size, w.size, some 1, w.size, false, by rw [hlen], .inr rfl, by omega, hX _ (Nat.le_refl _), hb', AW.root?_iff.2 ⟨_, hb', rfl⟩⟩
    · obtain ⟨c0, hc0, _⟩ := AW.root?_iff.1 h5
      simp only [] at hc0
      have hblt := hm.lt _ _ h4
      have hflt := hm.lt _ _ hc0
      let w1 := w.set f (.cells c0 f w.size false)
      let w' := w1.push (.cells (cellsOfBytes (t ++ [x])) f 0 false)
      have hset : w.setFam f w.size false = w1 := by unfold AW.setFam; rw [hc0]
      have happ : appS 1 1 w (.slice b 0 t.length t.length (some 1)) (.slice nb 0 1 1 none) = some (.slice w.size 0 (t.length + 1) (t.length + 1) (some 1), w') := by
        have e3 : Nat.beq (0 + t.length * 1) (cellsOfBytes t).length = true := by rw [Nat.zero_add, Nat.mul_one, cellsOfBytes_length]; simp
        simp only [appS, hsrc, Option.bind_some, show Nat.beq 1 0 = false from rfl, cond_false, okSrc, guardO, e0, e1, e2, growA, hcells, htake, Nat.beq_refl, Bool.true_and, e3, cond_true, AW.heir, hfam, hcs]
        rw [if_pos ⟨h3, trivial⟩, hset]
        rfl
      have hm1 : Mem w1 := hm.set hflt fun cs f own d e => by cases e; exact Nat.le_refl _
      have hm' : Mem w' := hm1.push fun cs f own d e => by cases e; simpa [w1] using Nat.le_of_lt hflt
      have hget : ∀ c, w'.get c = if c = w.size then some (.cells (cellsOfBytes (t ++ [x])) f 0 false) else if c = f then some (.cells c0 f w.size false) else w.get c := fun c => by
        simp only [w', w1, AW.push_get, AW.set_get, AW.set_size]
      have hroot : w'.root? f = some (f, w.size, false) := AW.root?_iff.2 ⟨c0, by rw [hget, if_neg (by omega), if_pos rfl], rfl⟩
      have hcellsK : ∀ c all, w.cells? c = some all → w'.cells? c = some all := fun c all h => by
        obtain ⟨y, o', d', g1, g2, g3⟩ := AW.cells?_iff.1 h
        have hclt := hm.lt _ _ g3
        by_cases hyf : y.1 = f
        · refine AW.cells?_iff.2 ⟨(f, w.size, false), if c = f then w.size else o', if c = f then false else d', AW.fam?_iff.2 ⟨all, if c = f then w.size else o', if c = f then false else d', ?_, hroot⟩, .inl rfl, ?_⟩
          all_goals
            rw [hget, if_neg (by omega)]
            by_cases hcf : c = f
            · subst hcf
              rw [if_pos rfl, if_pos rfl, if_pos rfl]
              rw [hc0] at g3
              cases g3
              rfl
            · rw [if_neg hcf, if_neg hcf, if_neg hcf]
              rw [g3, hyf]
        · have hylt : y.1 < w.size := Nat.lt_of_le_of_lt (hm.fam _ _ _ _ _ g3) hclt
          have hcf : c ≠ f := fun e => by
            subst e
            rw [hc0] at g3
            cases g3
            exact hyf rfl
          rw [AW.cells?_congr g1 (by rw [hget, if_neg (by omega), if_neg hcf]) (by rw [hget, if_neg (by omega), if_neg hyf])]
          exact h
      refine onE_s happ (hK _ _ ?_ rfl ⟨by simp [w', w1], hm', fun c hc hx => ?_, hcellsK, fun v2 t2 ha hne => ?_, fun c cs' hc hne => ?_⟩)
      · exact .inr ⟨w.size, f, some 1, 0, false, by rw [hlen], .inr rfl, h3, hXf, by rw [hget, if_pos rfl], hroot⟩
      · rw [hget, if_neg (by omega), if_neg (fun e : c = f => hx (e ▸ hXf))]
      · rcases ha with ha | ⟨b2, f2, ex2, o2, d2, rfl, g1, g2, g3, g5, g6⟩
        · exact .inl ha
        · obtain ⟨c2', hc2, _⟩ := AW.root?_iff.1 g6
          simp only [] at hc2
          have hb2l := hm.lt _ _ g5
          have hf2l := hm.lt _ _ hc2
          have hff : f2 ≠ f := fun e => by
            subst e
            rw [hc0] at hc2
            cases hc2
            exact hne _ rfl rfl
          have hbf : b2 ≠ f := fun e => by
            subst e
            rw [hc0] at g5
            cases g5
            exact hff rfl
          exact .inr ⟨b2, f2, ex2, o2, d2, rfl, g1, g2, g3, by rw [hget, if_neg (by omega), if_neg hbf]; exact g5, AW.root?_iff.2 ⟨c2', by rw [hget, if_neg (by omega), if_neg hff]; exact hc2, rfl⟩⟩
      · have hcl := hc.lt hm
        have hcf : c ≠ f := fun e => by
          subst e
          have hc' : w.get c = some (.cells cs' c c false) := hc
          rw [hc0] at hc'
          cases hc'
          exact hne rfl
        unfold Box
        rw [hget, if_neg (by omega), if_neg hcf]; exact hc
theorem idx0 {b n cap k : Nat} {ex : Option Nat} (hk : k < n) {K : Nat → Nat → Prop} (hK : K b k) : atP (idxS 1 (.slice b 0 n cap ex) (.int .i64 (k : Int))) K := by
  rw [atP_iff]
  have hb : Nat.blt k n = true := by simp [Nat.blt_eq, hk]
  refine ⟨b, 0 + k * 1, ?_, by simpa using hK⟩
  show (asN (.int .i64 (Int.ofNat k))).bind _ = _
  simp only [asN, Option.bind_some, hb, guardO, cond_true]
theorem BS.ch1 {n0 x : Nat} {w w' : AW} {v : AV} {s : List UInt8} (h : BS n0 w v s) (hm : Mem w) (hc : Ch [x] w w') (hne : blk v ≠ some x) : BS n0 w' v s := by
  rcases h with h | ⟨c, ex, rfl, h2, h3, h4⟩
  · exact .inl h
  · exact .inr ⟨c, ex, rfl, h2, h3, hc.box hm h4 (by simp; intro e; exact hne (by rw [← e]; rfl))⟩
theorem bytes_set (l : List UInt8) (i : Nat) (x : UInt8) (hi : i < l.length) : listPut (cellsOfBytes l) i [.int .u8 x.toNat] = cellsOfBytes (l.set i x) := by
  rw [List.set_eq_take_append_cons_drop, if_pos hi]
  simp [listPut, cellsOfBytes]
theorem Rs.box {w w' : AW} {sz n x : Nat} {v : AV} {cs bs bs' : List AV} (h : Rs w sz n v cs) (hm : Mem w) (hc : Ch [x] w w') (hb : Box w x bs) (hb' : Box w' x bs') (hx : blk v ≠ some x) : Rs w' sz n v cs := by
  rcases h with h | ⟨b, o, cap, ex, all, rfl, h2, h3, h4⟩
  · exact .inl h
  · refine .inr ⟨b, o, cap, ex, all, rfl, ?_, h3, h4⟩
    obtain ⟨y, o', d', g1, g2, g3⟩ := AW.cells?_iff.1 h2
    have e1 : b ≠ x := fun e => hx (by rw [e]; rfl)
    obtain ⟨c0, hc0, _⟩ := AW.root?_iff.1 (AW.fam?_root g1)
    have hroot : w'.root? y.1 = w.root? y.1 := by
      by_cases e2 : y.1 = x
      · rw [e2]
        have r1 : w.root? x = some (x, x, false) := AW.root?_iff.2 ⟨bs, hb, rfl⟩
        have r2 : w'.root? x = some (x, x, false) := AW.root?_iff.2 ⟨bs', hb', rfl⟩
        rw [r1, r2]
      · exact AW.root?_congr (hc.old _ (hm.lt _ _ hc0) (by simpa using e2))
    have hgb : w'.get b = w.get b := hc.old _ (hm.lt _ _ g3) (by simpa using e1)
    refine AW.cells?_iff.2 ⟨y, o', d', AW.fam?_iff.2 ⟨all, o', d', hgb.trans g3, hroot.trans (AW.fam?_root g1)⟩, g2, hgb.trans g3⟩
theorem imin_nat (a b : Nat) : imin (a : Int) (b : Int) = ((min a b : Nat) : Int) := by unfold imin; split <;> omega
theorem ble_of {a b : Nat} (h : a ≤ b) : Nat.ble a b = true := by rw [Nat.ble_eq]; exact h
end Go.Sx
/-! Numbers that grow behind and are written. -/
namespace Go.Sx
def Gi (n0 : Nat) (w : AW) (v : AV) (l : List Int) : Prop :=
  (v = .nilslice ∧ l = []) ∨ ∃ b f o d d', v = .slice b 0 l.length l.length (some 1) ∧ l ≠ [] ∧ n0 ≤ f ∧ f ≠ 0 ∧ w.get b = some (.cells (l.map (AV.int .i64)) f o d) ∧ w.root? f = some (f, b, d')
theorem Gi.nil {n0 : Nat} {w : AW} : Gi n0 w .nilslice [] := .inl ⟨rfl, rfl⟩
theorem Gi.cells {w : AW} {b f o : Nat} {d d' : Bool} {cs : List AV} (h4 : w.get b = some (.cells cs f o d)) (h5 : w.root? f = some (f, b, d')) : w.cells? b = some cs :=
  AW.cells?_iff.2 ⟨(f, b, d'), o, d, AW.fam?_iff.2 ⟨_, o, d, h4, h5⟩, .inr rfl, h4⟩
theorem Gi.rs {n0 : Nat} {w : AW} {v : AV} {l : List Int} (h : Gi n0 w v l) : RsI w v l := by
  rcases h with ⟨rfl, rfl⟩ | ⟨b, f, o, d, d', rfl, _, _, _, h4, h5⟩
  · exact Rs.nil
  · exact .inr ⟨b, 0, _, _, _, rfl, Gi.cells h4 h5, by simp, by rw [List.drop_zero, List.take_of_length_le (by simp)]⟩
theorem Gi.ok {n0 : Nat} {w : AW} {v : AV} {l : List Int} (h : Gi n0 w v l) : okCell v = true := by
  rcases h with ⟨rfl, _⟩ | ⟨b, f, o, d, d', rfl, _⟩ <;> rfl
theorem Gi.keep {n0 : Nat} {w w' : AW} {v : AV} {l : List Int} (h : Gi n0 w v l) (hm : Mem w) (hc : ∀ c, n0 ≤ c → c < w.size → w'.get c = w.get c) : Gi n0 w' v l := by
  rcases h with h | ⟨b, f, o, d, d', h1, h2, h3, hx, h4, h5⟩
  · exact .inl h
  · obtain ⟨c0, hc0, _⟩ := AW.root?_iff.1 h5
    have hfb := hm.fam _ _ _ _ _ h4
    exact .inr ⟨b, f, o, d, d', h1, h2, h3, hx, (hc _ (by omega) (hm.lt _ _ h4)).trans h4, by rw [AW.root?_congr (hc _ h3 (hm.lt _ _ hc0))]; exact h5⟩
structure GiR (n0 : Nat) (w w' : AW) : Prop where
  fr : Fr n0 w w'
  bytes : ∀ c s, Box w c (cellsOfBytes s) → Box w' c (cellsOfBytes s)
theorem Gi.app {n0 : Nat} {w : AW} {v : AV} {l : List Int} {x : Int} {nb : Nat} (h : Gi n0 w v l) (hm : Mem w) (hw : 0 < w.size) (hn : n0 ≤ w.size) (hb : Box w nb [.int .i64 x]) (hs : l.length < 2 ^ 30)
    {K : AV → AW → Prop} (hK : ∀ v' w', Gi n0 w' v' (l ++ [x]) → GiR n0 w w' → K v' w') : onE (appS 1 8 w v (.slice nb 0 1 1 none)) K := by
  have hsrc : srcCells w 1 (.slice nb 0 1 1 none) = some (1, [.int .i64 x]) := by
    have : Rs w 1 1 (.slice nb 0 1 1 none) [.int .i64 x] := .inr ⟨nb, 0, 1, none, _, rfl, hb.cells, by simp, rfl⟩
    exact this.read
  have hcs : l.map (AV.int .i64) ++ [AV.int .i64 x] = (l ++ [x]).map (AV.int .i64) := by simp
  have hlen : (l ++ [x]).length = l.length + 1 := by simp
  rcases h with ⟨rfl, rfl⟩ | ⟨b, f, o, d, d', rfl, hl, hf, hf0, h4, h5⟩
  · have hfr : Fr w.size w (newCells w [.int .i64 x]) := Fr.push hm fun cs' f own d e => by cases e; exact Nat.le_refl _
    refine onE_s (v := .slice w.size 0 1 1 (some 1)) (w := newCells w [.int .i64 x]) ?_ (hK _ _ ?_ ⟨hfr.le hn, fun c s h => h.fr hfr (h.lt hm)⟩)
    · simp only [appS, hsrc, Option.bind_some]; rfl
    · have hb' : Box (newCells w [.int .i64 x]) w.size ([x].map (AV.int .i64)) := by simp [Box, newCells, cellsAO]
      exact .inr ⟨w.size, w.size, w.size, false, false, rfl, by simp, hn, by omega, hb', AW.root?_iff.2 ⟨_, hb', rfl⟩⟩
  · have e1 : Nat.blt ((2 * (l.length + 1) + 1000) * 8) room = true := by rw [Nat.blt_eq]; unfold room; omega
    have e2 : Nat.blt (l.length + 1) (2 ^ 62) = true := by rw [Nat.blt_eq]; omega
    have e0 : Nat.ble (l.length + 1) l.length = false := by
      cases he : Nat.ble (l.length + 1) l.length with
      | false => rfl
      | true => rw [Nat.ble_eq] at he; omega
    obtain ⟨c0, hc0, _⟩ := AW.root?_iff.1 h5
    simp only [] at hc0
    have hblt := hm.lt _ _ h4
    have hflt := hm.lt _ _ hc0
    have hfam : w.fam? b = some (f, b, d') := AW.fam?_iff.2 ⟨_, o, d, h4, h5⟩
    have hcells := Gi.cells h4 h5
    have htake : takeCells (l.map (AV.int .i64)) 0 (l.length * 1) = some (l.map (AV.int .i64)) := by
      rw [takeCells_some (by simp), List.drop_zero, List.take_of_length_le (by simp)]
    let w1 := w.set f (.cells c0 f w.size d')
    let w' := w1.push (.cells ((l ++ [x]).map (AV.int .i64)) f 0 false)
    have hset : w.setFam f w.size d' = w1 := by unfold AW.setFam; rw [hc0]
    have happ : appS 1 8 w (.slice b 0 l.length l.length (some 1)) (.slice nb 0 1 1 none) = some (.slice w.size 0 (l.length + 1) (l.length + 1) (some 1), w') := by
      have e3 : Nat.beq (0 + l.length * 1) (l.map (AV.int .i64)).length = true := by simp
      simp only [appS, hsrc, Option.bind_some, show Nat.beq 1 0 = false from rfl, cond_false, okSrc, guardO, e0, e1, e2, growA, hcells, htake, Nat.beq_refl, Bool.true_and, e3, cond_true, AW.heir, hfam, hcs]
      rw [if_pos ⟨hf0, trivial⟩, hset]
      rfl
    have hm1 : Mem w1 := hm.set hflt fun cs f own d e => by cases e; exact Nat.le_refl _
    have hm' : Mem w' := hm1.push fun cs f own d e => by cases e; simpa [w1] using Nat.le_of_lt hflt
    have hget : ∀ c, w'.get c = if c = w.size then some (.cells ((l ++ [x]).map (AV.int .i64)) f 0 false) else if c = f then some (.cells c0 f w.size d') else w.get c := fun c => by
      simp only [w', w1, AW.push_get, AW.set_get, AW.set_size]
    have hroot : w'.root? f = some (f, w.size, d') := AW.root?_iff.2 ⟨c0, by rw [hget, if_neg (by omega), if_pos rfl], rfl⟩
    refine onE_s happ (hK _ _ ?_ ⟨⟨by simp [w', w1], fun c hc => ?_, hm'⟩, fun c s h => ?_⟩)
    · exact .inr ⟨w.size, f, 0, false, d', by rw [hlen], by simp, hf, hf0, by rw [hget, if_pos rfl], hroot⟩
    · rw [hget, if_neg (by omega), if_neg (by omega)]
    · have hcl := h.lt hm
      have hcf : c ≠ f := fun e => by
        subst e
        unfold Box at h
        rw [hc0] at h
        cases h
        rw [hc0] at h4
        simp only [Option.some.injEq, AO.cells.injEq] at h4
        have e := h4.1
        cases l with
        | nil => exact hl rfl
        | cons a l => cases s with
          | nil => simp [cellsOfBytes] at e
          | cons c s => simp [cellsOfBytes] at e
      unfold Box
      rw [hget, if_neg (by omega), if_neg hcf]; exact h
theorem ints_set (l : List Int) (i : Nat) (x : Int) (hi : i < l.length) : listPut (l.map (AV.int .i64)) i [.int .i64 x] = (l.set i x).map (AV.int .i64) := by
  rw [List.set_eq_take_append_cons_drop, if_pos hi]
  simp [listPut, List.map_take, List.map_drop]
theorem Gi.put {n0 : Nat} {w : AW} {v : AV} {l : List Int} {k : Nat} (h : Gi n0 w v l) (hm : Mem w) (hk : k < l.length) {K : Nat → Nat → Prop}
    (hK : ∀ b, ld w b k = some (.int .i64 l[k]) → (∀ (x : Int) (K' : AW → Prop), (∀ w', Gi n0 w' v (l.set k x) → GiR n0 w w' → w'.size = w.size → K' w') → onM (w.putCells b k [.int .i64 x]) K') → K b k) : atP (idxS 1 v (.int .i64 (k : Int))) K := by
  rcases h with ⟨rfl, rfl⟩ | ⟨b, f, o, d, d', rfl, hl, hf, hf0, h4, h5⟩
  · simp at hk
  refine idx0 hk (hK b ?_ fun x K' hK' => ?_)
  · simp only [ld, Gi.cells h4 h5, Option.bind_some]; simp [hk]
  · obtain ⟨c0, hc0, _⟩ := AW.root?_iff.1 h5
    simp only [] at hc0
    have hblt := hm.lt _ _ h4
    have hflt := hm.lt _ _ hc0
    have hfam : w.fam? b = some (f, b, d') := AW.fam?_iff.2 ⟨_, o, d, h4, h5⟩
    have hcells := Gi.cells h4 h5
    have hset := ints_set l k x hk
    have hfb := hm.fam _ _ _ _ _ h4
    have hbytes : ∀ (w' : AW), (∀ c, c ≠ b → c ≠ f → w'.get c = w.get c) → ∀ c s, Box w c (cellsOfBytes s) → Box w' c (cellsOfBytes s) := fun w' hw' c s h => by
      have hcb : c ≠ b := fun e => by
        subst e
        unfold Box at h
        rw [h4] at h
        cases l with
        | nil => exact hl rfl
        | cons a l => cases s with
          | nil => simp [cellsOfBytes] at h
          | cons c s => simp [cellsOfBytes] at h
      have hcf : c ≠ f := fun e => by
        subst e
        unfold Box at h
        rw [hc0] at h
        cases h
        exact hcb rfl
      unfold Box
      rw [hw' c hcb hcf]; exact h
    unfold AW.putCells
    rw [hfam, hcells]
    simp only []
    rw [if_neg (by simp; omega)]
    by_cases hc : f = b ∧ True ∧ d' = false
    · rw [if_pos hc]
      obtain ⟨rfl, _, rfl⟩ := hc
      rw [hc0] at h4
      cases h4
      have hsc : w.setCs f (listPut (l.map (AV.int .i64)) k [.int .i64 x]) = w.set f (.cells ((l.set k x).map (AV.int .i64)) f f false) := by
        unfold AW.setCs; rw [hc0, hset]
      rw [hsc]
      refine onM_s rfl (hK' _ (.inr ⟨f, f, f, false, false, by rw [List.length_set], by simpa using hl, hf, hf0, by simp, AW.root?_iff.2 ⟨_, by rw [AW.set_get, if_pos rfl], rfl⟩⟩) ⟨⟨Nat.le_refl _, fun c hc => by rw [AW.set_get, if_neg (by omega)], hm.set hflt fun cs f own d e => by cases e; exact Nat.le_refl _⟩, hbytes _ fun c h1 _ => by rw [AW.set_get, if_neg h1]⟩ rfl)
    · rw [if_neg hc]
      have hsf : w.setFam f b true = w.set f (.cells c0 f b true) := by unfold AW.setFam; rw [hc0]
      have hm1 : Mem (w.set f (.cells c0 f b true)) := hm.set hflt fun cs f own d e => by cases e; exact Nat.le_refl _
      by_cases hbf : b = f
      · subst hbf
        rw [hc0] at h4
        cases h4
        have hsc : (w.setFam b b true).setCs b (listPut (l.map (AV.int .i64)) k [.int .i64 x]) = (w.set b (.cells (l.map (AV.int .i64)) b b true)).set b (.cells ((l.set k x).map (AV.int .i64)) b b true) := by
          rw [hsf]; unfold AW.setCs; rw [AW.set_get, if_pos rfl, hset]
        rw [hsc]
        refine onM_s rfl (hK' _ (.inr ⟨b, b, b, true, true, by rw [List.length_set], by simpa using hl, hf, hf0, by simp, AW.root?_iff.2 ⟨_, by rw [AW.set_get, if_pos rfl], rfl⟩⟩) ⟨⟨Nat.le_refl _, fun c hc => by rw [AW.set_get, if_neg (by omega), AW.set_get, if_neg (by omega)], hm1.set (by simpa using hflt) fun cs f own d e => by cases e; exact Nat.le_refl _⟩, hbytes _ fun c h1 _ => by rw [AW.set_get, if_neg h1, AW.set_get, if_neg h1]⟩ rfl)
      · have hsc : (w.setFam f b true).setCs b (listPut (l.map (AV.int .i64)) k [.int .i64 x]) = (w.set f (.cells c0 f b true)).set b (.cells ((l.set k x).map (AV.int .i64)) f o d) := by
          rw [hsf]; unfold AW.setCs; rw [AW.set_get, if_neg hbf, h4, hset]
        rw [hsc]
        refine onM_s rfl (hK' _ (.inr ⟨b, f, o, d, true, by rw [List.length_set], by simpa using hl, hf, hf0, by simp, AW.root?_iff.2 ⟨c0, by rw [AW.set_get, if_neg (Ne.symm hbf), AW.set_get, if_pos rfl], rfl⟩⟩) ⟨⟨Nat.le_refl _, fun c hc => by rw [AW.set_get, if_neg (by omega), AW.set_get, if_neg (by omega)], hm1.set (by simpa using hblt) fun cs f own d e => by cases e; exact hfb⟩, hbytes _ fun c h1 h2 => by rw [AW.set_get, if_neg h1, AW.set_get, if_neg h2]⟩ rfl)
end Go.Sx
/-! Rows of any cells that grow behind; byte blocks that stay; maps in memory. -/
namespace Go.Sx
def Gc (Q : Nat → Prop) (sz : Nat) (w : AW) (v : AV) (cs : List AV) : Prop :=
  (v = .nilslice ∧ cs = []) ∨ ∃ b f n ex o d, v = .slice b 0 n n ex ∧ n * sz = cs.length ∧ (ex = none ∨ ex = some sz) ∧ Q f ∧ f ≠ 0 ∧ w.get b = some (.cells cs f o d) ∧ w.root? f = some (f, b, false)
theorem Gc.nil {Q : Nat → Prop} {sz : Nat} {w : AW} : Gc Q sz w .nilslice [] := .inl ⟨rfl, rfl⟩
theorem Gc.le {Q Q' : Nat → Prop} {sz : Nat} {w : AW} {v : AV} {cs : List AV} (h : Gc Q sz w v cs) (hn : ∀ f, Q f → Q' f) : Gc Q' sz w v cs := by
  rcases h with h | ⟨b, f, n, ex, o, d, h1, h2, h3, h4, h5, h6⟩
  · exact .inl h
  · exact .inr ⟨b, f, n, ex, o, d, h1, h2, h3, hn _ h4, h5, h6⟩
theorem Gc.ok {Q : Nat → Prop} {sz : Nat} {w : AW} {v : AV} {cs : List AV} (h : Gc Q sz w v cs) : okCell v = true := by
  rcases h with ⟨rfl, _⟩ | ⟨b, f, n, ex, o, d, rfl, _⟩ <;> rfl
theorem Gc.rs {Q : Nat → Prop} {sz k : Nat} {w : AW} {v : AV} {cs : List AV} (h : Gc Q sz w v cs) (hs : 0 < sz) (hk : cs.length = k * sz) : Rs w sz k v cs := by
  rcases h with ⟨rfl, rfl⟩ | ⟨b, f, n, ex, o, d, rfl, h2, h3, h4, h5, h6, h7⟩
  · have : k = 0 := by
      rcases Nat.mul_eq_zero.1 hk.symm with h | h <;> omega
    subst this; exact Rs.nil
  · have : n = k := Nat.eq_of_mul_eq_mul_right hs (h2.trans hk)
    subst this
    refine .inr ⟨b, 0, n, ex, cs, rfl, AW.cells?_iff.2 ⟨(f, b, false), o, d, AW.fam?_iff.2 ⟨cs, o, d, h6, h7⟩, .inl rfl, h6⟩, by omega, ?_⟩
    rw [List.drop_zero, h2, List.take_length]
theorem Gc.keep {Q : Nat → Prop} {sz : Nat} {w w' : AW} {v : AV} {cs : List AV} (h : Gc Q sz w v cs) (hm : Mem w) (hc : ∀ c, c < w.size → (Q c ∨ blk v = some c) → w'.get c = w.get c) : Gc Q sz w' v cs := by
  rcases h with h | ⟨b, f, n, ex, o, d, h1, h2, h3, h4, h5, h6, h7⟩
  · exact .inl h
  · obtain ⟨c0, hc0, _⟩ := AW.root?_iff.1 h7
    exact .inr ⟨b, f, n, ex, o, d, h1, h2, h3, h4, h5, (hc _ (hm.lt _ _ h6) (.inr (by rw [h1]; rfl))).trans h6, by rw [AW.root?_congr (hc _ (hm.lt _ _ hc0) (.inl h4))]; exact h7⟩
theorem Gc.fr {Q : Nat → Prop} {sz : Nat} {w w' : AW} {v : AV} {cs : List AV} (h : Gc Q sz w v cs) (hm : Mem w) (hf : Fr w.size w w') : Gc Q sz w' v cs := h.keep hm fun c hc _ => hf.old c hc
theorem Gc.ch {Q : Nat → Prop} {sz : Nat} {X : List Nat} {w w' : AW} {v : AV} {cs : List AV} (h : Gc Q sz w v cs) (hm : Mem w) (hc : Ch X w w') (hX : ∀ x ∈ X, (∃ es cl, w.get x = some (.map es cl)) ∨ ∃ c, Box w x c ∧ blk v ≠ some x) : Gc Q sz w' v cs := by
  rcases h with h | ⟨b, f, n, ex, o, d, rfl, h2, h3, h4, h5, h6, h7⟩
  · exact .inl h
  · obtain ⟨c0, hc0, _⟩ := AW.root?_iff.1 h7
    simp only [] at hc0
    have hb : b ∉ X := fun hx => by
      rcases hX b hx with ⟨es, cl, g⟩ | ⟨c, g, hne⟩
      · rw [h6] at g; cases g
      · exact hne rfl
    have hf : f ∉ X := fun hx => by
      rcases hX f hx with ⟨es, cl, g⟩ | ⟨c, g, hne⟩
      · rw [hc0] at g; cases g
      · unfold Box at g; rw [hc0] at g; cases g; exact hb hx
    exact .inr ⟨b, f, n, ex, o, d, rfl, h2, h3, h4, h5, (hc.old _ (hm.lt _ _ h6) hb).trans h6, by rw [AW.root?_congr (hc.old _ (hm.lt _ _ hc0) hf)]; exact h7⟩
structure GrC (Q : Nat → Prop) (v : AV) (w w' : AW) : Prop where
  size : w.size ≤ w'.size
  mem : Mem w'
  old : ∀ c, c < w.size → ¬ Q c → w'.get c = w.get c
  cells : ∀ c all, w.cells? c = some all → w'.cells? c = some all
  box : ∀ c cs, Box w c cs → blk v ≠ some c → Box w' c cs
  obj : ∀ c o, w.get c = some o → (∀ cs f own d, o ≠ .cells cs f own d) → w'.get c = some o
  fam : ∀ c cs f o d, w.get c = some (.cells cs f o d) → ¬ Q f → w'.get c = w.get c
  fml : ∀ c cs f o d, w.get c = some (.cells cs f o d) → ∃ cs' o' d', w'.get c = some (.cells cs' f o' d')
theorem GrC.of_fr {Q : Nat → Prop} {v : AV} {w w' : AW} (hm : Mem w) (hf : Fr w.size w w') : GrC Q v w w' :=
  ⟨hf.size, hf.mem, fun c hc _ => hf.old c hc, fun c all h => hf.cells hm h (Nat.le_refl _), fun c cs h _ => h.fr hf (h.lt hm), fun c o h _ => (hf.old c (hm.lt _ _ h)).trans h, fun c cs f o d h _ => hf.old c (hm.lt _ _ h), fun c cs f o d h => ⟨cs, o, d, (hf.old c (hm.lt _ _ h)).trans h⟩⟩
structure Bhd (w : AW) (sz k : Nat) (x : AV) (new : List AV) : Prop where
  read : srcCells w sz x = some (k, new)
  length : new.length = k * sz
  ok : okSrc x new = true
theorem Rs.src {w : AW} {sz k : Nat} {x : AV} {new : List AV} (hx : Rs w sz k x new) : Bhd w sz k x new := ⟨hx.read, hx.length, by
  rcases hx with ⟨rfl, rfl, rfl⟩ | ⟨b, o, cap, ex, all, rfl, _⟩ <;> rfl⟩
theorem Gc.appSrc {Q : Nat → Prop} {sz bytes k : Nat} {w : AW} {v x : AV} {cs new : List AV} (h : Gc Q sz w v cs) (hm : Mem w) (hn0 : Q w.size) (hw : 0 < w.size) (hs : 0 < sz) (hx : Bhd w sz k x new)
    (hb : (2 * (cs.length / sz + k) + 1000) * bytes < 2 ^ 48) (hb2 : cs.length / sz + k < 2 ^ 62) {K : AV → AW → Prop}
    (hK : ∀ v' w', Gc Q sz w' v' (cs ++ new) → GrC Q v w w' → (∀ c, blk v' = some c → c < w.size → v' = v) → K v' w') : onE (appS sz bytes w v x) K := by
  have hl := hx.length
  by_cases hk : k = 0
  · subst hk
    have hnil : new = [] := by simpa using hl
    subst hnil
    refine onE_s (v := v) (w := w) ?_ (hK v w (by simpa using h) (GrC.of_fr hm (Fr.refl hm)) fun _ _ _ => rfl)
    simp only [appS, hx.read, Option.bind_some]
    rcases h with ⟨rfl, _⟩ | ⟨b, f, n, ex, o, d, rfl, _⟩ <;> rfl
  have hk0 : Nat.beq k 0 = false := beq_ff hk
  have hsz : (!Nat.beq sz 0) = true := by rw [beq_ff (by omega)]; rfl
  have hsrc : okSrc x new = true := hx.ok
  have hnb : k * bytes ≤ (2 * (cs.length / sz + k) + 1000) * bytes := Nat.mul_le_mul_right _ (by generalize cs.length / sz = q; omega)
  rcases h with ⟨rfl, rfl⟩ | ⟨b, f, n, ex, o, d, rfl, h1, hex, h2, h3, h4, h5⟩
  · have hfr : Fr w.size w (newCells w new) := Fr.push hm fun cs' f own d e => by cases e; exact Nat.le_refl _
    refine onE_s (v := .slice w.size 0 k k (some sz)) (w := newCells w new) ?_ (hK _ _ ?_ (GrC.of_fr hm hfr) fun c hc hlt => ?_)
    · simp only [appS, hx.read, Option.bind_some, hk0, cond_false, hsz, hsrc, Bool.true_and, guardO, cond_true]
      have e1 : Nat.ble (k * bytes) room = true := by rw [Nat.ble_eq]; unfold room; omega
      have e2 : Nat.blt k (2 ^ 62) = true := by rw [Nat.blt_eq]; simp at hb2; omega
      rw [e1, e2]; rfl
    · have hb : Box (newCells w new) w.size new := by simp [Box, newCells, cellsAO]
      exact .inr ⟨w.size, w.size, k, some sz, w.size, false, rfl, by simp [hl], .inr rfl, hn0, by omega, hb, AW.root?_iff.2 ⟨_, hb, rfl⟩⟩
    · simp only [blk, Option.some.injEq] at hc; omega
  · have hdiv : cs.length / sz = n := by rw [← h1]; exact Nat.mul_div_cancel _ hs
    rw [hdiv] at hb hb2
    obtain ⟨c0, hc0, _⟩ := AW.root?_iff.1 h5
    simp only [] at hc0
    have hblt := hm.lt _ _ h4
    have hflt := hm.lt _ _ hc0
    have hfam : w.fam? b = some (f, b, false) := AW.fam?_iff.2 ⟨cs, o, d, h4, h5⟩
    have hcells : w.cells? b = some cs := AW.cells?_iff.2 ⟨(f, b, false), o, d, hfam, .inl rfl, h4⟩
    have e0 : Nat.ble (n + k) n = false := by
      cases he : Nat.ble (n + k) n with
      | false => rfl
      | true => rw [Nat.ble_eq] at he; omega
    have e1 : Nat.blt ((2 * (n + k) + 1000) * bytes) room = true := by rw [Nat.blt_eq]; unfold room; exact hb
    have e2 : Nat.blt (n + k) (2 ^ 62) = true := by rw [Nat.blt_eq]; exact hb2
    have e4 : takeCells cs 0 (n * sz) = some cs := by rw [takeCells_some (by omega), List.drop_zero, h1, List.take_length]
    have hnew : (n + k) * sz = (cs ++ new).length := by rw [Nat.add_mul, List.length_append, h1, hl]
    rcases hex with rfl | rfl
    · have hfr : Fr w.size w (newCells w (cs ++ new)) := Fr.push hm fun cs' f own d e => by cases e; exact Nat.le_refl _
      refine onE_s (v := .slice w.size 0 (n + k) (n + k) (some sz)) (w := newCells w (cs ++ new)) ?_ (hK _ _ ?_ (GrC.of_fr hm hfr) fun c hc hlt => ?_)
      · simp only [appS, hx.read, Option.bind_some, hk0, cond_false, hsz, hsrc, Bool.true_and, guardO, cond_true, e0, e1, e2, growA, hcells, e4]
      · have hb : Box (newCells w (cs ++ new)) w.size (cs ++ new) := by simp [Box, newCells, cellsAO]
        exact .inr ⟨w.size, w.size, n + k, some sz, w.size, false, rfl, hnew, .inr rfl, hn0, by omega, hb, AW.root?_iff.2 ⟨_, hb, rfl⟩⟩
      · simp only [blk, Option.some.injEq] at hc; omega
    · let w1 := w.set f (.cells c0 f w.size false)
      let w' := w1.push (.cells (cs ++ new) f 0 false)
      have hset : w.setFam f w.size false = w1 := by unfold AW.setFam; rw [hc0]
      have happ : appS sz bytes w (.slice b 0 n n (some sz)) x = some (.slice w.size 0 (n + k) (n + k) (some sz), w') := by
        have e3 : Nat.beq (0 + n * sz) cs.length = true := by rw [Nat.zero_add, h1]; simp
        simp only [appS, hx.read, Option.bind_some, hk0, cond_false, hsz, hsrc, Bool.true_and, guardO, cond_true, e0, e1, e2, Bool.and_self, growA, hcells, e4, Nat.beq_refl, e3, AW.heir, hfam]
        rw [if_pos ⟨h3, trivial⟩, hset]
        rfl
      have hm1 : Mem w1 := hm.set hflt fun cs f own d e => by cases e; exact Nat.le_refl _
      have hm' : Mem w' := hm1.push fun cs f own d e => by cases e; simpa [w1] using Nat.le_of_lt hflt
      have hget : ∀ c, w'.get c = if c = w.size then some (.cells (cs ++ new) f 0 false) else if c = f then some (.cells c0 f w.size false) else w.get c := fun c => by
        simp only [w', w1, AW.push_get, AW.set_get, AW.set_size]
      have hroot : w'.root? f = some (f, w.size, false) := AW.root?_iff.2 ⟨c0, by rw [hget, if_neg (by omega), if_pos rfl], rfl⟩
      have hcellsK : ∀ c all, w.cells? c = some all → w'.cells? c = some all := fun c all h => by
        obtain ⟨y, o', d', g1, g2, g3⟩ := AW.cells?_iff.1 h
        have hclt := hm.lt _ _ g3
        by_cases hyf : y.1 = f
        · refine AW.cells?_iff.2 ⟨(f, w.size, false), if c = f then w.size else o', if c = f then false else d', AW.fam?_iff.2 ⟨all, if c = f then w.size else o', if c = f then false else d', ?_, hroot⟩, .inl rfl, ?_⟩
          all_goals
            rw [hget, if_neg (by omega)]
            by_cases hcf : c = f
            · subst hcf
              rw [if_pos rfl, if_pos rfl, if_pos rfl]
              rw [hc0] at g3
              cases g3
              rfl
            · rw [if_neg hcf, if_neg hcf, if_neg hcf]
              rw [g3, hyf]
        · have hylt : y.1 < w.size := Nat.lt_of_le_of_lt (hm.fam _ _ _ _ _ g3) hclt
          have hcf : c ≠ f := fun e => by
            subst e
            rw [hc0] at g3
            cases g3
            exact hyf rfl
          rw [AW.cells?_congr g1 (by rw [hget, if_neg (by omega), if_neg hcf]) (by rw [hget, if_neg (by omega), if_neg hyf])]
          exact h
      refine onE_s happ (hK _ _ ?_ ⟨by simp [w', w1], hm', fun c hc hq => by rw [hget, if_neg (by omega), if_neg (fun e : c = f => hq (e ▸ h2))], hcellsK, fun c cs' hc hne => ?_, fun c ob hg hno => ?_, fun c cs' f' o' d' hg hq => ?_, fun c cs' f' o' d' hg => ?_⟩ fun c hc hlt => ?_)
      · exact .inr ⟨w.size, f, n + k, some sz, 0, false, rfl, hnew, .inr rfl, h2, h3, by rw [hget, if_pos rfl], hroot⟩
      · have hcl := hc.lt hm
        have hcf : c ≠ f := fun e => by
          subst e
          have hc' : w.get c = some (.cells cs' c c false) := hc
          rw [hc0] at hc'
          cases hc'
          exact hne rfl
        unfold Box
        rw [hget, if_neg (by omega), if_neg hcf]; exact hc
      · have hcl := hm.lt _ _ hg
        have hcf : c ≠ f := fun e => by
          subst e
          rw [hc0] at hg
          cases hg
          exact hno _ _ _ _ rfl
        rw [hget, if_neg (by omega), if_neg hcf]; exact hg
      · have hcl := hm.lt _ _ hg
        have hcf : c ≠ f := fun e => by
          subst e
          rw [hc0] at hg
          cases hg
          exact hq h2
        rw [hget, if_neg (by omega), if_neg hcf]
      · have hcl := hm.lt _ _ hg
        by_cases hcf : c = f
        · subst hcf
          rw [hc0] at hg
          cases hg
          exact ⟨c0, w.size, false, by rw [hget, if_neg (by omega), if_pos rfl]⟩
        · exact ⟨cs', o', d', by rw [hget, if_neg (by omega), if_neg hcf]; exact hg⟩
      · simp only [blk, Option.some.injEq] at hc; omega
theorem Gc.app {Q : Nat → Prop} {sz bytes k : Nat} {w : AW} {v x : AV} {cs new : List AV} (h : Gc Q sz w v cs) (hm : Mem w) (hn0 : Q w.size) (hw : 0 < w.size) (hs : 0 < sz) (hx : Rs w sz k x new)
    (hb : (2 * (cs.length / sz + k) + 1000) * bytes < 2 ^ 48) (hb2 : cs.length / sz + k < 2 ^ 62) {K : AV → AW → Prop}
    (hK : ∀ v' w', Gc Q sz w' v' (cs ++ new) → GrC Q v w w' → (∀ c, blk v' = some c → c < w.size → v' = v) → K v' w') : onE (appS sz bytes w v x) K := h.appSrc hm hn0 hw hs hx.src hb hb2 hK
theorem Gc.put {Q : Nat → Prop} {n0 sz k : Nat} {w : AW} {v : AV} {cs vs : List AV} (h : Gc Q sz w v cs) (hm : Mem w) (hk : (k + 1) * sz ≤ cs.length) (hQ : ∀ f, Q f → n0 ≤ f) (hvs : vs.length = sz) (hs : 0 < sz) {K : Nat → Nat → Prop}
    (hK : ∀ b, (∀ K' : AW → Prop, (∀ w', Fr n0 w w' → w'.size = w.size → Rs w' sz (cs.length / sz) v (listPut cs (k * sz) vs) → (∀ c, blk v = some c → w'.cells? c = some (listPut cs (k * sz) vs)) → K' w') → onM (w.putCells b (k * sz) vs) K') → K b (k * sz)) : atP (idxS sz v (.int .i64 (k : Int))) K := by
  rcases h with ⟨rfl, rfl⟩ | ⟨b, f, n, ex, o, d, rfl, h1, hex, h2, h3, h4, h5⟩
  · have : 0 < (k + 1) * sz := Nat.mul_pos (by omega) hs
    simp only [List.length_nil] at hk; omega
  have hkn : k < n := by
    rw [← h1] at hk
    have := Nat.le_of_mul_le_mul_right hk hs
    omega
  rw [atP_iff]
  have hbl : Nat.blt k n = true := by simp [Nat.blt_eq, hkn]
  refine ⟨b, 0 + k * sz, ?_, ?_⟩
  · show (asN (.int .i64 (Int.ofNat k))).bind _ = _
    simp only [asN, Option.bind_some, hbl, guardO, cond_true]
  rw [Nat.zero_add]
  refine hK b fun K' hK' => ?_
  obtain ⟨c0, hc0, _⟩ := AW.root?_iff.1 h5
  simp only [] at hc0
  have hblt := hm.lt _ _ h4
  have hflt := hm.lt _ _ hc0
  have hfb := hm.fam _ _ _ _ _ h4
  have h2 := hQ _ h2
  have hfam : w.fam? b = some (f, b, false) := AW.fam?_iff.2 ⟨cs, o, d, h4, h5⟩
  have hcells : w.cells? b = some cs := AW.cells?_iff.2 ⟨(f, b, false), o, d, hfam, .inl rfl, h4⟩
  have hdiv : cs.length / sz = n := by rw [← h1]; exact Nat.mul_div_cancel _ hs
  have hkk : k * sz + sz ≤ cs.length := by rw [Nat.add_mul, Nat.one_mul] at hk; exact hk
  have hpl : (listPut cs (k * sz) vs).length = cs.length := by simp [listPut]; omega
  have fin : ∀ w' : AW, w'.cells? b = some (listPut cs (k * sz) vs) → Rs w' sz (cs.length / sz) (.slice b 0 n n ex) (listPut cs (k * sz) vs) := fun w' hc => by
    rw [hdiv]
    exact .inr ⟨b, 0, n, ex, _, rfl, hc, by rw [hpl]; omega, by rw [List.drop_zero, h1, ← hpl, List.take_length]⟩
  unfold AW.putCells
  rw [hfam, hcells]
  simp only []
  rw [if_neg (by omega)]
  by_cases hc : f = b
  · subst hc
    rw [h4] at hc0
    cases hc0
    rw [if_pos (by simp)]
    have hsc : w.setCs f (listPut cs (k * sz) vs) = w.set f (.cells (listPut cs (k * sz) vs) f f false) := by
      unfold AW.setCs; rw [h4]
    rw [hsc]
    have hbx : Box (w.set f (.cells (listPut cs (k * sz) vs) f f false)) f (listPut cs (k * sz) vs) := by simp [Box]
    exact onM_s rfl (hK' _ ⟨Nat.le_refl _, fun c hc => by rw [AW.set_get, if_neg (by omega)], hm.set hflt fun cs f own d e => by cases e; exact Nat.le_refl _⟩ rfl (fin _ hbx.cells) fun c hc => by cases hc; exact hbx.cells)
  · rw [if_neg (fun h => hc h.1)]
    have hsf : w.setFam f b true = w.set f (.cells c0 f b true) := by unfold AW.setFam; rw [hc0]
    have hm1 : Mem (w.set f (.cells c0 f b true)) := hm.set hflt fun cs f own d e => by cases e; exact Nat.le_refl _
    have hsc : (w.setFam f b true).setCs b (listPut cs (k * sz) vs) = (w.set f (.cells c0 f b true)).set b (.cells (listPut cs (k * sz) vs) f o d) := by
      rw [hsf]; unfold AW.setCs; rw [AW.set_get, if_neg (Ne.symm hc), h4]
    rw [hsc]
    have hg : ∀ c, ((w.set f (.cells c0 f b true)).set b (.cells (listPut cs (k * sz) vs) f o d)).get c = if c = b then some (.cells (listPut cs (k * sz) vs) f o d) else if c = f then some (.cells c0 f b true) else w.get c := fun c => by rw [AW.set_get, AW.set_get]
    have hcl : ((w.set f (.cells c0 f b true)).set b (.cells (listPut cs (k * sz) vs) f o d)).cells? b = some (listPut cs (k * sz) vs) :=
      AW.cells?_iff.2 ⟨(f, b, true), o, d, AW.fam?_iff.2 ⟨_, o, d, by rw [hg, if_pos rfl], AW.root?_iff.2 ⟨c0, by rw [hg, if_neg hc, if_pos rfl], rfl⟩⟩, .inr rfl, by rw [hg, if_pos rfl]⟩
    exact onM_s rfl (hK' _ ⟨Nat.le_refl _, fun c hc' => by rw [hg, if_neg (by omega), if_neg (by omega)], hm1.set (by simpa using hblt) fun cs f own d e => by cases e; exact hfb⟩ rfl (fin _ hcl) fun c hc => by cases hc; exact hcl)
end Go.Sx
/-! Calls of what lies outside the program. -/
namespace Go.Sx
theorem Cl_ext {P : Program} {hk : Hook} {f : FuncId} {fn : Func} {args : List AV} {w w' : AW} {v : AV} {K : AV → AW → Prop} (hn : hk f args w = none) (hf : P.funcs[f]? = some fn) (hb : fn.body = none) (he : externA w fn.name args = some (v, w')) (hK : K v w') : Cl P hk f args w K := by
  refine wpL_in (t := .call f args w) ?_
  show wCall P _ hk f args w _
  unfold wCall
  rw [hn]
  refine ⟨fn, hf, ?_⟩
  unfold wEnter
  rw [hb]
  exact ⟨v, w', he, hK⟩
theorem ext_load {w : AW} {b o : Nat} {n : Int} (h : ld w b o = some (.int .i64 n)) : externA w "sync/atomic.LoadInt64" [.ptr b o] = some (.int .i64 n, w) := by
  unfold ld at h
  cases hc : w.cells? b with
  | none => rw [hc] at h; cases h
  | some cs =>
    rw [hc] at h
    have h : cs[o]? = some (.int .i64 n) := h
    obtain ⟨hlt, he⟩ := List.getElem?_eq_some_iff.1 h
    have : (cs.drop o).take 1 = [.int .i64 n] := by
      rw [List.drop_eq_getElem_cons hlt, he]; rfl
    simp only [externA, if_true, AW.read, hc, takeCells_some (show o + 1 ≤ cs.length by omega), this, Option.bind_some]
theorem ext_add {w w' : AW} {b o : Nat} {n d : Int} (h : ld w b o = some (.int .i64 n)) (h' : w.putCells b o [.int .i64 (wi (n + d))] = some w') : externA w "sync/atomic.AddInt64" [.ptr b o, .int .i64 d] = some (.int .i64 (wi (n + d)), w') := by
  unfold ld at h
  cases hc : w.cells? b with
  | none => rw [hc] at h; cases h
  | some cs =>
    rw [hc] at h
    have h : cs[o]? = some (.int .i64 n) := h
    obtain ⟨hlt, he⟩ := List.getElem?_eq_some_iff.1 h
    have : (cs.drop o).take 1 = [.int .i64 n] := by
      rw [List.drop_eq_getElem_cons hlt, he]; rfl
    unfold externA
    rw [if_neg (by decide), if_neg (by decide), if_pos rfl]
    simp only [AW.read, hc, takeCells_some (show o + 1 ≤ cs.length by omega), this, Option.bind_some]
    have h' : w.putCells b o [.int .i64 (IntKind.i64.wrap (n + d))] = some w' := h'
    rw [h']; rfl
end Go.Sx
