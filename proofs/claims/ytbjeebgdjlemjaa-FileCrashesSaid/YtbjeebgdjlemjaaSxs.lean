/-
  The disk of chapter 7: what it is purely, how it lies in memory, what lies beside it.
  No condition beyond those that each theorem names.
-/
import Derived.Test.YtbjeebgdjlemjaaSxr
set_option linter.unusedVariables false
set_option linter.unusedSimpArgs false
/-! Rows of any cells that grow behind; byte blocks that stay; maps in memory. -/
namespace Go.Sx

def Gc (Q : Nat → Prop) (sz : Nat) (w : AW) (v : AV) (cs : List AV) : Prop :=
  (v = .nilslice ∧ cs = []) ∨ ∃ b f n ex o d, v = .slice b 0 n n ex ∧ n * sz = cs.length ∧ (ex = none ∨ ex = some sz) ∧ Q f ∧ f ≠ 0 ∧ w.get b = some (.cells cs f o d) ∧ w.root? f = some (f, b, false)
theorem Gc.nil {Q : Nat → Prop} {sz : Nat} {w : AW} : Gc Q sz w .nilslice [] := .inl ⟨rfl, rfl⟩
theorem Gc.le {Q Q' : Nat → Prop} {sz : Nat} {w : AW} {v : AV} {cs : List AV} (h : Gc Q sz w v cs) (hn : ∀ f, Q f → Q' f) : Gc Q' sz w v cs := by
  rcases h with h | ⟨b, f, n, ex, o, d, h1, h2, h3, h4, h5, h6⟩
  · exact .inl h
  · exact .inr ⟨b, f, n, ex, o, d, h1, h2, h3, hn _ h4, h5, h6⟩
theorem Gc.ok {Q : Nat → Prop} {sz : Nat} {w : AW} {v : AV} {cs : List AV} (h : Gc Q sz w v cs) : okCell v = true := by
  rcases h with ⟨rfl, _⟩ | ⟨b, f, n, ex, o, d, rfl, _⟩ <;> rfl
theorem Gc.rs {Q : Nat → Prop} {sz k : Nat} {w : AW} {v : AV} {cs : List AV} (h : Gc Q sz w v cs) (hs : 0 < sz) (hk : cs.length = k * sz) : Rs w sz k v cs := by
  rcases h with ⟨rfl, rfl⟩ | ⟨b, f, n, ex, o, d, rfl, h2, h3, h4, h5, h6, h7⟩
  · have : k = 0 := by
      rcases Nat.mul_eq_zero.1 hk.symm with h | h <;> omega
    subst this; exact Rs.nil
  · have : n = k := Nat.eq_of_mul_eq_mul_right hs (h2.trans hk)
    subst this
    refine .inr ⟨b, 0, n, ex, cs, rfl, AW.cells?_iff.2 ⟨(f, b, false), o, d, AW.fam?_iff.2 ⟨cs, o, d, h6, h7⟩, .inl rfl, h6⟩, by omega, ?_⟩
    rw [List.drop_zero, h2, List.take_length]
theorem Gc.keep {Q : Nat → Prop} {sz : Nat} {w w' : AW} {v : AV} {cs : List AV} (h : Gc Q sz w v cs) (hm : Mem w) (hc : ∀ c, c < w.size → (Q c ∨ blk v = some c) → w'.get c = w.get c) : Gc Q sz w' v cs := by
  rcases h with h | ⟨b, f, n, ex, o, d, h1, h2, h3, h4, h5, h6, h7⟩
  · exact .inl h
  · obtain ⟨c0, hc0, _⟩ := AW.root?_iff.1 h7
    exact .inr ⟨b, f, n, ex, o, d, h1, h2, h3, h4, h5, (hc _ (hm.lt _ _ h6) (.inr (by rw [h1]; rfl))).trans h6, by rw [AW.root?_congr (hc _ (hm.lt _ _ hc0) (.inl h4))]; exact h7⟩
theorem Gc.fr {Q : Nat → Prop} {sz : Nat} {w w' : AW} {v : AV} {cs : List AV} (h : Gc Q sz w v cs) (hm : Mem w) (hf : Fr w.size w w') : Gc Q sz w' v cs := h.keep hm fun c hc _ => hf.old c hc
/-- What turns is a block of its own, or a map: nothing to another row. -/
theorem Gc.ch {Q : Nat → Prop} {sz : Nat} {X : List Nat} {w w' : AW} {v : AV} {cs : List AV} (h : Gc Q sz w v cs) (hm : Mem w) (hc : Ch X w w') (hX : ∀ x ∈ X, (∃ es cl, w.get x = some (.map es cl)) ∨ ∃ c, Box w x c ∧ blk v ≠ some x) : Gc Q sz w' v cs := by
  rcases h with h | ⟨b, f, n, ex, o, d, rfl, h2, h3, h4, h5, h6, h7⟩
  · exact .inl h
  · obtain ⟨c0, hc0, _⟩ := AW.root?_iff.1 h7
    simp only [] at hc0
    have hb : b ∉ X := fun hx => by
      rcases hX b hx with ⟨es, cl, g⟩ | ⟨c, g, hne⟩
      · rw [h6] at g; cases g
      · exact hne rfl
    have hf : f ∉ X := fun hx => by
      rcases hX f hx with ⟨es, cl, g⟩ | ⟨c, g, hne⟩
      · rw [hc0] at g; cases g
      · unfold Box at g; rw [hc0] at g; cases g; exact hb hx
    exact .inr ⟨b, f, n, ex, o, d, rfl, h2, h3, h4, h5, (hc.old _ (hm.lt _ _ h6) hb).trans h6, by rw [AW.root?_congr (hc.old _ (hm.lt _ _ hc0) hf)]; exact h7⟩

/-- What an append leaves as it was. -/
structure GrC (Q : Nat → Prop) (v : AV) (w w' : AW) : Prop where
  size : w.size ≤ w'.size
  mem : Mem w'
  old : ∀ c, c < w.size → ¬ Q c → w'.get c = w.get c
  cells : ∀ c all, w.cells? c = some all → w'.cells? c = some all
  box : ∀ c cs, Box w c cs → blk v ≠ some c → Box w' c cs
  obj : ∀ c o, w.get c = some o → (∀ cs f own d, o ≠ .cells cs f own d) → w'.get c = some o
  fam : ∀ c cs f o d, w.get c = some (.cells cs f o d) → ¬ Q f → w'.get c = w.get c
theorem GrC.of_fr {Q : Nat → Prop} {v : AV} {w w' : AW} (hm : Mem w) (hf : Fr w.size w w') : GrC Q v w w' :=
  ⟨hf.size, hf.mem, fun c hc _ => hf.old c hc, fun c all h => hf.cells hm h (Nat.le_refl _), fun c cs h _ => h.fr hf (h.lt hm), fun c o h _ => (hf.old c (hm.lt _ _ h)).trans h, fun c cs f o d h _ => hf.old c (hm.lt _ _ h)⟩

theorem Gc.app {Q : Nat → Prop} {sz bytes k : Nat} {w : AW} {v x : AV} {cs new : List AV} (h : Gc Q sz w v cs) (hm : Mem w) (hn0 : Q w.size) (hw : 0 < w.size) (hs : 0 < sz) (hx : Rs w sz k x new)
    (hb : (2 * (cs.length / sz + k) + 1000) * bytes < 2 ^ 48) (hb2 : cs.length / sz + k < 2 ^ 62) {K : AV → AW → Prop}
    (hK : ∀ v' w', Gc Q sz w' v' (cs ++ new) → GrC Q v w w' → (∀ c, blk v' = some c → c < w.size → v' = v) → K v' w') : onE (appS sz bytes w v x) K := by
  have hl := hx.length
  by_cases hk : k = 0
  · subst hk
    have hnil : new = [] := by simpa using hl
    subst hnil
    refine onE_s (v := v) (w := w) ?_ (hK v w (by simpa using h) (GrC.of_fr hm (Fr.refl hm)) fun _ _ _ => rfl)
    simp only [appS, hx.read, Option.bind_some]
    rcases h with ⟨rfl, _⟩ | ⟨b, f, n, ex, o, d, rfl, _⟩ <;> rfl
  have hk0 : Nat.beq k 0 = false := beq_ff hk
  have hsz : (!Nat.beq sz 0) = true := by rw [beq_ff (by omega)]; rfl
  have hsrc : okSrc x new = true := by
    rcases hx with ⟨rfl, rfl, _⟩ | ⟨b, o, cap, ex, all, rfl, _⟩
    · exact absurd rfl hk
    · rfl
  have hnb : k * bytes ≤ (2 * (cs.length / sz + k) + 1000) * bytes := Nat.mul_le_mul_right _ (by generalize cs.length / sz = q; omega)
  rcases h with ⟨rfl, rfl⟩ | ⟨b, f, n, ex, o, d, rfl, h1, hex, h2, h3, h4, h5⟩
  · have hfr : Fr w.size w (newCells w new) := Fr.push hm fun cs' f own d e => by cases e; exact Nat.le_refl _
    refine onE_s (v := .slice w.size 0 k k (some sz)) (w := newCells w new) ?_ (hK _ _ ?_ (GrC.of_fr hm hfr) fun c hc hlt => ?_)
    · simp only [appS, hx.read, Option.bind_some, hk0, cond_false, hsz, hsrc, Bool.true_and, guardO, cond_true]
      have e1 : Nat.ble (k * bytes) room = true := by rw [Nat.ble_eq]; unfold room; omega
      have e2 : Nat.blt k (2 ^ 62) = true := by rw [Nat.blt_eq]; simp at hb2; omega
      rw [e1, e2]; rfl
    · have hb : Box (newCells w new) w.size new := by simp [Box, newCells, cellsAO]
      exact .inr ⟨w.size, w.size, k, some sz, w.size, false, rfl, by simp [hl], .inr rfl, hn0, by omega, hb, AW.root?_iff.2 ⟨_, hb, rfl⟩⟩
    · simp only [blk, Option.some.injEq] at hc; omega
  · have hdiv : cs.length / sz = n := by rw [← h1]; exact Nat.mul_div_cancel _ hs
    rw [hdiv] at hb hb2
    obtain ⟨c0, hc0, _⟩ := AW.root?_iff.1 h5
    simp only [] at hc0
    have hblt := hm.lt _ _ h4
    have hflt := hm.lt _ _ hc0
    have hfam : w.fam? b = some (f, b, false) := AW.fam?_iff.2 ⟨cs, o, d, h4, h5⟩
    have hcells : w.cells? b = some cs := AW.cells?_iff.2 ⟨(f, b, false), o, d, hfam, .inl rfl, h4⟩
    have e0 : Nat.ble (n + k) n = false := by
      cases he : Nat.ble (n + k) n with
      | false => rfl
      | true => rw [Nat.ble_eq] at he; omega
    have e1 : Nat.blt ((2 * (n + k) + 1000) * bytes) room = true := by rw [Nat.blt_eq]; unfold room; exact hb
    have e2 : Nat.blt (n + k) (2 ^ 62) = true := by rw [Nat.blt_eq]; exact hb2
    have e4 : takeCells cs 0 (n * sz) = some cs := by rw [takeCells_some (by omega), List.drop_zero, h1, List.take_length]
    have hnew : (n + k) * sz = (cs ++ new).length := by rw [Nat.add_mul, List.length_append, h1, hl]
    rcases hex with rfl | rfl
    · have hfr : Fr w.size w (newCells w (cs ++ new)) := Fr.push hm fun cs' f own d e => by cases e; exact Nat.le_refl _
      refine onE_s (v := .slice w.size 0 (n + k) (n + k) (some sz)) (w := newCells w (cs ++ new)) ?_ (hK _ _ ?_ (GrC.of_fr hm hfr) fun c hc hlt => ?_)
      · simp only [appS, hx.read, Option.bind_some, hk0, cond_false, hsz, hsrc, Bool.true_and, guardO, cond_true, e0, e1, e2, growA, hcells, e4]
      · have hb : Box (newCells w (cs ++ new)) w.size (cs ++ new) := by simp [Box, newCells, cellsAO]
        exact .inr ⟨w.size, w.size, n + k, some sz, w.size, false, rfl, hnew, .inr rfl, hn0, by omega, hb, AW.root?_iff.2 ⟨_, hb, rfl⟩⟩
      · simp only [blk, Option.some.injEq] at hc; omega
    · let w1 := w.set f (.cells c0 f w.size false)
      let w' := w1.push (.cells (cs ++ new) f 0 false)
      have hset : w.setFam f w.size false = w1 := by unfold AW.setFam; rw [hc0]
      have happ : appS sz bytes w (.slice b 0 n n (some sz)) x = some (.slice w.size 0 (n + k) (n + k) (some sz), w') := by
        have e3 : Nat.beq (0 + n * sz) cs.length = true := by rw [Nat.zero_add, h1]; simp
        simp only [appS, hx.read, Option.bind_some, hk0, cond_false, hsz, hsrc, Bool.true_and, guardO, cond_true, e0, e1, e2, Bool.and_self, growA, hcells, e4, Nat.beq_refl, e3, AW.heir, hfam]
        rw [if_pos ⟨h3, trivial⟩, hset]
        rfl
      have hm1 : Mem w1 := hm.set hflt fun cs f own d e => by cases e; exact Nat.le_refl _
      have hm' : Mem w' := hm1.push fun cs f own d e => by cases e; simpa [w1] using Nat.le_of_lt hflt
      have hget : ∀ c, w'.get c = if c = w.size then some (.cells (cs ++ new) f 0 false) else if c = f then some (.cells c0 f w.size false) else w.get c := fun c => by
        simp only [w', w1, AW.push_get, AW.set_get, AW.set_size]
      have hroot : w'.root? f = some (f, w.size, false) := AW.root?_iff.2 ⟨c0, by rw [hget, if_neg (by omega), if_pos rfl], rfl⟩
      have hcellsK : ∀ c all, w.cells? c = some all → w'.cells? c = some all := fun c all h => by
        obtain ⟨y, o', d', g1, g2, g3⟩ := AW.cells?_iff.1 h
        have hclt := hm.lt _ _ g3
        by_cases hyf : y.1 = f
        · refine AW.cells?_iff.2 ⟨(f, w.size, false), if c = f then w.size else o', if c = f then false else d', AW.fam?_iff.2 ⟨all, if c = f then w.size else o', if c = f then false else d', ?_, hroot⟩, .inl rfl, ?_⟩
          all_goals
            rw [hget, if_neg (by omega)]
            by_cases hcf : c = f
            · subst hcf
              rw [if_pos rfl, if_pos rfl, if_pos rfl]
              rw [hc0] at g3
              cases g3
              rfl
            · rw [if_neg hcf, if_neg hcf, if_neg hcf]
              rw [g3, hyf]
        · have hylt : y.1 < w.size := Nat.lt_of_le_of_lt (hm.fam _ _ _ _ _ g3) hclt
          have hcf : c ≠ f := fun e => by
            subst e
            rw [hc0] at g3
            cases g3
            exact hyf rfl
          rw [AW.cells?_congr g1 (by rw [hget, if_neg (by omega), if_neg hcf]) (by rw [hget, if_neg (by omega), if_neg hyf])]
          exact h
      refine onE_s happ (hK _ _ ?_ ⟨by simp [w', w1], hm', fun c hc hq => by rw [hget, if_neg (by omega), if_neg (fun e : c = f => hq (e ▸ h2))], hcellsK, fun c cs' hc hne => ?_, fun c ob hg hno => ?_, fun c cs' f' o' d' hg hq => ?_⟩ fun c hc hlt => ?_)
      · exact .inr ⟨w.size, f, n + k, some sz, 0, false, rfl, hnew, .inr rfl, h2, h3, by rw [hget, if_pos rfl], hroot⟩
      · have hcl := hc.lt hm
        have hcf : c ≠ f := fun e => by
          subst e
          have hc' : w.get c = some (.cells cs' c c false) := hc
          rw [hc0] at hc'
          cases hc'
          exact hne rfl
        unfold Box
        rw [hget, if_neg (by omega), if_neg hcf]; exact hc
      · have hcl := hm.lt _ _ hg
        have hcf : c ≠ f := fun e => by
          subst e
          rw [hc0] at hg
          cases hg
          exact hno _ _ _ _ rfl
        rw [hget, if_neg (by omega), if_neg hcf]; exact hg
      · have hcl := hm.lt _ _ hg
        have hcf : c ≠ f := fun e => by
          subst e
          rw [hc0] at hg
          cases hg
          exact hq h2
        rw [hget, if_neg (by omega), if_neg hcf]
      · simp only [blk, Option.some.injEq] at hc; omega

/-- Items of a fresh row are written in place. -/
theorem Gc.put {Q : Nat → Prop} {n0 sz k : Nat} {w : AW} {v : AV} {cs vs : List AV} (h : Gc Q sz w v cs) (hm : Mem w) (hk : (k + 1) * sz ≤ cs.length) (hQ : ∀ f, Q f → n0 ≤ f) (hvs : vs.length = sz) (hs : 0 < sz) {K : Nat → Nat → Prop}
    (hK : ∀ b, (∀ K' : AW → Prop, (∀ w', Fr n0 w w' → w'.size = w.size → Rs w' sz (cs.length / sz) v (listPut cs (k * sz) vs) → (∀ c, blk v = some c → w'.cells? c = some (listPut cs (k * sz) vs)) → K' w') → onM (w.putCells b (k * sz) vs) K') → K b (k * sz)) : atP (idxS sz v (.int .i64 (k : Int))) K := by
  rcases h with ⟨rfl, rfl⟩ | ⟨b, f, n, ex, o, d, rfl, h1, hex, h2, h3, h4, h5⟩
  · have : 0 < (k + 1) * sz := Nat.mul_pos (by omega) hs
    simp only [List.length_nil] at hk; omega
  have hkn : k < n := by
    rw [← h1] at hk
    have := Nat.le_of_mul_le_mul_right hk hs
    omega
  rw [atP_iff]
  have hbl : Nat.blt k n = true := by simp [Nat.blt_eq, hkn]
  refine ⟨b, 0 + k * sz, ?_, ?_⟩
  · show (asN (.int .i64 (Int.ofNat k))).bind _ = _
    simp only [asN, Option.bind_some, hbl, guardO, cond_true]
  rw [Nat.zero_add]
  refine hK b fun K' hK' => ?_
  obtain ⟨c0, hc0, _⟩ := AW.root?_iff.1 h5
  simp only [] at hc0
  have hblt := hm.lt _ _ h4
  have hflt := hm.lt _ _ hc0
  have hfb := hm.fam _ _ _ _ _ h4
  have h2 := hQ _ h2
  have hfam : w.fam? b = some (f, b, false) := AW.fam?_iff.2 ⟨cs, o, d, h4, h5⟩
  have hcells : w.cells? b = some cs := AW.cells?_iff.2 ⟨(f, b, false), o, d, hfam, .inl rfl, h4⟩
  have hdiv : cs.length / sz = n := by rw [← h1]; exact Nat.mul_div_cancel _ hs
  have hkk : k * sz + sz ≤ cs.length := by rw [Nat.add_mul, Nat.one_mul] at hk; exact hk
  have hpl : (listPut cs (k * sz) vs).length = cs.length := by simp [listPut]; omega
  have fin : ∀ w' : AW, w'.cells? b = some (listPut cs (k * sz) vs) → Rs w' sz (cs.length / sz) (.slice b 0 n n ex) (listPut cs (k * sz) vs) := fun w' hc => by
    rw [hdiv]
    exact .inr ⟨b, 0, n, ex, _, rfl, hc, by rw [hpl]; omega, by rw [List.drop_zero, h1, ← hpl, List.take_length]⟩
  unfold AW.putCells
  rw [hfam, hcells]
  simp only []
  rw [if_neg (by omega)]
  by_cases hc : f = b
  · subst hc
    rw [h4] at hc0
    cases hc0
    rw [if_pos (by simp)]
    have hsc : w.setCs f (listPut cs (k * sz) vs) = w.set f (.cells (listPut cs (k * sz) vs) f f false) := by
      unfold AW.setCs; rw [h4]
    rw [hsc]
    have hbx : Box (w.set f (.cells (listPut cs (k * sz) vs) f f false)) f (listPut cs (k * sz) vs) := by simp [Box]
    exact onM_s rfl (hK' _ ⟨Nat.le_refl _, fun c hc => by rw [AW.set_get, if_neg (by omega)], hm.set hflt fun cs f own d e => by cases e; exact Nat.le_refl _⟩ rfl (fin _ hbx.cells) fun c hc => by cases hc; exact hbx.cells)
  · rw [if_neg (fun h => hc h.1)]
    have hsf : w.setFam f b true = w.set f (.cells c0 f b true) := by unfold AW.setFam; rw [hc0]
    have hm1 : Mem (w.set f (.cells c0 f b true)) := hm.set hflt fun cs f own d e => by cases e; exact Nat.le_refl _
    have hsc : (w.setFam f b true).setCs b (listPut cs (k * sz) vs) = (w.set f (.cells c0 f b true)).set b (.cells (listPut cs (k * sz) vs) f o d) := by
      rw [hsf]; unfold AW.setCs; rw [AW.set_get, if_neg (Ne.symm hc), h4]
    rw [hsc]
    have hg : ∀ c, ((w.set f (.cells c0 f b true)).set b (.cells (listPut cs (k * sz) vs) f o d)).get c = if c = b then some (.cells (listPut cs (k * sz) vs) f o d) else if c = f then some (.cells c0 f b true) else w.get c := fun c => by rw [AW.set_get, AW.set_get]
    have hcl : ((w.set f (.cells c0 f b true)).set b (.cells (listPut cs (k * sz) vs) f o d)).cells? b = some (listPut cs (k * sz) vs) :=
      AW.cells?_iff.2 ⟨(f, b, true), o, d, AW.fam?_iff.2 ⟨_, o, d, by rw [hg, if_pos rfl], AW.root?_iff.2 ⟨c0, by rw [hg, if_neg hc, if_pos rfl], rfl⟩⟩, .inr rfl, by rw [hg, if_pos rfl]⟩
    exact onM_s rfl (hK' _ ⟨Nat.le_refl _, fun c hc' => by rw [hg, if_neg (by omega), if_neg (by omega)], hm1.set (by simpa using hblt) fun cs f own d e => by cases e; exact hfb⟩ rfl (fin _ hcl) fun c hc => by cases hc; exact hcl)
end Go.Sx

/-! The disk of chapter 7: what it is purely, and how it lies in memory. -/
namespace Go.Sx

abbrev Byts := List UInt8
/-- A step: what it does, to which file, where, with which data and names. -/
structure Stp where
  what : Int
  file : Int
  n : Int
  data : Byts
  name : Byts
  to : Byts
def Stp.cells (x : Stp) : List AV := .int .i64 x.what :: .int .i64 x.file :: .int .i64 x.n :: (cellsOfBytes x.data ++ [.str x.name, .str x.to])
theorem Stp.length {x : Stp} (h : x.data.length = 64) : x.cells.length = 69 := by simp [Stp.cells, cellsOfBytes_length, h]
theorem ok_bytes (s : Byts) : (cellsOfBytes s).all okCell = true := by
  rw [List.all_eq_true]; intro c hc
  obtain ⟨x, _, rfl⟩ := List.mem_map.1 hc
  rfl
theorem Stp.all (x : Stp) : x.cells.all okCell = true := by
  simp only [Stp.cells, List.all_cons, List.all_append, ok_bytes, List.all_nil]; rfl
theorem Stp.c0 (x : Stp) : x.cells[0]? = some (.int .i64 x.what) := rfl
theorem Stp.c1 (x : Stp) : x.cells[1]? = some (.int .i64 x.file) := rfl
theorem Stp.c2 (x : Stp) : x.cells[2]? = some (.int .i64 x.n) := rfl
theorem Stp.cname {x : Stp} (h : x.data.length = 64) : x.cells[67]? = some (.str x.name) := by
  show (cellsOfBytes x.data ++ [.str x.name, .str x.to])[64]? = _
  rw [List.getElem?_append_right (by rw [cellsOfBytes_length]; omega), cellsOfBytes_length, h]; rfl
theorem Stp.cto {x : Stp} (h : x.data.length = 64) : x.cells[68]? = some (.str x.to) := by
  show (cellsOfBytes x.data ++ [.str x.name, .str x.to])[65]? = _
  rw [List.getElem?_append_right (by rw [cellsOfBytes_length]; omega), cellsOfBytes_length, h]; rfl
theorem Stp.cdata {x : Stp} (h : x.data.length = 64) : (x.cells.drop 3).take 64 = cellsOfBytes x.data := by
  show (cellsOfBytes x.data ++ [AV.str x.name, AV.str x.to]).take 64 = _
  rw [List.take_left' (by rw [cellsOfBytes_length, h])]

def nget (ns : List (Byts × Int)) (s : Byts) : Option Int := (ns.find? fun x => decide (x.1 = s)).map (·.2)
def nset : List (Byts × Int) → Byts → Int → List (Byts × Int)
  | [], s, f => [(s, f)]
  | x :: r, s, f => if x.1 = s then (s, f) :: r else x :: nset r s f
def ndel : List (Byts × Int) → Byts → List (Byts × Int)
  | [], _ => []
  | x :: r, s => if x.1 = s then r else x :: ndel r s

/-- Names, and what files have. -/
structure FS where
  names : List (Byts × Int)
  files : Int → List Byts
def zsec : Byts := List.replicate 64 0
def putS (l : List Byts) (n : Nat) (d : Byts) : List Byts := (l ++ List.replicate (n + 1 - l.length) zsec).set n d
def updF (F : Int → List Byts) (k : Int) (l : List Byts) : Int → List Byts := fun i => if i = k then l else F i
def FS.does (s : FS) (x : Stp) : FS :=
  if x.what = 0 then ⟨nset s.names x.name x.file, s.files⟩
  else if x.what = 1 then ⟨s.names, updF s.files x.file (putS (s.files x.file) x.n.toNat x.data)⟩
  else if x.what = 2 then ⟨s.names, updF s.files x.file ((s.files x.file).take x.n.toNat)⟩
  else match nget s.names x.name with
    | some f => if f = x.file then (if x.what = 3 then ⟨nset (ndel s.names x.name) x.to x.file, s.files⟩ else ⟨ndel s.names x.name, s.files⟩) else s
    | none => s

/-! ### In memory -/
def nEnts (ns : List (Byts × Int)) : List (AV × AV) := ns.map fun x => (.str x.1, .int .i64 x.2)
theorem nEnts_like (s : Byts) (ns : List (Byts × Int)) : ((nEnts ns).all fun e => likeK (.str s) e.1) = true := by
  rw [List.all_eq_true]; intro e he
  obtain ⟨x, _, rfl⟩ := List.mem_map.1 he
  rfl
theorem nEnts_look (s : Byts) : ∀ ns : List (Byts × Int), lookM (.str s) (nEnts ns) = (nget ns s).map (AV.int .i64)
  | [] => rfl
  | x :: r => by
    have ih := nEnts_look s r
    unfold nget at ih ⊢
    show (bif (AV.str x.1).beq (.str s) then some (AV.int .i64 x.2) else lookM (.str s) (nEnts r)) = _
    rw [beq_str, List.find?_cons]
    by_cases h : x.1 = s
    · simp [h]
    · simp [h, ih]
theorem nEnts_ins (s : Byts) (f : Int) : ∀ ns : List (Byts × Int), insM (.str s) (.int .i64 f) (nEnts ns) = nEnts (nset ns s f)
  | [] => rfl
  | x :: r => by
    have ih := nEnts_ins s f r
    show (bif (AV.str x.1).beq (.str s) then (AV.str s, AV.int .i64 f) :: nEnts r else (.str x.1, .int .i64 x.2) :: insM (.str s) (.int .i64 f) (nEnts r)) = _
    rw [beq_str]
    by_cases h : x.1 = s
    · simp [h, nset, nEnts]
    · simp [h, nset, ih]; simp [nEnts]
theorem nEnts_del (s : Byts) : ∀ ns : List (Byts × Int), delM (.str s) (nEnts ns) = nEnts (ndel ns s)
  | [] => rfl
  | x :: r => by
    have ih := nEnts_del s r
    show (bif (AV.str x.1).beq (.str s) then nEnts r else (.str x.1, .int .i64 x.2) :: delM (.str s) (nEnts r)) = _
    rw [beq_str]
    by_cases h : x.1 = s
    · simp [h, ndel]
    · simp [h, ndel, ih]; simp [nEnts]

def NMp (w : AW) (r : Nat) (ns : List (Byts × Int)) : Prop := ∃ cl, w.get r = some (.map (nEnts ns) cl)
theorem NMp.at {w : AW} {r : Nat} {ns : List (Byts × Int)} (h : NMp w r ns) : ∃ cl, mapAt w r = some (nEnts ns, cl) := by
  obtain ⟨cl, h⟩ := h
  exact ⟨cl, by unfold mapAt; rw [h]; rfl⟩
theorem NMp.look {w : AW} {r : Nat} {ns : List (Byts × Int)} (h : NMp w r ns) (s : Byts) : lookS (.int .i64 0) true w (.map r) (.str s) = some (.tup [.int .i64 ((nget ns s).getD 0), .bool (nget ns s).isSome]) := by
  obtain ⟨cl, h⟩ := h.at
  simp only [lookS, mapOf, h, Option.map_some, Option.bind_some, nEnts_like, guardO, cond_true, nEnts_look]
  cases nget ns s <;> rfl
theorem NMp.len {w : AW} {r : Nat} {ns : List (Byts × Int)} (h : NMp w r ns) : lenM w (.map r) = some (.int .i64 ns.length) := by
  obtain ⟨cl, h⟩ := h.at
  simp only [lenM, h, Option.map_some, nEnts, List.length_map]

/-- A list of sectors. -/
def SL (w : AW) (v : AV) (l : List Byts) : Prop := (∀ s ∈ l, s.length = 64) ∧ ((v = .nilslice ∧ l = []) ∨
  ∃ b o cap ex bs, v = .slice b o l.length cap ex ∧ l.length ≤ cap ∧ okEx ex 64 = true ∧ w.cells? b = some (cellsOfBytes bs) ∧ o + l.length * 64 ≤ bs.length ∧ l.flatten = (bs.drop o).take (l.length * 64))
theorem SL.nil {w : AW} : SL w .nilslice [] := ⟨by simp, .inl ⟨rfl, rfl⟩⟩
theorem SL.mono {w w' : AW} {v : AV} {l : List Byts} (hc : ∀ b bs, w.cells? b = some (cellsOfBytes bs) → w'.cells? b = some (cellsOfBytes bs)) (h : SL w v l) : SL w' v l := by
  obtain ⟨h0, h | ⟨b, o, cap, ex, bs, h1, h2, h3, h4, h5⟩⟩ := h
  · exact ⟨h0, .inl h⟩
  · exact ⟨h0, .inr ⟨b, o, cap, ex, bs, h1, h2, h3, hc _ _ h4, h5⟩⟩
theorem SL.ok {w : AW} {v : AV} {l : List Byts} (h : SL w v l) : okCell v = true := by
  obtain ⟨_, ⟨rfl, _⟩ | ⟨b, o, cap, ex, bs, rfl, _⟩⟩ := h <;> rfl
theorem SL.rs {w : AW} {v : AV} {l : List Byts} (h : SL w v l) : Rs w 64 l.length v (cellsOfBytes l.flatten) := by
  obtain ⟨h0, ⟨rfl, rfl⟩ | ⟨b, o, cap, ex, bs, rfl, h2, h3, h4, h5, h6⟩⟩ := h
  · exact Rs.nil
  · refine .inr ⟨b, o, cap, ex, _, rfl, h4, by rw [cellsOfBytes_length]; exact h5, ?_⟩
    rw [h6]; simp [cellsOfBytes, List.map_drop, List.map_take]
theorem SL.len {w : AW} {v : AV} {l : List Byts} (h : SL w v l) : lenS v = some (.int .i64 l.length) := h.rs.len
/-- A list that is cut. -/
theorem SL.cut {w : AW} {v : AV} {l : List Byts} {k : Nat} (h : SL w v l) (hk : k ≤ l.length) : ∃ v', slS 64 v none (some (.int .i64 (k : Int))) none = some v' ∧ SL w v' (l.take k) := by
  obtain ⟨h0, ⟨rfl, rfl⟩ | ⟨b, o, cap, ex, bs, rfl, h2, h3, h4, h5, h6⟩⟩ := h
  · have : k = 0 := by simpa using hk
    subst this
    exact ⟨.nilslice, rfl, SL.nil⟩
  · have hkl : (l.take k).length = k := by simp; omega
    have hflat : (l.take k).flatten = l.flatten.take (k * 64) := by
      have : ∀ (l : List Byts) (k : Nat), (∀ s ∈ l, s.length = 64) → k ≤ l.length → (l.take k).flatten = l.flatten.take (k * 64) := by
        intro l
        induction l with
        | nil => intro k _ _; simp
        | cons a l ih =>
          intro k h hk
          cases k with
          | zero => simp
          | succ k =>
            have ha := h a List.mem_cons_self
            rw [List.take_succ_cons, List.flatten_cons, List.flatten_cons, ih k (fun s hs => h s (List.mem_cons_of_mem _ hs)) (by simpa using hk), List.take_append, ha]
            rw [List.take_of_length_le (by omega : a.length ≤ (k + 1) * 64)]
            congr 2; omega
      exact this l k h0 hk
    refine ⟨.slice b (o + 0 * 64) (k - 0) (cap - 0) ex, ?_, fun s hs => h0 s (List.mem_of_mem_take hs), .inr ⟨b, o + 0 * 64, cap - 0, ex, bs, ?_, ?_, h3, h4, ?_, ?_⟩⟩
    · simp only [slS, boundA, Option.bind_some, asN_ofNat, okB, ble_of (Nat.zero_le k), ble_of (show k ≤ cap by omega), ble_of (Nat.le_refl cap), h3, guardO]
      rfl
    · rw [hkl]; rfl
    · rw [hkl]; omega
    · rw [hkl]; omega
    · rw [hkl, hflat, h6, List.take_take, Nat.zero_mul, Nat.add_zero]; congr 1; omega

/-- Files, by numbers. -/
def FMp (w : AW) (r : Nat) (F : Int → List Byts) : Prop := ∃ es cl, w.get r = some (.map es cl) ∧ (∀ e ∈ es, ∃ k : Int, e.1 = .int .i64 k) ∧ ∀ k, match lookM (.int .i64 k) es with | some v => SL w v (F k) | none => F k = []
theorem FMp.mono {w w' : AW} {r : Nat} {F : Int → List Byts} (hr : w'.get r = w.get r) (hc : ∀ b bs, w.cells? b = some (cellsOfBytes bs) → w'.cells? b = some (cellsOfBytes bs)) (h : FMp w r F) : FMp w' r F := by
  obtain ⟨es, cl, h1, h2, h3⟩ := h
  refine ⟨es, cl, hr.trans h1, h2, fun k => ?_⟩
  have := h3 k
  cases hl : lookM (.int .i64 k) es with
  | none => rw [hl] at this; exact this
  | some v => rw [hl] at this; exact SL.mono hc this
theorem ints_like {es : List (AV × AV)} (h : ∀ e ∈ es, ∃ k : Int, e.1 = .int .i64 k) (k : Int) : (es.all fun e => likeK (.int .i64 k) e.1) = true := by
  rw [List.all_eq_true]; intro e he
  obtain ⟨j, e1⟩ := h e he
  rw [e1]; rfl
theorem FMp.look {w : AW} {r : Nat} {F : Int → List Byts} (h : FMp w r F) (k : Int) : ∃ v, lookS .nilslice false w (.map r) (.int .i64 k) = some v ∧ SL w v (F k) := by
  obtain ⟨es, cl, h1, h2, h3⟩ := h
  have hm : mapAt w r = some (es, cl) := by unfold mapAt; rw [h1]; rfl
  have h3 := h3 k
  have hk := ints_like h2 k
  cases hl : lookM (.int .i64 k) es with
  | none =>
    rw [hl] at h3
    have h3 : F k = [] := h3
    refine ⟨.nilslice, ?_, by rw [h3]; exact SL.nil⟩
    simp only [lookS, mapOf, hm, Option.map_some, Option.bind_some, hk, guardO, cond_true, hl, cond_false]
  | some v =>
    rw [hl] at h3
    refine ⟨v, ?_, h3⟩
    simp only [lookS, mapOf, hm, Option.map_some, Option.bind_some, hk, guardO, cond_true, hl, cond_false]
theorem lookM_ins {k : Int} {v : AV} : ∀ {es : List (AV × AV)}, (∀ e ∈ es, ∃ k : Int, e.1 = .int .i64 k) → ∀ j : Int, lookM (.int .i64 j) (insM (.int .i64 k) v es) = if j = k then some v else lookM (.int .i64 j) es
  | [], _, j => by
    show (bif (AV.int .i64 k).beq (.int .i64 j) then some v else none) = _
    rw [beq_int]
    by_cases h : j = k
    · simp [h]
    · have h' : ¬ k = j := fun e => h e.symm
      simp [h, h', lookM]
  | (a, u) :: es, h, j => by
    have ih := lookM_ins (k := k) (v := v) (es := es) (fun e he => h e (List.mem_cons_of_mem _ he)) j
    obtain ⟨i, hi⟩ := h (a, u) List.mem_cons_self
    have hi : a = .int .i64 i := hi
    subst hi
    simp only [insM, beq_int]
    by_cases hik : i = k
    · subst hik
      simp only [decide_true, Bool.and_self, cond_true, lookM, beq_int]
      by_cases h : j = i
      · simp [h]
      · have h' : ¬ i = j := fun e => h e.symm
        simp [h, h']
    · simp only [hik, decide_true, decide_false, Bool.and_false, cond_false, lookM, beq_int, ih]
      by_cases hij : i = j
      · subst hij; simp [hik]
      · simp [hij]
theorem ints_ins {k : Int} {v : AV} : ∀ {es : List (AV × AV)}, (∀ e ∈ es, ∃ k : Int, e.1 = .int .i64 k) → ∀ e ∈ insM (.int .i64 k) v es, ∃ k : Int, e.1 = .int .i64 k
  | [], _, e, he => by simp [insM] at he; subst he; exact ⟨k, rfl⟩
  | (a, u) :: es, h, e, he => by
    simp only [insM] at he
    cases hb : a.beq (.int .i64 k) with
    | true =>
      rw [hb] at he
      rcases List.mem_cons.1 he with rfl | he
      · exact ⟨k, rfl⟩
      · exact h e (List.mem_cons_of_mem _ he)
    | false =>
      rw [hb] at he
      rcases List.mem_cons.1 he with rfl | he
      · exact h _ List.mem_cons_self
      · exact ints_ins (fun e he => h e (List.mem_cons_of_mem _ he)) e he

/-- Blocks of bytes stay; only some others turn. -/
structure Tz (X : List Nat) (w w' : AW) : Prop where
  ch : Ch X w w'
  cells : ∀ b bs, w.cells? b = some (cellsOfBytes bs) → w'.cells? b = some (cellsOfBytes bs)
theorem Tz.of_fr {X : List Nat} {w w' : AW} (hm : Mem w) (h : Fr w.size w w') : Tz X w w' := ⟨h.ch, fun b bs hb => h.cells hm hb (Nat.le_refl _)⟩
theorem Tz.refl {X : List Nat} {w : AW} (hm : Mem w) : Tz X w w := ⟨Ch.refl hm, fun _ _ h => h⟩
theorem Tz.trans {X : List Nat} {w w1 w2 : AW} (h : Tz X w w1) (h' : Tz X w1 w2) : Tz X w w2 := ⟨h.ch.trans h'.ch, fun b bs hb => h'.cells _ _ (h.cells _ _ hb)⟩
theorem Tz.mono {X Y : List Nat} {w w' : AW} (h : Tz X w w') (hs : ∀ x ∈ X, x ∈ Y) : Tz Y w w' := ⟨h.ch.mono hs, h.cells⟩
/-- What turns behind may be new. -/
theorem Tz.trans' {X Y : List Nat} {w w1 w2 : AW} (h : Tz X w w1) (h' : Tz Y w1 w2) (hY : ∀ y ∈ Y, y ∈ X ∨ w.size ≤ y) : Tz X w w2 :=
  ⟨⟨Nat.le_trans h.ch.size h'.ch.size, fun b hb hx => (h'.ch.old b (Nat.lt_of_lt_of_le hb h.ch.size) fun hy => by
    rcases hY b hy with h | h
    · exact hx h
    · omega).trans (h.ch.old b hb hx), h'.ch.mem⟩, fun b bs hb => h'.cells _ _ (h.cells _ _ hb)⟩
theorem not_cells_bytes {a : AV} {cs : List AV} (ha : ∀ n, a ≠ .int .u8 n) (bs : Byts) : a :: cs ≠ cellsOfBytes bs := fun e => by
  cases bs with
  | nil => cases e
  | cons b bs => simp only [cellsOfBytes, List.map_cons, List.cons.injEq] at e; exact ha _ e.1
/-- A block that is none of bytes is written. -/
theorem Tz.box {w w' : AW} {x : Nat} {a : AV} {cs cs' : List AV} (hm : Mem w) (hc : Ch [x] w w') (hb : Box w x (a :: cs)) (hb' : Box w' x cs') (ha : ∀ n, a ≠ .int .u8 n) : Tz [x] w w' := by
  refine ⟨hc, fun b bs h => ?_⟩
  obtain ⟨y, o', d', g1, g2, g3⟩ := AW.cells?_iff.1 h
  have e1 : b ≠ x := fun e => by
    subst e
    unfold Box at hb
    rw [g3] at hb
    simp only [Option.some.injEq, AO.cells.injEq] at hb
    exact not_cells_bytes ha bs hb.1.symm
  obtain ⟨c0, hc0, _⟩ := AW.root?_iff.1 (AW.fam?_root g1)
  have hroot : w'.root? y.1 = w.root? y.1 := by
    by_cases e2 : y.1 = x
    · rw [e2]
      have r1 : w.root? x = some (x, x, false) := AW.root?_iff.2 ⟨_, hb, rfl⟩
      have r2 : w'.root? x = some (x, x, false) := AW.root?_iff.2 ⟨_, hb', rfl⟩
      rw [r1, r2]
    · exact AW.root?_congr (hc.old _ (hm.lt _ _ hc0) (by simpa using e2))
  have hgb : w'.get b = w.get b := hc.old _ (hm.lt _ _ g3) (by simpa using e1)
  exact AW.cells?_iff.2 ⟨y, o', d', AW.fam?_iff.2 ⟨_, o', d', hgb.trans g3, hroot.trans (AW.fam?_root g1)⟩, g2, hgb.trans g3⟩
/-- A map turns. -/
theorem Tz.map {w w' : AW} {r : Nat} (hm : Mem w) (hc : Ch [r] w w') (hr : ∃ es cl, w.get r = some (.map es cl)) : Tz [r] w w' := by
  refine ⟨hc, fun b bs h => ?_⟩
  obtain ⟨es, cl, hr⟩ := hr
  obtain ⟨x, o, d, h1, h2, h3⟩ := AW.cells?_iff.1 h
  obtain ⟨cs0, h4, _⟩ := AW.root?_iff.1 (AW.fam?_root h1)
  have e1 : b ≠ r := fun e => by rw [e, hr] at h3; cases h3
  have e2 : x.1 ≠ r := fun e => by rw [e, hr] at h4; cases h4
  rw [AW.cells?_congr h1 (hc.old _ (hm.lt _ _ h3) (by simpa using e1)) (hc.old _ (hm.lt _ _ h4) (by simpa using e2))]
  exact h
theorem kvSet_of {w : AW} {r : Nat} {es : List (AV × AV)} {cl : Nat} {k v : AV} (hm : Mem w) (hr : w.get r = some (.map es cl)) (hl : (es.all fun e => likeK k e.1) = true) {K : AV → AW → Prop}
    (hK : ∀ w', Tz [r] w w' → w'.size = w.size → w'.get r = some (.map (insM k v es) (cl + 1)) → K undef w') : onE (kvSet w (.map r) k v) K := by
  have hma : mapAt w r = some (es, cl) := by unfold mapAt; rw [hr]; rfl
  refine onE_s (v := undef) (w := w.set r (.map (insM k v es) (cl + 1))) ?_ (hK _ (Tz.map hm (Ch.set hm (hm.lt _ _ hr) fun cs f own d e => by cases e) ⟨_, _, hr⟩) rfl (by rw [AW.set_get, if_pos rfl]))
  simp only [kvSet, hma, Option.bind_some, hl, guardO, cond_true]
theorem kvDel_of {w : AW} {r : Nat} {es : List (AV × AV)} {cl : Nat} {k : AV} (hm : Mem w) (hr : w.get r = some (.map es cl)) (hl : (es.all fun e => likeK k e.1) = true) {K : AV → AW → Prop}
    (hK : ∀ w', Tz [r] w w' → w'.size = w.size → w'.get r = some (.map (delM k es) (cl + 1)) → K undef w') : onE (kvDel w (.map r) k) K := by
  have hma : mapAt w r = some (es, cl) := by unfold mapAt; rw [hr]; rfl
  refine onE_s (v := undef) (w := w.set r (.map (delM k es) (cl + 1))) ?_ (hK _ (Tz.map hm (Ch.set hm (hm.lt _ _ hr) fun cs f own d e => by cases e) ⟨_, _, hr⟩) rfl (by rw [AW.set_get, if_pos rfl]))
  simp only [kvDel, hma, Option.bind_some, hl, guardO, cond_true]
end Go.Sx

/-! The disk of chapter 7, whole: purely, and in memory. -/
namespace Go.Sx

theorem Cl_ext {P : Program} {hk : Hook} {f : FuncId} {fn : Func} {args : List AV} {w w' : AW} {v : AV} {K : AV → AW → Prop} (hn : hk f args w = none) (hf : P.funcs[f]? = some fn) (hb : fn.body = none) (he : externA w fn.name args = some (v, w')) (hK : K v w') : Cl P hk f args w K := by
  refine wpL_in (t := .call f args w) ?_
  show wCall P _ hk f args w _
  unfold wCall
  rw [hn]
  refine ⟨fn, hf, ?_⟩
  unfold wEnter
  rw [hb]
  exact ⟨v, w', he, hK⟩
theorem ext_load {w : AW} {b o : Nat} {n : Int} (h : ld w b o = some (.int .i64 n)) : externA w "sync/atomic.LoadInt64" [.ptr b o] = some (.int .i64 n, w) := by
  unfold ld at h
  cases hc : w.cells? b with
  | none => rw [hc] at h; cases h
  | some cs =>
    rw [hc] at h
    have h : cs[o]? = some (.int .i64 n) := h
    obtain ⟨hlt, he⟩ := List.getElem?_eq_some_iff.1 h
    have : (cs.drop o).take 1 = [.int .i64 n] := by
      rw [List.drop_eq_getElem_cons hlt, he]; rfl
    simp only [externA, if_true, AW.read, hc, takeCells_some (show o + 1 ≤ cs.length by omega), this, Option.bind_some]
theorem ext_store {w w' : AW} {b o : Nat} {n : Int} (h : w.putCells b o [.int .i64 n] = some w') : externA w "sync/atomic.StoreInt64" [.ptr b o, .int .i64 n] = some (undef, w') := by
  unfold externA
  rw [if_neg (by decide), if_pos rfl]
  simp only [h, Option.map_some]
theorem ext_add {w w' : AW} {b o : Nat} {n d : Int} (h : ld w b o = some (.int .i64 n)) (h' : w.putCells b o [.int .i64 (wi (n + d))] = some w') : externA w "sync/atomic.AddInt64" [.ptr b o, .int .i64 d] = some (.int .i64 (wi (n + d)), w') := by
  unfold ld at h
  cases hc : w.cells? b with
  | none => rw [hc] at h; cases h
  | some cs =>
    rw [hc] at h
    have h : cs[o]? = some (.int .i64 n) := h
    obtain ⟨hlt, he⟩ := List.getElem?_eq_some_iff.1 h
    have : (cs.drop o).take 1 = [.int .i64 n] := by
      rw [List.drop_eq_getElem_cons hlt, he]; rfl
    unfold externA
    rw [if_neg (by decide), if_neg (by decide), if_pos rfl]
    simp only [AW.read, hc, takeCells_some (show o + 1 ≤ cs.length by omega), this, Option.bind_some]
    have h' : w.putCells b o [.int .i64 (IntKind.i64.wrap (n + d))] = some w' := h'
    rw [h']; rfl
theorem ext_clone {w : AW} {t r : Nat} {es : List (AV × AV)} {cl : Nat} (h : w.get r = some (.map es cl)) : externA w "maps.clone" [.iface t (.map r)] = some (.iface t (.map w.size), w.push (.map es 0)) := by
  have hma : mapAt w r = some (es, cl) := by unfold mapAt; rw [h]; rfl
  unfold externA
  rw [if_neg (by decide), if_neg (by decide), if_neg (by decide), if_pos rfl]
  simp only [hma, Option.map_some]

structure Dsk where
  safe : FS
  now : FS
  steps : List Stp
  last : Int
  down : Bool
  arm : Int
  fault : Int
  wth : Int
def FS.none : FS := ⟨[], fun _ => []⟩
def Dsk.none : Dsk := ⟨FS.none, FS.none, [], 0, false, 0, 0, 0⟩
/-- An operation goes by. -/
def spent (n : Int) : Int × Bool := if n = 0 then (0, false) else (wi (n + -1), decide (wi (n + -1) = 0))
def Dsk.stopped (d : Dsk) : Dsk × Int :=
  if d.down then (d, 6) else
  if (spent d.arm).2 then ({ d with fault := (spent d.fault).1, arm := (spent d.arm).1, down := true }, 6)
  else ({ d with fault := (spent d.fault).1, arm := (spent d.arm).1 }, if (spent d.fault).2 then d.wth else 0)
def Dsk.more (d : Dsk) (l : List Stp) : Dsk × Int :=
  if d.stopped.2 ≠ 0 then d.stopped else ({ d.stopped.1 with steps := d.stopped.1.steps ++ l, now := l.foldl FS.does d.stopped.1.now }, 0)
def settleL (so : Nat → Stp → Bool) : Nat → List Stp → FS → FS × List Stp
  | _, [], s => (s, [])
  | i, x :: r, s => if so i x then settleL so (i + 1) r (s.does x) else ((settleL so (i + 1) r s).1, x :: (settleL so (i + 1) r s).2)
def Dsk.settle (d : Dsk) (so : Nat → Stp → Bool) : Dsk × Int :=
  if d.stopped.2 ≠ 0 then d.stopped else ({ d.stopped.1 with safe := (settleL so 0 d.stopped.1.steps d.stopped.1.safe).1, steps := (settleL so 0 d.stopped.1.steps d.stopped.1.safe).2 }, 0)
def named (s : Byts) : Bool := decide (1 ≤ s.length ∧ s.length ≤ 64)
def Dsk.put (d : Dsk) (name : Byts) (at_ : Int) (data : Byts) : Dsk × Int :=
  let f := (nget d.now.names name).getD 0
  if !named name ∨ data.length ≠ 64 ∨ at_ < 0 ∨ ((d.now.files f).length : Int) < at_ ∨ (nget d.now.names name = Option.none ∧ 0 < at_) then (d, 2)
  else if at_ = 4096 ∨ (nget d.now.names name = Option.none ∧ 256 ≤ d.now.names.length) then (d, 5)
  else match nget d.now.names name with
    | some f => d.more [⟨1, f, at_, data, [], []⟩]
    | Option.none =>
      let r := d.more [⟨0, d.last + 1, 0, zsec, name, []⟩, ⟨1, d.last + 1, at_, data, [], []⟩]
      if r.2 ≠ 0 then r else ({ r.1 with last := d.last + 1 }, 0)
def Dsk.cut (d : Dsk) (name : Byts) (n : Int) : Dsk × Int :=
  match nget d.now.names name with
  | Option.none => (d, 70)
  | some f => if n < 0 ∨ ((d.now.files f).length : Int) < n then (d, 2) else d.more [⟨2, f, n, zsec, [], []⟩]
def Dsk.rename (d : Dsk) (a b : Byts) : Dsk × Int :=
  if !named b then (d, 2) else
  match nget d.now.names a with
  | Option.none => (d, 70)
  | some f => if a = b then d.more [] else d.more [⟨3, f, 0, zsec, a, b⟩]
def Dsk.remove (d : Dsk) (a : Byts) : Dsk × Int :=
  match nget d.now.names a with
  | Option.none => (d, 70)
  | some f => d.more [⟨4, f, 0, zsec, a, []⟩]
def upto (f : Int) (l : List Stp) : Int := match l.findIdx? fun x => decide (x.file = f) && decide (x.what = 0) with | some i => i | Option.none => -1
def Dsk.sync (d : Dsk) (a : Byts) : Dsk × Int :=
  match nget d.now.names a with
  | Option.none => (d, 70)
  | some f => d.settle fun i x => if x.what = 1 ∨ x.what = 2 then decide (x.file = f) else decide ((i : Int) ≤ upto f d.steps)
def Dsk.syncNames (d : Dsk) : Dsk × Int := d.settle fun _ x => decide (x.what ≠ 1) && decide (x.what ≠ 2)
def Dsk.read (d : Dsk) (a : Byts) : Byts × Int :=
  match nget d.now.names a with
  | Option.none => ([], 70)
  | some f => if d.down then ([], 6) else ((d.now.files f).flatten, 0)

/-! ### In memory -/
def Dsk.cells (n1 f1 n2 f2 : Nat) (sv : AV) (d : Dsk) : List AV :=
  [.bool true, .map n1, .map f1, .map n2, .map f2, sv, .int .i64 d.last, .bool d.down, .int .i64 d.arm, .int .i64 d.fault, .int .i64 d.wth]
def stpsC (l : List Stp) : List AV := l.flatMap Stp.cells
theorem stpsC_length {l : List Stp} (h : ∀ x ∈ l, x.data.length = 64) : (stpsC l).length = l.length * 69 := by
  induction l with
  | nil => rfl
  | cons a l ih =>
    show (a.cells ++ stpsC l).length = _
    rw [List.length_append, Stp.length (h a List.mem_cons_self), ih fun x hx => h x (List.mem_cons_of_mem _ hx), List.length_cons, Nat.add_mul]; omega
theorem stpsC_at {l : List Stp} (h : ∀ x ∈ l, x.data.length = 64) {i : Nat} (hi : i < l.length) : ((stpsC l).drop (i * 69)).take 69 = l[i].cells := by
  induction l generalizing i with
  | nil => simp at hi
  | cons a l ih =>
    have ha := Stp.length (h a List.mem_cons_self)
    show ((a.cells ++ stpsC l).drop (i * 69)).take 69 = _
    cases i with
    | zero => rw [Nat.zero_mul, List.drop_zero, List.take_left' ha]; rfl
    | succ i =>
      rw [show (i + 1) * 69 = a.cells.length + i * 69 by rw [ha]; omega, List.drop_append, List.drop_eq_nil_of_le (by omega), List.nil_append]
      rw [show a.cells.length + i * 69 - a.cells.length = i * 69 by omega]
      exact ih (fun x hx => h x (List.mem_cons_of_mem _ hx)) (by simpa using hi)
theorem stpsC_append (l l' : List Stp) : stpsC (l ++ l') = stpsC l ++ stpsC l' := by simp [stpsC]

structure DkM (X : List Nat) (w : AW) (D n1 f1 n2 f2 : Nat) (sv : AV) (d : Dsk) : Prop where
  D0 : D ≠ 0
  box : Box w D (d.cells n1 f1 n2 f2 sv)
  N1 : NMp w n1 d.safe.names
  F1 : FMp w f1 d.safe.files
  N2 : NMp w n2 d.now.names
  F2 : FMp w f2 d.now.files
  nd : n1 ≠ f1 ∧ n1 ≠ n2 ∧ n1 ≠ f2 ∧ f1 ≠ n2 ∧ f1 ≠ f2 ∧ n2 ≠ f2
  st : Gc (· ∈ X) 69 w sv (stpsC d.steps)
  sd : ∀ x ∈ d.steps, x.data.length = 64
  inX : D ∈ X ∧ n1 ∈ X ∧ f1 ∈ X ∧ n2 ∈ X ∧ f2 ∈ X

theorem NMp.fr {w w' : AW} {r : Nat} {ns : List (Byts × Int)} (h : NMp w r ns) (hg : w'.get r = w.get r) : NMp w' r ns := by
  obtain ⟨cl, h⟩ := h; exact ⟨cl, hg.trans h⟩
theorem NMp.isMap {w : AW} {r : Nat} {ns : List (Byts × Int)} (h : NMp w r ns) : ∃ es cl, w.get r = some (.map es cl) := by
  obtain ⟨cl, h⟩ := h; exact ⟨_, cl, h⟩
theorem FMp.isMap {w : AW} {r : Nat} {F : Int → List Byts} (h : FMp w r F) : ∃ es cl, w.get r = some (.map es cl) := by
  obtain ⟨es, cl, h, _⟩ := h; exact ⟨_, cl, h⟩

/-- What is beside the disk turns: nothing of it. -/
theorem DkM.keep {X : List Nat} {w w' : AW} {D n1 f1 n2 f2 : Nat} {sv : AV} {d : Dsk} (h : DkM X w D n1 f1 n2 f2 sv d) (hm : Mem w) (hc : ∀ c, c < w.size → (c ∈ X ∨ blk sv = some c) → w'.get c = w.get c) (hb : ∀ b bs, w.cells? b = some (cellsOfBytes bs) → w'.cells? b = some (cellsOfBytes bs)) : DkM X w' D n1 f1 n2 f2 sv d := by
  obtain ⟨x1, x2, x3, x4, x5⟩ := h.inX
  have lt : ∀ {r : Nat}, (∃ es cl, w.get r = some (.map es cl)) → r < w.size := fun ⟨_, _, h⟩ => hm.lt _ _ h
  exact ⟨h.D0, (hc _ (h.box.lt hm) (.inl x1)).trans h.box, h.N1.fr (hc _ (lt h.N1.isMap) (.inl x2)), h.F1.mono (hc _ (lt h.F1.isMap) (.inl x3)) hb, h.N2.fr (hc _ (lt h.N2.isMap) (.inl x4)), h.F2.mono (hc _ (lt h.F2.isMap) (.inl x5)) hb, h.nd, h.st.keep hm hc, h.sd, h.inX⟩
theorem DkM.fr {X : List Nat} {w w' : AW} {D n1 f1 n2 f2 : Nat} {sv : AV} {d : Dsk} (h : DkM X w D n1 f1 n2 f2 sv d) (hm : Mem w) (hf : Fr w.size w w') : DkM X w' D n1 f1 n2 f2 sv d :=
  h.keep hm (fun c hc _ => hf.old c hc) fun b bs hb => hf.cells hm hb (Nat.le_refl _)
theorem DkM.more {X Y : List Nat} {w : AW} {D n1 f1 n2 f2 : Nat} {sv : AV} {d : Dsk} (h : DkM X w D n1 f1 n2 f2 sv d) (hX : ∀ x ∈ X, x ∈ Y) : DkM Y w D n1 f1 n2 f2 sv d :=
  ⟨h.D0, h.box, h.N1, h.F1, h.N2, h.F2, h.nd, h.st.le hX, h.sd, let ⟨a, b, c, d, e⟩ := h.inX; ⟨hX _ a, hX _ b, hX _ c, hX _ d, hX _ e⟩⟩
/-- The block of the disk is written. -/
theorem DkM.put {X : List Nat} {w : AW} {D n1 f1 n2 f2 : Nat} {sv : AV} {d d' : Dsk} {o : Nat} {vs : List AV} (h : DkM X w D n1 f1 n2 f2 sv d) (hm : Mem w) (hl : o + vs.length ≤ 11) (hd : listPut (d.cells n1 f1 n2 f2 sv) o vs = d'.cells n1 f1 n2 f2 sv)
    (e1 : d'.safe = d.safe) (e2 : d'.now = d.now) (e3 : d'.steps = d.steps) {K : AW → Prop} (hK : ∀ w', Tz [D] w w' → w'.size = w.size → DkM X w' D n1 f1 n2 f2 sv d' → K w') : onM (w.putCells D o vs) K := by
  refine h.box.put' hm h.D0 hl fun w' c' b' z' => ?_
  rw [hd] at b'
  have ht : Tz [D] w w' := Tz.box hm c' h.box b' (by simp)
  have hne : ∀ {r : Nat}, (∃ es cl, w.get r = some (.map es cl)) → r ≠ D := fun {r} ⟨_, _, h'⟩ e => by
    have hb := h.box
    unfold Box at hb
    rw [← e, h'] at hb; cases hb
  have lt : ∀ {r : Nat}, (∃ es cl, w.get r = some (.map es cl)) → r < w.size := fun ⟨_, _, h⟩ => hm.lt _ _ h
  have hg : ∀ {r : Nat}, (∃ es cl, w.get r = some (.map es cl)) → w'.get r = w.get r := fun {r} hr => c'.old _ (lt hr) (by simpa using hne hr)
  refine hK w' ht z' ⟨h.D0, b', ?_, ?_, ?_, ?_, h.nd, ?_, by rw [e3]; exact h.sd, h.inX⟩
  · rw [e1]; exact h.N1.fr (hg h.N1.isMap)
  · rw [e1]; exact h.F1.mono (hg h.F1.isMap) ht.cells
  · rw [e2]; exact h.N2.fr (hg h.N2.isMap)
  · rw [e2]; exact h.F2.mono (hg h.F2.isMap) ht.cells
  · rw [e3]
    refine h.st.ch hm c' fun x hx => ?_
    simp at hx; subst hx
    refine .inr ⟨_, h.box, fun e => ?_⟩
    rcases h.st with ⟨e', _⟩ | ⟨b, f, n, ex, o, dd, e', g1, g2, g3, g4, g5, g6⟩
    · rw [e'] at e; cases e
    · rw [e'] at e
      cases e
      have hb := h.box
      unfold Box at hb
      rw [g5] at hb
      simp only [Option.some.injEq, AO.cells.injEq] at hb
      have h1 := hb.1
      cases hs : d.steps with
      | nil => rw [hs] at h1; cases h1
      | cons a l => rw [hs] at h1; cases h1
end Go.Sx

/-! The disk in memory: steps are added, states are turned. -/
namespace Go.Sx

theorem cells_maps {X : List Nat} {w w' : AW} (hm : Mem w) (hc : Ch X w w') (hX : ∀ x ∈ X, ∃ es cl, w.get x = some (.map es cl)) {c : Nat} {all : List AV} (h : w.cells? c = some all) : w'.cells? c = some all := by
  obtain ⟨x, o, d, h1, h2, h3⟩ := AW.cells?_iff.1 h
  obtain ⟨cs0, h4, _⟩ := AW.root?_iff.1 (AW.fam?_root h1)
  have e1 : c ∉ X := fun hx => by obtain ⟨_, _, g⟩ := hX _ hx; rw [h3] at g; cases g
  have e2 : x.1 ∉ X := fun hx => by obtain ⟨_, _, g⟩ := hX _ hx; rw [h4] at g; cases g
  rw [AW.cells?_congr h1 (hc.old _ (hm.lt _ _ h3) e1) (hc.old _ (hm.lt _ _ h4) e2)]
  exact h
theorem cells_box {w w' : AW} {x : Nat} {bs bs' : List AV} (hm : Mem w) (hc : Ch [x] w w') (hb : Box w x bs) (hb' : Box w' x bs') {c : Nat} {all : List AV} (hne : c ≠ x) (h : w.cells? c = some all) : w'.cells? c = some all := by
  obtain ⟨y, o', d', g1, g2, g3⟩ := AW.cells?_iff.1 h
  obtain ⟨c0, hc0, _⟩ := AW.root?_iff.1 (AW.fam?_root g1)
  have hroot : w'.root? y.1 = w.root? y.1 := by
    by_cases e2 : y.1 = x
    · rw [e2]
      have r1 : w.root? x = some (x, x, false) := AW.root?_iff.2 ⟨_, hb, rfl⟩
      have r2 : w'.root? x = some (x, x, false) := AW.root?_iff.2 ⟨_, hb', rfl⟩
      rw [r1, r2]
    · exact AW.root?_congr (hc.old _ (hm.lt _ _ hc0) (by simpa using e2))
  have hgb : w'.get c = w.get c := hc.old _ (hm.lt _ _ g3) (by simpa using hne)
  exact AW.cells?_iff.2 ⟨y, o', d', AW.fam?_iff.2 ⟨_, o', d', hgb.trans g3, hroot.trans (AW.fam?_root g1)⟩, g2, hgb.trans g3⟩
theorem Rs.via {w w' : AW} {sz n : Nat} {v : AV} {cs : List AV} (h : Rs w sz n v cs) (hc : ∀ c all, blk v = some c → w.cells? c = some all → w'.cells? c = some all) : Rs w' sz n v cs := by
  rcases h with h | ⟨b, o, cap, ex, all, rfl, h2, h3, h4⟩
  · exact .inl h
  · exact .inr ⟨b, o, cap, ex, all, rfl, hc _ _ rfl h2, h3, h4⟩
theorem box_maps {X : List Nat} {w w' : AW} (hm : Mem w) (hc : Ch X w w') (hX : ∀ x ∈ X, ∃ es cl, w.get x = some (.map es cl)) {c : Nat} {cs : List AV} (h : Box w c cs) : Box w' c cs :=
  hc.box hm h fun hx => by
    obtain ⟨_, _, g⟩ := hX _ hx
    unfold Box at h
    rw [h] at g; cases g
theorem Gc.ge {m sz : Nat} {w : AW} {v : AV} {cs : List AV} (h : Gc (m ≤ ·) sz w v cs) (hm : Mem w) {c : Nat} (hc : blk v = some c) : m ≤ c := by
  rcases h with ⟨rfl, _⟩ | ⟨b, f, n, ex, o, d, rfl, h2, h3, h4, h5, h6, h7⟩
  · cases hc
  · cases hc; have := hm.fam _ _ _ _ _ h6; have : m ≤ f := h4; omega

section
variable {X : List Nat} {w w' : AW} {D n1 f1 n2 f2 : Nat} {sv : AV} {d : Dsk}
theorem DkM.maps (h : DkM X w D n1 f1 n2 f2 sv d) : ∀ x ∈ [n1, f1, n2, f2], ∃ es cl, w.get x = some (.map es cl) := fun x hx => by
  simp at hx
  rcases hx with rfl | rfl | rfl | rfl
  · exact h.N1.isMap
  · exact h.F1.isMap
  · exact h.N2.isMap
  · exact h.F2.isMap
theorem DkM.neD (h : DkM X w D n1 f1 n2 f2 sv d) : ∀ x ∈ [n1, f1, n2, f2], x ≠ D := fun x hx e => by
  obtain ⟨_, _, g⟩ := h.maps x hx
  have hb := h.box
  unfold Box at hb
  rw [← e, g] at hb; cases hb
theorem DkM.svD (h : DkM X w D n1 f1 n2 f2 sv d) : blk sv ≠ some D := fun e => by
  rcases h.st with ⟨e', _⟩ | ⟨b, f, n, ex, o, dd, e', g1, g2, g3, g4, g5, g6⟩
  · rw [e'] at e; cases e
  · rw [e'] at e
    cases e
    have hb := h.box
    unfold Box at hb
    rw [g5] at hb
    simp only [Option.some.injEq, AO.cells.injEq] at hb
    have h1 := hb.1
    cases hs : d.steps with
    | nil => rw [hs] at h1; cases h1
    | cons a l => rw [hs] at h1; cases h1
theorem DkM.lt (h : DkM X w D n1 f1 n2 f2 sv d) (hm : Mem w) : D < w.size ∧ ∀ x ∈ [n1, f1, n2, f2], x < w.size :=
  ⟨h.box.lt hm, fun x hx => by obtain ⟨_, _, g⟩ := h.maps x hx; exact hm.lt _ _ g⟩
theorem DkM.rs (h : DkM X w D n1 f1 n2 f2 sv d) : Rs w 69 d.steps.length sv (stpsC d.steps) := h.st.rs (by decide) (stpsC_length h.sd)

/-- The state that stands turns. -/
theorem DkM.setNow (h : DkM X w D n1 f1 n2 f2 sv d) (hm : Mem w) (ht : Tz [n2, f2] w w') {s : FS} (hN : NMp w' n2 s.names) (hF : FMp w' f2 s.files) : DkM X w' D n1 f1 n2 f2 sv { d with now := s } := by
  have hmp : ∀ x ∈ [n2, f2], ∃ es cl, w.get x = some (.map es cl) := fun x hx => h.maps x (by simp at hx ⊢; omega)
  obtain ⟨l1, l2⟩ := h.lt hm
  obtain ⟨a1, a2, a3, a4, a5, a6⟩ := h.nd
  have hd := h.neD
  refine ⟨h.D0, box_maps hm ht.ch hmp h.box, h.N1.fr (ht.ch.old _ (l2 _ (by simp)) (by simp; omega)), h.F1.mono (ht.ch.old _ (l2 _ (by simp)) (by simp; omega)) ht.cells, hN, hF, h.nd, h.st.ch hm ht.ch fun x hx => .inl (hmp x hx), h.sd, h.inX⟩
/-- The state that is safe turns. -/
theorem DkM.setSafe (h : DkM X w D n1 f1 n2 f2 sv d) (hm : Mem w) (ht : Tz [n1, f1] w w') {s : FS} (hN : NMp w' n1 s.names) (hF : FMp w' f1 s.files) : DkM X w' D n1 f1 n2 f2 sv { d with safe := s } := by
  have hmp : ∀ x ∈ [n1, f1], ∃ es cl, w.get x = some (.map es cl) := fun x hx => h.maps x (by simp at hx ⊢; omega)
  obtain ⟨l1, l2⟩ := h.lt hm
  obtain ⟨a1, a2, a3, a4, a5, a6⟩ := h.nd
  refine ⟨h.D0, box_maps hm ht.ch hmp h.box, hN, hF, h.N2.fr (ht.ch.old _ (l2 _ (by simp)) (by simp; omega)), h.F2.mono (ht.ch.old _ (l2 _ (by simp)) (by simp; omega)) ht.cells, h.nd, h.st.ch hm ht.ch fun x hx => .inl (hmp x hx), h.sd, h.inX⟩
/-- Another row of steps is stored. -/
theorem DkM.setSteps (h : DkM X w D n1 f1 n2 f2 sv d) (hm : Mem w) {Y : List Nat} (hY : ∀ x ∈ X, x ∈ Y) {sv' : AV} {l : List Stp} (hl : ∀ x ∈ l, x.data.length = 64) (hg : Gc (· ∈ Y) 69 w sv' (stpsC l)) (hne : blk sv' ≠ some D)
    {K : AW → Prop} (hK : ∀ w', Tz [D] w w' → w'.size = w.size → (∀ c all, c ≠ D → w.cells? c = some all → w'.cells? c = some all) → DkM Y w' D n1 f1 n2 f2 sv' { d with steps := l } → K w') : onM (w.putCells D 5 [sv']) K := by
  refine h.box.put' hm h.D0 (by simp [Dsk.cells]) fun w' c' b' z' => ?_
  have b' : Box w' D ({ d with steps := l }.cells n1 f1 n2 f2 sv') := b'
  have ht : Tz [D] w w' := Tz.box hm c' h.box b' (by simp)
  obtain ⟨l1, l2⟩ := h.lt hm
  have hd := h.neD
  have hg' : ∀ x ∈ [n1, f1, n2, f2], w'.get x = w.get x := fun x hx => c'.old _ (l2 x hx) (by simpa using hd x hx)
  obtain ⟨x1, x2, x3, x4, x5⟩ := h.inX
  refine hK w' ht z' (fun c all hc h' => cells_box hm c' h.box b' hc h') ⟨h.D0, b', h.N1.fr (hg' _ (by simp)), h.F1.mono (hg' _ (by simp)) ht.cells, h.N2.fr (hg' _ (by simp)), h.F2.mono (hg' _ (by simp)) ht.cells, h.nd, hg.ch hm c' fun x hx => ?_, hl, ⟨hY _ x1, hY _ x2, hY _ x3, hY _ x4, hY _ x5⟩⟩
  simp at hx; subst hx
  exact .inr ⟨_, h.box, hne⟩
/-- A step behind the others. -/
theorem DkM.app {x : Stp} {xv : AV} (h : DkM X w D n1 f1 n2 f2 sv d) (hm : Mem w) (hw : 0 < w.size) (hx : x.data.length = 64) (hxv : Rs w 69 1 xv x.cells) (hlen : d.steps.length < 2 ^ 28)
    {K : AV → AW → Prop} (hK : ∀ sv' w', okCell sv' = true → w.size ≤ w'.size → (∀ K2 : AW → Prop, (∀ w2, Tz (w.size :: X) w w2 → w'.size ≤ w2.size → (∀ c all, c ≠ D → w.cells? c = some all → w2.cells? c = some all) → DkM (w.size :: X) w2 D n1 f1 n2 f2 sv' { d with steps := d.steps ++ [x] } → K2 w2) → onM (w'.putCells D 5 [sv']) K2) → K sv' w') : onE (appS 69 120 w sv xv) K := by
  have hcl := stpsC_length h.sd
  have h0 := h.st.le (Q' := (· ∈ w.size :: X)) fun f hf => List.mem_cons_of_mem _ hf
  refine h0.app hm (by simp) hw (by decide) hxv (by rw [hcl, Nat.mul_div_cancel _ (by decide)]; omega) (by rw [hcl, Nat.mul_div_cancel _ (by decide)]; omega) fun sv' w' hg hgr hfresh => ?_
  refine hK sv' w' hg.ok hgr.size fun K2 hK2 => ?_
  have hst : stpsC d.steps ++ x.cells = stpsC (d.steps ++ [x]) := by rw [stpsC_append]; simp [stpsC]
  rw [hst] at hg
  have hsd : ∀ y ∈ d.steps ++ [x], y.data.length = 64 := fun y hy => by
    rcases List.mem_append.1 hy with hy | hy
    · exact h.sd y hy
    · simp at hy; subst hy; exact hx
  have hmp := h.maps
  have hg' : ∀ r ∈ [n1, f1, n2, f2], w'.get r = w.get r := fun r hr => by
    obtain ⟨es, cl, g⟩ := hmp r hr
    rw [g]; exact hgr.obj _ _ g fun cs f own d e => by cases e
  have hcb : ∀ b bs, w.cells? b = some (cellsOfBytes bs) → w'.cells? b = some (cellsOfBytes bs) := fun b bs hb => hgr.cells _ _ hb
  have hbox := hgr.box _ _ h.box h.svD
  obtain ⟨x1, x2, x3, x4, x5⟩ := h.inX
  -- the disk but for its row of steps
  have hne : blk sv' ≠ some D := fun e => by
    have hlt := (h.lt hm).1
    have := hfresh _ e hlt
    rw [this] at e
    exact h.svD e
  have hd' : DkM (w.size :: X) w' D n1 f1 n2 f2 sv' { d with steps := d.steps ++ [x] } ∨ True := .inr trivial
  refine hbox.put' hgr.mem h.D0 (by simp [Dsk.cells]) fun w2 c2 b2 z2 => ?_
  have b2 : Box w2 D ({ d with steps := d.steps ++ [x] }.cells n1 f1 n2 f2 sv') := b2
  have t2 : Tz [D] w' w2 := Tz.box hgr.mem c2 hbox b2 (by simp)
  obtain ⟨l1, l2⟩ := h.lt hm
  have hd := h.neD
  have hg2 : ∀ r ∈ [n1, f1, n2, f2], w2.get r = w.get r := fun r hr => by
    rw [c2.old _ (Nat.lt_of_lt_of_le (l2 r hr) hgr.size) (by simpa using hd r hr)]; exact hg' r hr
  have hcb2 : ∀ b bs, w.cells? b = some (cellsOfBytes bs) → w2.cells? b = some (cellsOfBytes bs) := fun b bs hb => t2.cells _ _ (hcb _ _ hb)
  refine hK2 w2 ⟨⟨by have := hgr.size; omega, fun c hc hcX => ?_, c2.mem⟩, hcb2⟩ (Nat.le_of_eq z2.symm) (fun c all hc h' => cells_box hgr.mem c2 hbox b2 hc (hgr.cells _ _ h')) ⟨h.D0, b2, h.N1.fr (hg2 _ (by simp)), h.F1.mono (hg2 _ (by simp)) hcb2, h.N2.fr (hg2 _ (by simp)), h.F2.mono (hg2 _ (by simp)) hcb2, h.nd, hg.ch hgr.mem c2 fun y hy => ?_, hsd, by simp [x1, x2, x3, x4, x5]⟩
  · simp only [List.mem_cons, not_or] at hcX
    rw [c2.old _ (Nat.lt_of_lt_of_le hc hgr.size) (by simp; exact fun e => hcX.2 (e ▸ x1))]
    exact hgr.old _ hc (by simp only [List.mem_cons, not_or]; exact hcX)
  · simp at hy; subst hy
    exact .inr ⟨_, hbox, hne⟩
end
end Go.Sx

/-! What stays true of a disk, purely. -/
namespace Go.Sx

def Stp.V (x : Stp) : Prop := x.data.length = 64 ∧ 0 ≤ x.n ∧ x.n ≤ 4096 ∧ (x.what = 1 → x.n < 4096)
def FS.V (s : FS) : Prop := ∀ f, (s.files f).length ≤ 4096 ∧ ∀ t ∈ s.files f, t.length = 64
structure Dsk.V (d : Dsk) (k : Nat) : Prop where
  steps : d.steps.length ≤ k
  sv : ∀ x ∈ d.steps, x.V
  safe : d.safe.V
  now : d.now.V
  last : 0 ≤ d.last ∧ d.last ≤ k
theorem FS.V.none : FS.none.V := fun f => by simp [FS.none]
theorem Dsk.V.none : Dsk.none.V 0 := ⟨Nat.le_refl _, by simp [Dsk.none], FS.V.none, FS.V.none, by simp [Dsk.none]⟩
theorem putS_V {l : List Byts} {n : Nat} {d : Byts} (hl : l.length ≤ 4096) (h64 : ∀ t ∈ l, t.length = 64) (hn : n < 4096) (hd : d.length = 64) : (putS l n d).length ≤ 4096 ∧ ∀ t ∈ putS l n d, t.length = 64 := by
  unfold putS
  refine ⟨by simp; omega, fun t ht => ?_⟩
  rcases List.mem_or_eq_of_mem_set ht with ht | rfl
  · rcases List.mem_append.1 ht with ht | ht
    · exact h64 t ht
    · rw [(List.mem_replicate.1 ht).2]; simp [zsec]
  · exact hd
theorem FS.V.does {s : FS} {x : Stp} (h : s.V) (hx : x.V) : (s.does x).V := by
  obtain ⟨h1, h2, h3, h4⟩ := hx
  unfold FS.does
  split
  · exact h
  · split
    · rename_i e
      intro f
      simp only [updF]
      split
      · exact putS_V (h _).1 (h _).2 (by have := h4 e; omega) h1
      · exact h f
    · split
      · intro f
        simp only [updF]
        split
        · exact ⟨by have := (h x.file).1; simp; omega, fun t ht => (h x.file).2 t (List.mem_of_mem_take ht)⟩
        · exact h f
      · split
        · split
          · split
            · exact h
            · exact h
          · exact h
        · exact h
theorem FS.V.foldl {s : FS} (h : s.V) : ∀ {l : List Stp}, (∀ x ∈ l, x.V) → (l.foldl FS.does s).V := by
  intro l
  induction l generalizing s with
  | nil => intro _; exact h
  | cons a l ih => intro hl; exact ih (h.does (hl a List.mem_cons_self)) fun x hx => hl x (List.mem_cons_of_mem _ hx)
theorem stopped_same (d : Dsk) : d.stopped.1.steps = d.steps ∧ d.stopped.1.safe = d.safe ∧ d.stopped.1.now = d.now ∧ d.stopped.1.last = d.last ∧ d.stopped.1.wth = d.wth := by
  unfold Dsk.stopped
  split
  · simp
  · split <;> simp
theorem Dsk.V.stopped {d : Dsk} {k : Nat} (h : d.V k) : d.stopped.1.V k := by
  obtain ⟨e1, e2, e3, e4, _⟩ := stopped_same d
  exact ⟨by rw [e1]; exact h.steps, by rw [e1]; exact h.sv, by rw [e2]; exact h.safe, by rw [e3]; exact h.now, by rw [e4]; exact h.last⟩
theorem Dsk.V.le {d : Dsk} {k k' : Nat} (h : d.V k) (hk : k ≤ k') : d.V k' := ⟨by have := h.steps; omega, h.sv, h.safe, h.now, by have := h.last; omega⟩
theorem Dsk.V.more {d : Dsk} {k : Nat} (h : d.V k) {l : List Stp} (hl : ∀ x ∈ l, x.V) : (d.more l).1.V (k + l.length) := by
  have h1 := h.stopped
  unfold Dsk.more
  split
  · exact h1.le (by omega)
  · refine ⟨?_, fun x hx => ?_, h1.safe, FS.V.foldl h1.now hl, by have := h1.last; simp only []; omega⟩
    · have := h1.steps
      simp only [List.length_append]; omega
    · rcases List.mem_append.1 hx with hx | hx
      · exact h1.sv x hx
      · exact hl x hx
theorem settleL_V {so : Nat → Stp → Bool} : ∀ {l : List Stp} {i : Nat} {s : FS}, s.V → (∀ x ∈ l, x.V) → (settleL so i l s).1.V ∧ (∀ x ∈ (settleL so i l s).2, x.V) ∧ (settleL so i l s).2.length ≤ l.length
  | [], i, s, h, _ => ⟨h, fun x hx => (by cases hx), Nat.le_refl _⟩
  | a :: l, i, s, h, hl => by
    simp only [settleL]
    split
    · obtain ⟨a1, a2, a3⟩ := settleL_V (so := so) (i := i + 1) (h.does (hl a List.mem_cons_self)) fun x hx => hl x (List.mem_cons_of_mem _ hx)
      exact ⟨a1, a2, by simp only [List.length_cons]; omega⟩
    · obtain ⟨a1, a2, a3⟩ := settleL_V (so := so) (i := i + 1) h fun x hx => hl x (List.mem_cons_of_mem _ hx)
      refine ⟨a1, fun x hx => ?_, by simp only [List.length_cons]; omega⟩
      rcases List.mem_cons.1 hx with rfl | hx
      · exact hl _ List.mem_cons_self
      · exact a2 x hx
theorem Dsk.V.settle {d : Dsk} {k : Nat} (h : d.V k) (so : Nat → Stp → Bool) : (d.settle so).1.V k := by
  have h1 := h.stopped
  unfold Dsk.settle
  split
  · exact h1
  · obtain ⟨a1, a2, a3⟩ := settleL_V (so := so) (i := 0) h1.safe h1.sv
    exact ⟨by have := h1.steps; simp only []; omega, a2, a1, h1.now, h1.last⟩
end Go.Sx

/-! The disk in memory: its block is built anew; other objects turn; ranges over maps. -/
namespace Go.Sx

theorem Tz.obj {w w' : AW} {r : Nat} {ob : AO} (hm : Mem w) (hc : Ch [r] w w') (hr : w.get r = some ob) (hno : ∀ cs f own d, ob ≠ .cells cs f own d) : Tz [r] w w' := by
  refine ⟨hc, fun b bs h => ?_⟩
  obtain ⟨x, o, d, h1, h2, h3⟩ := AW.cells?_iff.1 h
  obtain ⟨cs0, h4, _⟩ := AW.root?_iff.1 (AW.fam?_root h1)
  have e1 : b ≠ r := fun e => by rw [e, hr] at h3; exact hno _ _ _ _ (Option.some.inj h3)
  have e2 : x.1 ≠ r := fun e => by rw [e, hr] at h4; exact hno _ _ _ _ (Option.some.inj h4)
  rw [AW.cells?_congr h1 (hc.old _ (hm.lt _ _ h3) (by simpa using e1)) (hc.old _ (hm.lt _ _ h4) (by simpa using e2))]
  exact h
theorem Box.obj {w w' : AW} {r c : Nat} {ob : AO} {cs : List AV} (hm : Mem w) (hc : Ch [r] w w') (hr : w.get r = some ob) (hno : ∀ cs f own d, ob ≠ .cells cs f own d) (h : Box w c cs) : Box w' c cs :=
  hc.box hm h fun hx => by
    simp at hx; subst hx
    unfold Box at h
    rw [hr] at h; exact hno _ _ _ _ (Option.some.inj h)
theorem Gc.obj {Q : Nat → Prop} {sz r : Nat} {ob : AO} {w w' : AW} {v : AV} {cs : List AV} (h : Gc Q sz w v cs) (hm : Mem w) (hc : Ch [r] w w') (hr : w.get r = some ob) (hno : ∀ cs f own d, ob ≠ .cells cs f own d) : Gc Q sz w' v cs := by
  rcases h with h | ⟨b, f, n, ex, o, d, rfl, h2, h3, h4, h5, h6, h7⟩
  · exact .inl h
  · obtain ⟨c0, hc0, _⟩ := AW.root?_iff.1 h7
    simp only [] at hc0
    have e1 : b ≠ r := fun e => by rw [e, hr] at h6; exact hno _ _ _ _ (Option.some.inj h6)
    have e2 : f ≠ r := fun e => by rw [e, hr] at hc0; exact hno _ _ _ _ (Option.some.inj hc0)
    exact .inr ⟨b, f, n, ex, o, d, rfl, h2, h3, h4, h5, (hc.old _ (hm.lt _ _ h6) (by simpa using e1)).trans h6, by rw [AW.root?_congr (hc.old _ (hm.lt _ _ hc0) (by simpa using e2))]; exact h7⟩

section
variable {X : List Nat} {w w' : AW} {D n1 f1 n2 f2 : Nat} {sv : AV} {d : Dsk}
/-- Another object turns. -/
theorem DkM.obj (h : DkM X w D n1 f1 n2 f2 sv d) (hm : Mem w) {r : Nat} {ob : AO} (hc : Ch [r] w w') (hr : w.get r = some ob) (hno : ∀ cs f own d, ob ≠ .cells cs f own d) (hne : r ∉ [n1, f1, n2, f2]) : DkM X w' D n1 f1 n2 f2 sv d := by
  have ht := Tz.obj hm hc hr hno
  obtain ⟨l1, l2⟩ := h.lt hm
  have hg : ∀ x ∈ [n1, f1, n2, f2], w'.get x = w.get x := fun x hx => hc.old _ (l2 x hx) (by simp; exact fun e => hne (e ▸ hx))
  exact ⟨h.D0, h.box.obj hm hc hr hno, h.N1.fr (hg _ (by simp)), h.F1.mono (hg _ (by simp)) ht.cells, h.N2.fr (hg _ (by simp)), h.F2.mono (hg _ (by simp)) ht.cells, h.nd, h.st.obj hm hc hr hno, h.sd, h.inX⟩

/-- The disk's block is written, whatever it holds then. -/
theorem DkM.build {cs vs : List AV} {a : AV} {o : Nat} (hb : Box w D (a :: cs)) (ha : ∀ n, a ≠ .int .u8 n) (hm : Mem w) (hD : D ≠ 0) (hl : o + vs.length ≤ (a :: cs).length) (he : listPut (a :: cs) o vs = d.cells n1 f1 n2 f2 sv)
    (N1 : NMp w n1 d.safe.names) (F1 : FMp w f1 d.safe.files) (N2 : NMp w n2 d.now.names) (F2 : FMp w f2 d.now.files) (nd : n1 ≠ f1 ∧ n1 ≠ n2 ∧ n1 ≠ f2 ∧ f1 ≠ n2 ∧ f1 ≠ f2 ∧ n2 ≠ f2) (st : Gc (· ∈ X) 69 w sv (stpsC d.steps)) (hsv : blk sv ≠ some D) (sd : ∀ x ∈ d.steps, x.data.length = 64)
    (inX : D ∈ X ∧ n1 ∈ X ∧ f1 ∈ X ∧ n2 ∈ X ∧ f2 ∈ X) {K : AW → Prop} (hK : ∀ w', Tz [D] w w' → w'.size = w.size → DkM X w' D n1 f1 n2 f2 sv d → K w') : onM (w.putCells D o vs) K := by
  refine hb.put' hm hD hl fun w' c' b' z' => ?_
  rw [he] at b'
  have ht : Tz [D] w w' := Tz.box hm c' hb b' ha
  have hne : ∀ {r : Nat}, (∃ es cl, w.get r = some (.map es cl)) → r ≠ D := fun {r} ⟨_, _, h'⟩ e => by
    unfold Box at hb
    rw [← e, h'] at hb; cases hb
  have lt : ∀ {r : Nat}, (∃ es cl, w.get r = some (.map es cl)) → r < w.size := fun ⟨_, _, h⟩ => hm.lt _ _ h
  have hg : ∀ {r : Nat}, (∃ es cl, w.get r = some (.map es cl)) → w'.get r = w.get r := fun {r} hr => c'.old _ (lt hr) (by simpa using hne hr)
  refine hK w' ht z' ⟨hD, b', N1.fr (hg N1.isMap), F1.mono (hg F1.isMap) ht.cells, N2.fr (hg N2.isMap), F2.mono (hg F2.isMap) ht.cells, nd, st.ch hm c' fun x hx => ?_, sd, inX⟩
  simp at hx; subst hx
  exact .inr ⟨_, hb, hsv⟩
end

/-! ### Crashes -/
def keepL (keep : List Bool) : Nat → List Stp → FS → FS
  | _, [], s => s
  | i, x :: r, s => keepL keep (i + 1) r (if keep.getD i false then s.does x else s)
def heldF (s : FS) : Int → List Byts := fun k => if k ∈ s.names.map (·.2) then s.files k else []
def Dsk.crash (d : Dsk) (keep : List Bool) : Dsk :=
  let s := keepL keep 0 d.steps d.safe
  { d with safe := ⟨s.names, heldF s⟩, now := ⟨s.names, heldF s⟩, steps := [], down := false, arm := 0, fault := 0 }
theorem keepL_snoc (keep : List Bool) (x : Stp) : ∀ (l : List Stp) (i : Nat) (s : FS), keepL keep i (l ++ [x]) s = if keep.getD (i + l.length) false then (keepL keep i l s).does x else keepL keep i l s
  | [], i, s => by simp [keepL]
  | a :: l, i, s => by
    simp only [List.cons_append, keepL, List.length_cons, keepL_snoc keep x l]
    rw [show i + 1 + l.length = i + (l.length + 1) by omega]
theorem keepL_V (keep : List Bool) : ∀ {l : List Stp} {i : Nat} {s : FS}, s.V → (∀ x ∈ l, x.V) → (keepL keep i l s).V
  | [], i, s, h, _ => h
  | a :: l, i, s, h, hl => by
    simp only [keepL]
    refine keepL_V keep ?_ fun x hx => hl x (List.mem_cons_of_mem _ hx)
    split
    · exact h.does (hl a List.mem_cons_self)
    · exact h
theorem Dsk.V.crash {d : Dsk} {k : Nat} (h : d.V k) (keep : List Bool) : (d.crash keep).V k := by
  have hs := keepL_V keep (i := 0) h.safe h.sv
  have hh : FS.V ⟨(keepL keep 0 d.steps d.safe).names, heldF (keepL keep 0 d.steps d.safe)⟩ := fun f => by
    simp only [heldF]
    split
    · exact hs f
    · simp
  exact ⟨Nat.zero_le _, fun x hx => (by cases hx), hh, hh, h.last⟩

theorem picks_all {α : Type} {kv : α} {r' : List α} : ∀ {l : List α}, (kv, r') ∈ picks l → kv ∈ l ∧ (∀ e ∈ l, e = kv ∨ e ∈ r') ∧ (∀ e ∈ r', e ∈ l) ∧ r'.length + 1 = l.length
  | [], h => by cases h
  | x :: l, h => by
    rcases List.mem_cons.1 h with h | h
    · cases h
      exact ⟨List.mem_cons_self, fun e he => List.mem_cons.1 he, fun e he => List.mem_cons_of_mem _ he, rfl⟩
    · obtain ⟨p, hp, e⟩ := List.mem_map.1 h
      cases e
      obtain ⟨h1, h2, h3, h4⟩ := picks_all (kv := p.1) (r' := p.2) hp
      refine ⟨List.mem_cons_of_mem _ h1, fun e he => ?_, fun e he => ?_, by simp only [List.length_cons]; omega⟩
      · rcases List.mem_cons.1 he with rfl | he
        · exact .inr List.mem_cons_self
        · rcases h2 e he with h | h
          · exact .inl h
          · exact .inr (List.mem_cons_of_mem _ h)
      · rcases List.mem_cons.1 he with rfl | he
        · exact List.mem_cons_self
        · exact List.mem_cons_of_mem _ (h3 e he)
/-- The next entry, whichever. -/
theorem nextK_of {w : AW} {b m : Nat} {es es' rest : List (AV × AV)} {c : Nat} {last : Option AV} {A : Prop} {B : AV → AV → AW → Prop} (hm : Mem w) (hg : w.get b = some (.mapIter (some m) es c rest last)) (hma : mapAt w m = some (es', c)) (hA : rest = [] → A)
    (hB : ∀ k v rest', (k, v) ∈ rest → (∀ e ∈ rest, e = (k, v) ∨ e ∈ rest') → (∀ e ∈ rest', e ∈ rest) → rest'.length < rest.length → ∀ w', Ch [b] w w' → w'.size = w.size → w'.get b = some (.mapIter (some m) es c rest' (some (.tup [k, v]))) → B k v w') : nextK w b A B := by
  unfold nextK
  rw [hg]
  refine ⟨⟨es', hma⟩, ?_⟩
  cases rest with
  | nil => exact hA rfl
  | cons a l =>
    intro kv rest' hp
    obtain ⟨h1, h2, h3, h4⟩ := picks_all hp
    exact hB kv.1 kv.2 rest' h1 h2 h3 (by omega) _ (Ch.set hm (hm.lt _ _ hg) fun cs f own d e => by cases e) rfl (by rw [AW.set_get, if_pos rfl])
end Go.Sx

/-! A law's disk, and what lies beside it. -/
namespace Go.Sx

theorem DkM.trim {X : List Nat} {w : AW} {D n1 f1 n2 f2 : Nat} {sv : AV} {d : Dsk} (h : DkM X w D n1 f1 n2 f2 sv d) (hm : Mem w) : DkM (X.filter fun x => decide (x < w.size)) w D n1 f1 n2 f2 sv d := by
  obtain ⟨l1, l2⟩ := h.lt hm
  obtain ⟨x1, x2, x3, x4, x5⟩ := h.inX
  have mem : ∀ {x : Nat}, x ∈ X → x < w.size → x ∈ X.filter fun x => decide (x < w.size) := fun h1 h2 => List.mem_filter.2 ⟨h1, decide_eq_true h2⟩
  refine ⟨h.D0, h.box, h.N1, h.F1, h.N2, h.F2, h.nd, ?_, h.sd, mem x1 l1, mem x2 (l2 _ (by simp)), mem x3 (l2 _ (by simp)), mem x4 (l2 _ (by simp)), mem x5 (l2 _ (by simp))⟩
  rcases h.st with hn | ⟨b, f, n, ex, o, dd, e, q1, q2, q3, q4, q5, q6⟩
  · exact .inl hn
  · obtain ⟨c0, hc0, _⟩ := AW.root?_iff.1 q6
    exact .inr ⟨b, f, n, ex, o, dd, e, q1, q2, mem q3 (hm.lt _ _ hc0), q4, q5, q6⟩

structure Ls (w0 w : AW) (D : Nat) (d : Dsk) (k : Nat) (X : List Nat) : Prop where
  mem : Mem w
  sz : w0.size ≤ w.size
  pos : 0 < w0.size
  old : ∀ c, c < w0.size → w.get c = w0.get c
  dk : ∃ n1 f1 n2 f2 sv, DkM X w D n1 f1 n2 f2 sv d
  V : d.V k
  X1 : ∀ x ∈ X, w0.size ≤ x ∧ x < w.size
theorem Ls.fr0 {w0 w : AW} {D : Nat} {d : Dsk} {k : Nat} {X : List Nat} (h : Ls w0 w D d k X) : Fr w0.size w0 w := ⟨h.sz, h.old, h.mem⟩
theorem Ls.D {w0 w : AW} {D : Nat} {d : Dsk} {k : Nat} {X : List Nat} (h : Ls w0 w D d k X) : w0.size ≤ D ∧ D < w.size := by
  obtain ⟨_, _, _, _, _, h1⟩ := h.dk
  exact h.X1 _ h1.inX.1
theorem Ls.le {w0 w : AW} {D : Nat} {d : Dsk} {k k' : Nat} {X : List Nat} (h : Ls w0 w D d k X) (hk : k ≤ k') : Ls w0 w D d k' X := ⟨h.mem, h.sz, h.pos, h.old, h.dk, h.V.le hk, h.X1⟩
theorem Ls.fr {w0 w w' : AW} {D : Nat} {d : Dsk} {k : Nat} {X : List Nat} (h : Ls w0 w D d k X) (hf : Fr w.size w w') : Ls w0 w' D d k X := by
  obtain ⟨n1, f1, n2, f2, sv, h1⟩ := h.dk
  have := hf.size
  exact ⟨hf.mem, by have := h.sz; omega, h.pos, fun c hc => (hf.old c (by have := h.sz; omega)).trans (h.old c hc), ⟨_, _, _, _, _, h1.fr h.mem hf⟩, h.V, fun x hx => ⟨(h.X1 x hx).1, by have := (h.X1 x hx).2; omega⟩⟩
/-- Behind a call. -/
theorem Ls.next {w0 w w' : AW} {D : Nat} {d d' : Dsk} {k k' : Nat} {X X' : List Nat} (h : Ls w0 w D d k X) (hX : ∀ x ∈ X', x ∈ X ∨ w.size ≤ x) (ht : Tz X w w') {n1 f1 n2 f2 : Nat} {sv : AV} (hd : DkM X' w' D n1 f1 n2 f2 sv d') (hV : d'.V k') :
    Ls w0 w' D d' k' (X'.filter fun x => decide (x < w'.size)) ∧ ∀ x ∈ X'.filter fun x => decide (x < w'.size), x ∈ X ∨ w.size ≤ x := by
  have hs := ht.ch.size
  refine ⟨⟨ht.ch.mem, by have := h.sz; omega, h.pos, fun c hc => (ht.ch.old c (by have := h.sz; omega) fun hx => by have := (h.X1 c hx).1; omega).trans (h.old c hc), ⟨_, _, _, _, _, hd.trim ht.ch.mem⟩, hV, fun x hx => ?_⟩, fun x hx => hX x (List.mem_filter.1 hx).1⟩
  obtain ⟨h1, h2⟩ := List.mem_filter.1 hx
  refine ⟨?_, of_decide_eq_true h2⟩
  rcases hX x h1 with h3 | h3
  · exact (h.X1 x h3).1
  · have := h.sz; omega

/-- Bytes in a block that is all of them. -/
def RB (w : AW) (v : AV) (s : Byts) : Prop := (v = .nilslice ∧ s = []) ∨ ∃ b ex, v = .slice b 0 s.length s.length ex ∧ w.cells? b = some (cellsOfBytes s)
theorem RB.rs {w : AW} {v : AV} {s : Byts} (h : RB w v s) : RsB w v s := by
  rcases h with ⟨rfl, rfl⟩ | ⟨b, ex, rfl, h⟩
  · exact Rs.nil
  · exact .inr ⟨b, 0, _, ex, _, rfl, h, by rw [cellsOfBytes_length]; omega, by rw [List.drop_zero, List.take_of_length_le (by rw [cellsOfBytes_length]; omega)]⟩
theorem RB.mono {w w' : AW} {v : AV} {s : Byts} (h : RB w v s) (hc : ∀ b bs, w.cells? b = some (cellsOfBytes bs) → w'.cells? b = some (cellsOfBytes bs)) : RB w' v s := by
  rcases h with h | ⟨b, ex, h1, h2⟩
  · exact .inl h
  · exact .inr ⟨b, ex, h1, hc _ _ h2⟩
theorem Gc.rb {Q : Nat → Prop} {w : AW} {v : AV} {s : Byts} (h : Gc Q 1 w v (cellsOfBytes s)) : RB w v s := by
  rcases h with ⟨rfl, h⟩ | ⟨b, f, n, ex, o, d, rfl, h2, h3, h4, h5, h6, h7⟩
  · exact .inl ⟨rfl, by simpa [cellsOfBytes] using h⟩
  · have : n = s.length := by rw [cellsOfBytes_length] at h2; omega
    subst this
    exact .inr ⟨b, ex, rfl, AW.cells?_iff.2 ⟨(f, b, false), o, d, AW.fam?_iff.2 ⟨_, o, d, h6, h7⟩, .inl rfl, h6⟩⟩

/-- Bytes that grow beside the disk. -/
def Bs (m : Nat) (X : List Nat) (w : AW) (v : AV) (s : Byts) : Prop := Gc (fun f => m ≤ f ∧ f ∉ X) 1 w v (cellsOfBytes s) ∧ ∀ c, blk v = some c → c ∉ X
theorem Bs.nil {m : Nat} {X : List Nat} {w : AW} : Bs m X w .nilslice [] := ⟨Gc.nil, fun c h => by cases h⟩
theorem Gc.blk_lt {Q : Nat → Prop} {sz : Nat} {w : AW} {v : AV} {cs : List AV} (h : Gc Q sz w v cs) (hm : Mem w) {c : Nat} (hc : blk v = some c) : c < w.size := by
  rcases h with ⟨rfl, _⟩ | ⟨b, f, n, ex, o, d, rfl, h2, h3, h4, h5, h6, h7⟩
  · cases hc
  · cases hc; exact hm.lt _ _ h6
theorem Bs.next {m : Nat} {X X' : List Nat} {w w' : AW} {v : AV} {s : Byts} (h : Bs m X w v s) (hm : Mem w) (hc : Ch X w w') (hX : ∀ x ∈ X', x ∈ X ∨ w.size ≤ x) : Bs m X' w' v s := by
  obtain ⟨h1, h2⟩ := h
  have hk := h1.keep hm fun c hcl hq => hc.old c hcl (by
    rcases hq with h | h
    · exact h.2
    · exact h2 c h)
  refine ⟨?_, fun c hc' hx => ?_⟩
  · rcases h1 with ⟨e, e'⟩ | ⟨b, f, n, ex, o, d, e, q2, q3, q4, q5, q6, q7⟩
    · exact .inl ⟨e, e'⟩
    · obtain ⟨c0, hc0, _⟩ := AW.root?_iff.1 q7
      have hfl := hm.lt _ _ hc0
      have hfl : f < w.size := hfl
      refine .inr ⟨b, f, n, ex, o, d, e, q2, q3, ⟨q4.1, fun hx => ?_⟩, q5, (hc.old _ (hm.lt _ _ q6) (h2 _ (by rw [e]; rfl))).trans q6, by rw [AW.root?_congr (hc.old _ hfl q4.2)]; exact q7⟩
      rcases hX f hx with h | h
      · exact q4.2 h
      · omega
  · rcases hX c hx with h | h
    · exact h2 c hc' h
    · have := h1.blk_lt hm hc'; omega
/-- More bytes behind: nothing to the disk. -/
theorem Ls.app {w0 w : AW} {D : Nat} {d : Dsk} {k : Nat} {X : List Nat} (h : Ls w0 w D d k X) {v x : AV} {s t : Byts} (hb : Bs w0.size X w v s) (hx : Rs w 1 t.length x (cellsOfBytes t)) (hs : s.length < 2 ^ 40) (ht : t.length < 2 ^ 40)
    {K : AV → AW → Prop} (hK : ∀ v' w', Ls w0 w' D d k X → Bs w0.size X w' v' (s ++ t) → (∀ c all, w.cells? c = some all → w'.cells? c = some all) → w.size ≤ w'.size → K v' w') : onE (appS 1 1 w v x) K := by
  have hm := h.mem
  have hsz := h.sz
  have hpos := h.pos
  obtain ⟨hg, hbX⟩ := hb
  refine hg.app hm ⟨hsz, fun hx => by have := (h.X1 _ hx).2; omega⟩ (by omega) (by decide) hx (by rw [cellsOfBytes_length]; omega) (by rw [cellsOfBytes_length]; omega) fun v' w' hg' hgr hfresh => ?_
  have hgs := hgr.size
  obtain ⟨n1, f1, n2, f2, sv, hd⟩ := h.dk
  refine hK v' w' ⟨hgr.mem, by omega, h.pos, fun c hc => ?_, ⟨n1, f1, n2, f2, sv, hd.keep hm (fun c hc hq => ?_) fun b bs hb => hgr.cells _ _ hb⟩, h.V, fun x hx => ⟨(h.X1 x hx).1, by have := (h.X1 x hx).2; omega⟩⟩ ⟨by rw [cellsOfBytes_append]; exact hg', fun c hc hx => ?_⟩ (fun c all h => hgr.cells _ _ h) hgs
  · rw [hgr.old c (by omega) (fun hn => by have := hn.1; omega)]; exact h.old c hc
  · rcases hq with hq | hq
    · exact hgr.old c hc (fun hn => hn.2 hq)
    · rcases hd.st with ⟨e, _⟩ | ⟨b, f, n, ex, o, dd, e, q1, q2, q3, q4, q5, q6⟩
      · rw [e] at hq; cases hq
      · rw [e] at hq; cases hq
        exact hgr.fam _ _ _ _ _ q5 (fun hn => hn.2 q3)
  · have := (h.X1 c hx).2
    have e := hfresh c hc this
    rw [e] at hc
    exact hbX c hc hx
end Go.Sx

/-! A disk without faults, purely: files put and synced. -/
namespace Go.Sx

theorem Dsk.V.put {d : Dsk} {k : Nat} (h : d.V k) (a : Byts) (at_ : Int) (data : Byts) : (d.put a at_ data).1.V (k + 2) := by
  unfold Dsk.put
  simp only []
  split
  · exact h.le (by omega)
  · rename_i hb
    simp only [not_or] at hb
    obtain ⟨_, h64, h0, h1, _⟩ := hb
    split
    · exact h.le (by omega)
    · rename_i hf
      simp only [not_or] at hf
      have hl := fun f => (h.now f).1
      have h64 : data.length = 64 := Classical.byContradiction h64
      cases hg : nget d.now.names a with
      | some f =>
        rw [hg] at h1
        have := hl f
        simp only [Option.getD_some] at h1
        refine (h.more (l := [⟨1, f, at_, data, [], []⟩]) fun x hx => ?_).le (by simp)
        simp at hx; subst hx
        exact ⟨h64, by show 0 ≤ at_; omega, by show at_ ≤ 4096; omega, fun _ => by show at_ < 4096; omega⟩
      | none =>
        rw [hg] at h1
        have := hl 0
        simp only [Option.getD_none] at h1
        have hm := h.more (l := [⟨0, d.last + 1, 0, zsec, a, []⟩, ⟨1, d.last + 1, at_, data, [], []⟩]) fun x hx => by
          simp at hx
          rcases hx with rfl | rfl
          · exact ⟨by simp [zsec], Int.le_refl 0, by show (0 : Int) ≤ 4096; omega, fun e => by cases e⟩
          · exact ⟨h64, by show 0 ≤ at_; omega, by show at_ ≤ 4096; omega, fun _ => by show at_ < 4096; omega⟩
        simp only []
        split
        · exact hm.le (by simp)
        · exact ⟨by have := hm.steps; simp at this ⊢; omega, hm.sv, hm.safe, hm.now, by have := h.last; simp only []; omega⟩
theorem Dsk.V.sync {d : Dsk} {k : Nat} (h : d.V k) (a : Byts) : (d.sync a).1.V k := by
  unfold Dsk.sync
  split
  · exact h
  · exact h.settle _
theorem Dsk.V.syncNames {d : Dsk} {k : Nat} (h : d.V k) : d.syncNames.1.V k := h.settle _
theorem Dsk.V.rename {d : Dsk} {k : Nat} (h : d.V k) (a b : Byts) : (d.rename a b).1.V (k + 1) := by
  unfold Dsk.rename
  split
  · exact h.le (by omega)
  · split
    · exact h.le (by omega)
    · split
      · exact (h.more (l := []) (fun x hx => by cases hx)).le (by simp)
      · rename_i f _ _
        refine (h.more (l := [⟨3, f, 0, zsec, a, b⟩]) fun x hx => ?_).le (by simp)
        simp at hx; subst hx
        exact ⟨by simp [zsec], Int.le_refl 0, by show (0 : Int) ≤ 4096; omega, fun e => by cases e⟩

/-! ### No faults -/
def Dsk.Q (d : Dsk) : Prop := d.down = false ∧ d.arm = 0 ∧ d.fault = 0
theorem stopped_q {d : Dsk} (h : d.Q) : d.stopped = (d, 0) := by
  obtain ⟨h1, h2, h3⟩ := h
  obtain ⟨a, b, c, l, dn, ar, fa, wt⟩ := d
  simp only at h1 h2 h3
  subst h1; subst h2; subst h3
  rfl
theorem more_q {d : Dsk} (h : d.Q) (l : List Stp) : d.more l = ({ d with steps := d.steps ++ l, now := l.foldl FS.does d.now }, 0) := by
  unfold Dsk.more
  rw [stopped_q h]
  simp
theorem settle_all {so : Nat → Stp → Bool} : ∀ {l : List Stp} {i : Nat} {s : FS}, (∀ j (hj : j < l.length), so (i + j) l[j] = true) → settleL so i l s = (l.foldl FS.does s, [])
  | [], i, s, _ => rfl
  | a :: l, i, s, h => by
    have h0 := h 0 (by simp)
    simp only [Nat.add_zero, List.getElem_cons_zero] at h0
    simp only [settleL, h0, if_true, List.foldl_cons]
    refine settle_all fun j hj => ?_
    have := h (j + 1) (by simp; omega)
    rw [show i + 1 + j = i + (j + 1) by omega]; simpa using this
theorem settle_q {d : Dsk} (h : d.Q) {so : Nat → Stp → Bool} (hs : ∀ j (hj : j < d.steps.length), so j d.steps[j] = true) : d.settle so = ({ d with safe := d.steps.foldl FS.does d.safe, steps := [] }, 0) := by
  unfold Dsk.settle
  rw [stopped_q h]
  have := settle_all (so := so) (l := d.steps) (i := 0) (s := d.safe) fun j hj => by rw [Nat.zero_add]; exact hs j hj
  simp [this]

theorem updF_same (F : Int → List Byts) (k : Int) (l : List Byts) : updF F k l k = l := by simp [updF]
theorem updF_updF (F : Int → List Byts) (k : Int) (a b : List Byts) : updF (updF F k a) k b = updF F k b := by
  funext i; unfold updF; split <;> rfl
theorem putS_end (l : List Byts) (s : Byts) : putS l l.length s = l ++ [s] := by
  unfold putS
  rw [show l.length + 1 - l.length = 1 by omega]
  simp
theorem nget_new {ns : List (Byts × Int)} {a : Byts} {f : Int} (h : nget ns a = Option.none) : nget (ns ++ [(a, f)]) a = some f := by
  unfold nget at h ⊢
  rw [List.find?_append]
  cases hf : ns.find? fun x => decide (x.1 = a) with
  | some x => rw [hf] at h; cases h
  | none => simp
theorem nset_new {a : Byts} {f : Int} : ∀ {ns : List (Byts × Int)}, nget ns a = Option.none → nset ns a f = ns ++ [(a, f)]
  | [], _ => rfl
  | x :: r, h => by
    unfold nget at h
    rw [List.find?_cons] at h
    by_cases hx : x.1 = a
    · simp [hx] at h
    · simp only [decide_eq_false hx] at h
      simp only [nset, if_neg hx, List.cons_append]
      rw [nset_new h]

/-- One file is put, piece by piece, behind what is safe. -/
structure OneF (d : Dsk) (nm : Byts) (num : Int) (base : List (Byts × Int)) (F0 : Int → List Byts) (l : List Byts) : Prop where
  q : d.Q
  safe : d.safe = ⟨base, F0⟩
  new : nget base nm = Option.none
  few : base.length < 200
  n0 : nm.length ≥ 1 ∧ nm.length ≤ 64
  F00 : F0 num = [] ∧ F0 0 = []
  st : (l = [] ∧ d.steps = [] ∧ d.now = ⟨base, F0⟩ ∧ d.last = num - 1) ∨ (l ≠ [] ∧ d.now = ⟨base ++ [(nm, num)], updF F0 num l⟩ ∧ d.last = num ∧ (∃ ps, d.steps = ⟨0, num, 0, zsec, nm, []⟩ :: ps ∧ ∀ x ∈ ps, x.what = 1 ∧ x.file = num) ∧ d.steps.foldl FS.does ⟨base, F0⟩ = d.now)
theorem OneF.put {d : Dsk} {nm : Byts} {num : Int} {base : List (Byts × Int)} {F0 : Int → List Byts} {l : List Byts} {s : Byts} (h : OneF d nm num base F0 l) (hl : l.length < 100) (hs : s.length = 64) : (d.put nm l.length s).2 = 0 ∧ OneF (d.put nm l.length s).1 nm num base F0 (l ++ [s]) := by
  have hn : named nm = true := by unfold named; have := h.n0; simp; omega
  rcases h.st with ⟨rfl, h2, h3, h4⟩ | ⟨h1, h2, h3, ⟨ps, h4, h5⟩, h6⟩
  · have hg : nget d.now.names nm = Option.none := by rw [h3]; exact h.new
    have hput : d.put nm (([] : List Byts).length : Nat) s = ({ d with steps := d.steps ++ [⟨0, num, 0, zsec, nm, []⟩, ⟨1, num, 0, s, [], []⟩], now := ⟨base ++ [(nm, num)], updF F0 num [s]⟩, last := num }, 0) := by
      unfold Dsk.put
      simp only [hg, Option.getD_none]
      rw [if_neg (by
        simp only [not_or]
        refine ⟨by rw [hn]; simp, by omega, by simp, by simp, by simp⟩)]
      rw [if_neg (by
        simp only [not_or]
        refine ⟨by simp, ?_⟩
        rw [h3]; simp only [true_and]
        have := h.few; omega)]
      have hl1 : d.last + 1 = num := by omega
      rw [hl1, more_q h.q]
      have hnow : FS.does (FS.does d.now ⟨0, num, 0, zsec, nm, []⟩) ⟨1, num, 0, s, [], []⟩ = ⟨base ++ [(nm, num)], updF F0 num [s]⟩ := by
        rw [h3]
        simp only [FS.does, if_true]
        rw [nset_new h.new]
        simp only [show ¬ ((1 : Int) = 0) by decide, if_false, if_true, h.F00.1]
        rfl
      simp only [List.foldl_cons, List.foldl_nil, ne_eq, not_true_eq_false, if_false]
      rw [show ((([] : List Byts).length : Nat) : Int) = 0 from rfl, hnow]
    rw [hput]
    refine ⟨rfl, h.q, h.safe, h.new, h.few, h.n0, h.F00, .inr ⟨by simp, rfl, rfl, ⟨[⟨1, num, 0, s, [], []⟩], by rw [h2]; rfl, fun x hx => ?_⟩, ?_⟩⟩
    · simp at hx; subst hx; exact ⟨rfl, rfl⟩
    · rw [h2]
      simp only [List.nil_append, List.foldl_cons, List.foldl_nil, FS.does, if_true]
      rw [nset_new h.new]
      simp only [show ¬ ((1 : Int) = 0) by decide, if_false, if_true, h.F00.1]
      rfl
  · have hg : nget d.now.names nm = some num := by rw [h2]; exact nget_new h.new
    have hput : d.put nm (l.length : Nat) s = ({ d with steps := d.steps ++ [⟨1, num, (l.length : Nat), s, [], []⟩], now := ⟨base ++ [(nm, num)], updF F0 num (l ++ [s])⟩ }, 0) := by
      unfold Dsk.put
      simp only [hg, Option.getD_some]
      rw [if_neg (by
        simp only [not_or]
        refine ⟨by rw [hn]; simp, by omega, by omega, ?_, by simp⟩
        rw [h2]; simp only [updF_same]; omega)]
      rw [if_neg (by simp; omega)]
      rw [more_q h.q]
      have hnow : FS.does d.now ⟨1, num, (l.length : Nat), s, [], []⟩ = ⟨base ++ [(nm, num)], updF F0 num (l ++ [s])⟩ := by
        rw [h2]
        simp only [FS.does, show ¬ ((1 : Int) = 0) by decide, if_false, if_true, updF_same, updF_updF]
        rw [show ((l.length : Nat) : Int).toNat = l.length from rfl, putS_end]
      simp only [List.foldl_cons, List.foldl_nil, hnow]
    rw [hput]
    refine ⟨rfl, h.q, h.safe, h.new, h.few, h.n0, h.F00, .inr ⟨by simp, rfl, h3, ⟨ps ++ [⟨1, num, (l.length : Nat), s, [], []⟩], by rw [h4]; rfl, fun x hx => ?_⟩, ?_⟩⟩
    · rcases List.mem_append.1 hx with hx | hx
      · exact h5 x hx
      · simp at hx; subst hx; exact ⟨rfl, rfl⟩
    · simp only [List.foldl_append, h6, List.foldl_cons, List.foldl_nil]
      rw [h2]
      simp only [FS.does, show ¬ ((1 : Int) = 0) by decide, if_false, if_true, updF_same, updF_updF]
      rw [show ((l.length : Nat) : Int).toNat = l.length from rfl, putS_end]
/-- It is synced. -/
theorem OneF.sync {d : Dsk} {nm : Byts} {num : Int} {base : List (Byts × Int)} {F0 : Int → List Byts} {l : List Byts} (h : OneF d nm num base F0 l) (hl : l ≠ []) : d.sync nm = ({ d with safe := ⟨base ++ [(nm, num)], updF F0 num l⟩, steps := [] }, 0) ∧ d.now = ⟨base ++ [(nm, num)], updF F0 num l⟩ ∧ d.last = num := by
  rcases h.st with ⟨rfl, _⟩ | ⟨h1, h2, h3, ⟨ps, h4, h5⟩, h6⟩
  · exact absurd rfl hl
  have hg : nget d.now.names nm = some num := by rw [h2]; exact nget_new h.new
  refine ⟨?_, h2, h3⟩
  unfold Dsk.sync
  rw [hg]
  simp only []
  have hup : upto num d.steps = 0 := by
    unfold upto
    rw [h4, List.findIdx?_cons]
    simp
  rw [settle_q h.q fun j hj => ?_]
  · rw [h.safe, h6, h2]
  · rw [hup]
    cases j with
    | zero => simp [h4]
    | succ j =>
      have hm : d.steps[j + 1] ∈ ps := by
        have : d.steps[j + 1] = ps[j]'(by rw [h4] at hj; simpa using hj) := by simp [h4]
        rw [this]; exact List.getElem_mem _
      obtain ⟨e1, e2⟩ := h5 _ hm
      simp [e1, e2]
end Go.Sx

/-! A file that was synced stays, whatever else is done. -/
namespace Go.Sx

theorem nget_nset_self {s : Byts} {f : Int} : ∀ {ns : List (Byts × Int)}, nget (nset ns s f) s = some f
  | [] => by simp [nset, nget]
  | x :: r => by
    have ih := nget_nset_self (s := s) (f := f) (ns := r)
    simp only [nset]
    split
    · simp [nget]
    · rename_i h
      unfold nget at ih ⊢
      rw [List.find?_cons, decide_eq_false h]; exact ih
theorem nget_nset_ne {s t : Byts} {f : Int} (h : t ≠ s) : ∀ {ns : List (Byts × Int)}, nget (nset ns s f) t = nget ns t
  | [] => by
    have : ¬ s = t := fun e => h e.symm
    simp [nset, nget, this]
  | x :: r => by
    have ih := nget_nset_ne (s := s) (t := t) (f := f) h (ns := r)
    have hst : ¬ s = t := fun e => h e.symm
    simp only [nset]
    split
    · rename_i e
      unfold nget
      rw [List.find?_cons, List.find?_cons, decide_eq_false hst, decide_eq_false (fun e' => hst (e ▸ e'))]
    · unfold nget at ih ⊢
      rw [List.find?_cons, List.find?_cons]
      by_cases hx : x.1 = t
      · simp [hx]
      · simp only [decide_eq_false hx]; exact ih
theorem nget_ndel_ne {s t : Byts} (h : t ≠ s) : ∀ {ns : List (Byts × Int)}, nget (ndel ns s) t = nget ns t
  | [] => rfl
  | x :: r => by
    have ih := nget_ndel_ne (s := s) (t := t) h (ns := r)
    have hst : ¬ s = t := fun e => h e.symm
    simp only [ndel]
    split
    · rename_i e
      unfold nget
      rw [List.find?_cons, decide_eq_false (fun e' => hst (e ▸ e'))]
    · unfold nget at ih ⊢
      rw [List.find?_cons, List.find?_cons]
      by_cases hx : x.1 = t
      · simp [hx]
      · simp only [decide_eq_false hx]; exact ih
theorem nset_mem {s : Byts} {f : Int} : ∀ {ns : List (Byts × Int)}, ∀ u ∈ nset ns s f, u = (s, f) ∨ u ∈ ns
  | [], u, h => by simp [nset] at h; exact .inl h
  | x :: r, u, h => by
    simp only [nset] at h
    split at h
    · rcases List.mem_cons.1 h with rfl | h
      · exact .inl rfl
      · exact .inr (List.mem_cons_of_mem _ h)
    · rcases List.mem_cons.1 h with rfl | h
      · exact .inr List.mem_cons_self
      · rcases nset_mem u h with h | h
        · exact .inl h
        · exact .inr (List.mem_cons_of_mem _ h)
theorem nget_mem {ns : List (Byts × Int)} {s : Byts} {f : Int} (h : nget ns s = some f) : (s, f) ∈ ns := by
  unfold nget at h
  obtain ⟨u, hu, rfl⟩ := Option.map_eq_some_iff.1 h
  have h1 := List.mem_of_find?_eq_some hu
  have h2 := List.find?_some hu
  simp at h2
  rw [← h2]; exact h1
theorem ndel_sub {s : Byts} : ∀ {ns : List (Byts × Int)}, ∀ u ∈ ndel ns s, u ∈ ns
  | [], u, h => by cases h
  | x :: r, u, h => by
    simp only [ndel] at h
    split at h
    · exact List.mem_cons_of_mem _ h
    · rcases List.mem_cons.1 h with rfl | h
      · exact List.mem_cons_self
      · exact List.mem_cons_of_mem _ (ndel_sub u h)
theorem nset_length {s : Byts} {f : Int} : ∀ {ns : List (Byts × Int)}, (nset ns s f).length ≤ ns.length + 1
  | [] => by simp [nset]
  | x :: r => by
    have := nset_length (s := s) (f := f) (ns := r)
    simp only [nset]
    split <;> simp <;> omega
theorem ndel_length {s : Byts} : ∀ {ns : List (Byts × Int)}, (ndel ns s).length ≤ ns.length
  | [] => by simp [ndel]
  | x :: r => by
    have := ndel_length (s := s) (ns := r)
    simp only [ndel]
    split <;> simp <;> omega
/-- A step that leaves a name and a file as they are. -/
def Av (F : Int) (kp : Byts) (x : Stp) : Prop := x.file ≠ F ∧ x.name ≠ kp ∧ x.to ≠ kp
theorem does_av {F : Int} {kp : Byts} {x : Stp} (h : Av F kp x) (s : FS) : nget (s.does x).names kp = nget s.names kp ∧ (s.does x).files F = s.files F := by
  obtain ⟨h1, h2, h3⟩ := h
  have h1' : ¬ F = x.file := fun e => h1 e.symm
  unfold FS.does
  split
  · exact ⟨nget_nset_ne (Ne.symm h2), rfl⟩
  · split
    · exact ⟨rfl, by simp [updF, h1']⟩
    · split
      · exact ⟨rfl, by simp [updF, h1']⟩
      · split
        · split
          · split
            · exact ⟨by rw [nget_nset_ne (Ne.symm h3), nget_ndel_ne (Ne.symm h2)], rfl⟩
            · exact ⟨nget_ndel_ne (Ne.symm h2), rfl⟩
          · exact ⟨rfl, rfl⟩
        · exact ⟨rfl, rfl⟩
theorem foldl_av {F : Int} {kp : Byts} : ∀ {l : List Stp} {s : FS}, (∀ x ∈ l, Av F kp x) → nget (l.foldl FS.does s).names kp = nget s.names kp ∧ (l.foldl FS.does s).files F = s.files F
  | [], s, _ => ⟨rfl, rfl⟩
  | a :: l, s, h => by
    obtain ⟨h1, h2⟩ := foldl_av (l := l) (s := s.does a) fun x hx => h x (List.mem_cons_of_mem _ hx)
    obtain ⟨h3, h4⟩ := does_av (h a List.mem_cons_self) s
    exact ⟨h1.trans h3, h2.trans h4⟩
theorem keepL_av {F : Int} {kp : Byts} (keep : List Bool) : ∀ {l : List Stp} {i : Nat} {s : FS}, (∀ x ∈ l, Av F kp x) → nget (keepL keep i l s).names kp = nget s.names kp ∧ (keepL keep i l s).files F = s.files F
  | [], i, s, _ => ⟨rfl, rfl⟩
  | a :: l, i, s, h => by
    obtain ⟨h1, h2⟩ := keepL_av keep (l := l) (i := i + 1) (s := if keep.getD i false then s.does a else s) fun x hx => h x (List.mem_cons_of_mem _ hx)
    simp only [keepL]
    obtain ⟨h3, h4⟩ := does_av (h a List.mem_cons_self) s
    refine ⟨h1.trans ?_, h2.trans ?_⟩ <;> split <;> first | exact h3 | exact h4 | rfl
theorem settleL_av {F : Int} {kp : Byts} {so : Nat → Stp → Bool} : ∀ {l : List Stp} {i : Nat} {s : FS}, (∀ x ∈ l, Av F kp x) → nget (settleL so i l s).1.names kp = nget s.names kp ∧ (settleL so i l s).1.files F = s.files F
  | [], i, s, _ => ⟨rfl, rfl⟩
  | a :: l, i, s, h => by
    have hl := fun x hx => h x (List.mem_cons_of_mem _ hx)
    obtain ⟨h3, h4⟩ := does_av (h a List.mem_cons_self) s
    simp only [settleL]
    split
    · obtain ⟨h1, h2⟩ := settleL_av (so := so) (l := l) (i := i + 1) (s := s.does a) hl
      exact ⟨h1.trans h3, h2.trans h4⟩
    · exact settleL_av (so := so) (l := l) (i := i + 1) hl
theorem settleL_sub {so : Nat → Stp → Bool} : ∀ {l : List Stp} {i : Nat} {s : FS}, ∀ x ∈ (settleL so i l s).2, x ∈ l
  | [], i, s, x, h => by cases h
  | a :: l, i, s, x, h => by
    simp only [settleL] at h
    split at h
    · exact List.mem_cons_of_mem _ (settleL_sub x h)
    · rcases List.mem_cons.1 h with rfl | h
      · exact List.mem_cons_self
      · exact List.mem_cons_of_mem _ (settleL_sub x h)

/-- Names after a step: an old one, or one of the step's with its file. -/
theorem does_mem {s : FS} {x : Stp} : ∀ u ∈ (s.does x).names, u ∈ s.names ∨ (u.2 = x.file ∧ (u.1 = x.name ∨ u.1 = x.to)) := fun u hu => by
  unfold FS.does at hu
  split at hu
  · rcases nset_mem u hu with rfl | h
    · exact .inr ⟨rfl, .inl rfl⟩
    · exact .inl h
  · split at hu
    · exact .inl hu
    · split at hu
      · exact .inl hu
      · split at hu
        · split at hu
          · split at hu
            · rcases nset_mem u hu with rfl | h
              · exact .inr ⟨rfl, .inr rfl⟩
              · exact .inl (ndel_sub u h)
            · exact .inl (ndel_sub u hu)
          · exact .inl hu
        · exact .inl hu
theorem does_length {s : FS} {x : Stp} : (s.does x).names.length ≤ s.names.length + 1 := by
  unfold FS.does
  split
  · exact nset_length
  · split
    · exact Nat.le_succ _
    · split
      · exact Nat.le_succ _
      · split
        · split
          · split
            · exact Nat.le_trans nset_length (Nat.succ_le_succ ndel_length)
            · exact Nat.le_trans ndel_length (Nat.le_succ _)
          · exact Nat.le_succ _
        · exact Nat.le_succ _

/-- The steps of a call: all of one file, whose number is among the names', or new. -/
def callL (d : Dsk) (kp : Byts) (l : List Stp) (n : Int) : Prop := ∀ x ∈ l, x.name ≠ kp ∧ x.to ≠ kp ∧ ((∃ u ∈ d.now.names, u.1 ≠ kp ∧ u.2 = x.file) ∨ x.file = n)
/-- A call on other names: nothing, or such steps. -/
def Calls' (d d' : Dsk) (kp : Byts) : Prop := d' = d ∨ (∃ l, callL d kp l (d.last + 1) ∧ l.length ≤ 2 ∧ (d' = (d.more l).1 ∧ (∀ x ∈ l, x.file ≠ d.last + 1 ∨ ∃ u ∈ d.now.names, u.1 ≠ kp ∧ u.2 = x.file) ∨ d' = { (d.more l).1 with last := d.last + 1 }))
theorem cut_calls {d : Dsk} {kp a : Byts} {n : Int} (hk : kp ≠ []) (ha : a ≠ kp) : Calls' d (d.cut a n).1 kp := by
  unfold Dsk.cut
  split
  · exact .inl rfl
  · split
    · exact .inl rfl
    · rename_i f hg _
      refine .inr ⟨_, fun x hx => ?_, by simp, .inl ⟨rfl, fun x hx => ?_⟩⟩
      · simp at hx; subst hx
        exact ⟨Ne.symm hk, Ne.symm hk, .inl ⟨_, nget_mem hg, ha, rfl⟩⟩
      · simp at hx; subst hx
        exact .inr ⟨_, nget_mem hg, ha, rfl⟩
theorem remove_calls {d : Dsk} {kp a : Byts} (hk : kp ≠ []) (ha : a ≠ kp) : Calls' d (d.remove a).1 kp := by
  unfold Dsk.remove
  split
  · exact .inl rfl
  · rename_i f hg
    refine .inr ⟨_, fun x hx => ?_, by simp, .inl ⟨rfl, fun x hx => ?_⟩⟩
    · simp at hx; subst hx
      exact ⟨ha, Ne.symm hk, .inl ⟨_, nget_mem hg, ha, rfl⟩⟩
    · simp at hx; subst hx
      exact .inr ⟨_, nget_mem hg, ha, rfl⟩
theorem rename_calls {d : Dsk} {kp a b : Byts} (hk : kp ≠ []) (ha : a ≠ kp) (hb : b ≠ kp) : Calls' d (d.rename a b).1 kp := by
  unfold Dsk.rename
  split
  · exact .inl rfl
  · split
    · exact .inl rfl
    · rename_i f hg
      split
      · exact .inr ⟨[], fun x hx => (by cases hx), by simp, .inl ⟨rfl, fun x hx => (by cases hx)⟩⟩
      · refine .inr ⟨_, fun x hx => ?_, by simp, .inl ⟨rfl, fun x hx => ?_⟩⟩
        · simp at hx; subst hx
          exact ⟨ha, hb, .inl ⟨_, nget_mem hg, ha, rfl⟩⟩
        · simp at hx; subst hx
          exact .inr ⟨_, nget_mem hg, ha, rfl⟩
theorem put_calls {d : Dsk} {kp a : Byts} {n : Int} {s : Byts} (hq : d.Q) (hk : kp ≠ []) (ha : a ≠ kp) : Calls' d (d.put a n s).1 kp := by
  unfold Dsk.put
  simp only []
  split
  · exact .inl rfl
  · split
    · exact .inl rfl
    · cases hg : nget d.now.names a with
      | some f =>
        refine .inr ⟨[⟨1, f, n, s, [], []⟩], fun x hx => ?_, by simp, .inl ⟨rfl, fun x hx => ?_⟩⟩
        · simp at hx; subst hx
          exact ⟨Ne.symm hk, Ne.symm hk, .inl ⟨_, nget_mem hg, ha, rfl⟩⟩
        · simp at hx; subst hx
          exact .inr ⟨_, nget_mem hg, ha, rfl⟩
      | none =>
        have h0 : (d.more [⟨0, d.last + 1, 0, zsec, a, []⟩, ⟨1, d.last + 1, n, s, [], []⟩]).2 = 0 := by rw [more_q hq]
        simp only [h0, ne_eq, not_true_eq_false, if_false]
        refine .inr ⟨[⟨0, d.last + 1, 0, zsec, a, []⟩, ⟨1, d.last + 1, n, s, [], []⟩], fun x hx => ?_, by simp, .inr rfl⟩
        simp at hx
        rcases hx with rfl | rfl
        · exact ⟨ha, Ne.symm hk, .inr rfl⟩
        · exact ⟨Ne.symm hk, Ne.symm hk, .inr rfl⟩

/-! ### After the sync -/
structure PC (d : Dsk) (kp : Byts) (F : Int) (l : List Byts) : Prop where
  q : d.Q
  av : ∀ x ∈ d.steps, Av F kp x
  sn : nget d.safe.names kp = some F
  sf : d.safe.files F = l
  nv : ∀ u ∈ d.now.names, u.1 ≠ kp → u.2 ≠ F
  last : F ≤ d.last
theorem PC.crash {d : Dsk} {kp : Byts} {F : Int} {l : List Byts} (h : PC d kp F l) (keep : List Bool) : (d.crash keep).read kp = (l.flatten, 0) := by
  obtain ⟨h1, h2⟩ := keepL_av keep (i := 0) (s := d.safe) h.av
  unfold Dsk.crash Dsk.read
  simp only []
  rw [h1, h.sn]
  have hm : F ∈ (keepL keep 0 d.steps d.safe).names.map (·.2) := List.mem_map.2 ⟨_, nget_mem (h1.trans h.sn), rfl⟩
  simp [heldF, hm, h2, h.sf]
theorem foldl_nv {F : Int} {kp : Byts} : ∀ {l : List Stp} {s : FS}, (∀ u ∈ s.names, u.1 ≠ kp → u.2 ≠ F) → (∀ x ∈ l, Av F kp x) → ∀ u ∈ (l.foldl FS.does s).names, u.1 ≠ kp → u.2 ≠ F
  | [], s, h, _ => h
  | a :: l, s, h, hl => foldl_nv (l := l) (s := s.does a) (fun u hu hk => by
      rcases does_mem u hu with h1 | ⟨h1, _⟩
      · exact h u h1 hk
      · rw [h1]; exact (hl a List.mem_cons_self).1) fun x hx => hl x (List.mem_cons_of_mem _ hx)
theorem PC.calls {d d' : Dsk} {kp : Byts} {F : Int} {l : List Byts} (h : PC d kp F l) (hc : Calls' d d' kp) : PC d' kp F l := by
  rcases hc with rfl | ⟨ls, h1, _, h2⟩
  · exact h
  · have hav : ∀ x ∈ ls, Av F kp x := fun x hx => by
      obtain ⟨a, b, c⟩ := h1 x hx
      refine ⟨?_, a, b⟩
      rcases c with ⟨u, hu, e1, e2⟩ | e
      · rw [← e2]; exact h.nv u hu e1
      · have := h.last; omega
    have hm : PC (d.more ls).1 kp F l := by
      rw [more_q h.q]
      refine ⟨h.q, fun y hy => ?_, h.sn, h.sf, foldl_nv h.nv hav, h.last⟩
      rcases List.mem_append.1 hy with hy | hy
      · exact h.av y hy
      · exact hav y hy
    rcases h2 with ⟨rfl, _⟩ | rfl
    · exact hm
    · exact ⟨hm.q, hm.av, hm.sn, hm.sf, hm.nv, by have := h.last; simp only []; omega⟩

/-! ### Ahead of the file -/
structure PA (d : Dsk) (kp : Byts) (c : Nat) : Prop where
  q : d.Q
  sl : ∀ x ∈ d.steps, x.file ≤ d.last ∧ x.name ≠ kp ∧ x.to ≠ kp
  nl : ∀ u ∈ d.now.names, u.2 ≤ d.last ∧ u.1 ≠ kp
  sk : nget d.safe.names kp = Option.none
  sf : ∀ k, d.last < k → d.safe.files k = [] ∧ d.now.files k = []
  cnt : d.now.names.length ≤ c
theorem PA.none {kp : Byts} : PA Dsk.none kp 0 := ⟨⟨rfl, rfl, rfl⟩, by simp [Dsk.none], by simp [Dsk.none, FS.none], rfl, fun k _ => ⟨rfl, rfl⟩, by simp [Dsk.none, FS.none]⟩
theorem foldl_length : ∀ {l : List Stp} {s : FS}, (l.foldl FS.does s).names.length ≤ s.names.length + l.length
  | [], s => Nat.le_refl _
  | a :: l, s => by
    have h1 := foldl_length (l := l) (s := s.does a)
    have h2 := does_length (s := s) (x := a)
    simp only [List.foldl_cons, List.length_cons]; omega
theorem PA.calls {d d' : Dsk} {kp : Byts} {c : Nat} (h : PA d kp c) (hc : Calls' d d' kp) : PA d' kp (c + 2) := by
  rcases hc with rfl | ⟨ls, h1, hl2, h2⟩
  · exact ⟨h.q, h.sl, h.nl, h.sk, h.sf, by have := h.cnt; omega⟩
  have gen : ∀ n : Int, d.last ≤ n → (∀ x ∈ ls, x.file ≤ n) → PA { (d.more ls).1 with last := n } kp (c + 2) := fun n hn hf => by
    rw [more_q h.q]
    refine ⟨h.q, fun y hy => ?_, ?_, h.sk, fun k hk => ⟨(h.sf k (by simp only [] at hk; omega)).1, ?_⟩, ?_⟩
    · rcases List.mem_append.1 hy with hy | hy
      · have := h.sl y hy; exact ⟨by simp only []; omega, this.2⟩
      · exact ⟨hf y hy, (h1 y hy).1, (h1 y hy).2.1⟩
    · have key : ∀ {l : List Stp} {s : FS}, (∀ u ∈ s.names, u.2 ≤ n ∧ u.1 ≠ kp) → (∀ x ∈ l, x ∈ ls) → ∀ u ∈ (l.foldl FS.does s).names, u.2 ≤ n ∧ u.1 ≠ kp := by
        intro l
        induction l with
        | nil => intro s hs _; exact hs
        | cons a l ih =>
          intro s hs hl
          refine ih (s := s.does a) (fun u hu => ?_) fun x hx => hl x (List.mem_cons_of_mem _ hx)
          have ha := hl a List.mem_cons_self
          rcases does_mem u hu with h3 | ⟨h3, h4⟩
          · exact hs u h3
          · refine ⟨by rw [h3]; exact hf a ha, ?_⟩
            rcases h4 with h4 | h4
            · rw [h4]; exact (h1 a ha).1
            · rw [h4]; exact (h1 a ha).2.1
      exact key (fun u hu => by have := h.nl u hu; exact ⟨by omega, this.2⟩) fun x hx => hx
    · have hk' : n < k := hk
      have := (foldl_av (F := k) (kp := kp) (l := ls) (s := d.now) fun x hx => ⟨by have := hf x hx; omega, (h1 x hx).1, (h1 x hx).2.1⟩).2
      simp only []
      rw [this]; exact (h.sf k (by omega)).2
    · have := foldl_length (l := ls) (s := d.now)
      have := h.cnt
      simp only []; omega
  have hfile : ∀ x ∈ ls, x.file ≤ d.last + 1 := fun x hx => by
    rcases (h1 x hx).2.2 with ⟨u, hu, _, e⟩ | e
    · have := (h.nl u hu).1; omega
    · omega
  rcases h2 with ⟨rfl, h3⟩ | rfl
  · have e : ({ (d.more ls).1 with last := d.last } : Dsk) = (d.more ls).1 := by rw [more_q h.q]
    rw [← e]
    refine gen d.last (Int.le_refl _) fun x hx => ?_
    rcases h3 x hx with h4 | ⟨u, hu, _, e⟩
    · have := hfile x hx; omega
    · have := (h.nl u hu).1; omega
  · exact gen (d.last + 1) (by omega) hfile
/-- All names are synced: what is left are pieces. -/
theorem settleL_left {so : Nat → Stp → Bool} {P : Stp → Prop} (h : ∀ i x, so i x = false → P x) : ∀ {l : List Stp} {i : Nat} {s : FS}, ∀ x ∈ (settleL so i l s).2, P x
  | [], i, s, x, hx => by cases hx
  | a :: l, i, s, x, hx => by
    simp only [settleL] at hx
    split at hx
    · exact settleL_left h x hx
    · rcases List.mem_cons.1 hx with rfl | hx
      · rename_i hs; exact h i _ (by simpa using hs)
      · exact settleL_left h x hx
theorem PA.syncNames {d : Dsk} {kp : Byts} {c : Nat} (h : PA d kp c) : d.syncNames.2 = 0 ∧ PA d.syncNames.1 kp c ∧ ∀ x ∈ d.syncNames.1.steps, x.what = 1 ∨ x.what = 2 := by
  unfold Dsk.syncNames Dsk.settle
  rw [stopped_q h.q]
  simp only [ne_eq, not_true_eq_false, if_false, true_and]
  refine ⟨⟨h.q, fun x hx => h.sl x (settleL_sub x hx), h.nl, ?_, fun k hk => ⟨?_, (h.sf k hk).2⟩, h.cnt⟩, settleL_left fun i x hs => ?_⟩
  · rw [(settleL_av (F := d.last + 1) (kp := kp) fun x hx => ⟨by have := (h.sl x hx).1; omega, (h.sl x hx).2⟩).1]; exact h.sk
  · have hk' : d.last < k := hk
    rw [(settleL_av (F := k) (kp := kp) fun x hx => ⟨by have := (h.sl x hx).1; omega, (h.sl x hx).2⟩).2]; exact (h.sf k hk').1
  · by_cases h1 : x.what = 1
    · exact .inl h1
    · right
      simpa [h1] using hs
end Go.Sx

/-! A file is put, then synced. -/
namespace Go.Sx

theorem settle_none {so : Nat → Stp → Bool} : ∀ {l : List Stp} {i : Nat} {s : FS}, (∀ j (hj : j < l.length), so (i + j) l[j] = false) → settleL so i l s = (s, l)
  | [], i, s, _ => rfl
  | a :: l, i, s, h => by
    have h0 := h 0 (by simp)
    simp only [Nat.add_zero, List.getElem_cons_zero] at h0
    have := settle_none (so := so) (l := l) (i := i + 1) (s := s) fun j hj => by
      have := h (j + 1) (by simp; omega)
      rw [show i + 1 + j = i + (j + 1) by omega]; simpa using this
    simp [settleL, h0, this]
theorem settle_append {so : Nat → Stp → Bool} : ∀ {a b : List Stp} {i : Nat} {s : FS}, settleL so i (a ++ b) s = ((settleL so (i + a.length) b (settleL so i a s).1).1, (settleL so i a s).2 ++ (settleL so (i + a.length) b (settleL so i a s).1).2)
  | [], b, i, s => by simp [settleL]
  | x :: a, b, i, s => by
    simp only [List.cons_append, settleL, List.length_cons]
    split
    · rw [settle_append (a := a)]
      rw [show i + 1 + a.length = i + (a.length + 1) by omega]
    · rw [settle_append (a := a)]
      rw [show i + 1 + a.length = i + (a.length + 1) by omega]
      simp

structure PB (d : Dsk) (kp : Byts) (F : Int) (l : List Byts) : Prop where
  q : d.Q
  st : ∃ pre ps, d.steps = pre ++ ps ∧ (∀ x ∈ pre, (x.what = 1 ∨ x.what = 2) ∧ Av F kp x) ∧ ((l = [] ∧ ps = [] ∧ nget d.now.names kp = Option.none ∧ d.last = F - 1) ∨
    (l ≠ [] ∧ (∃ qs, ps = ⟨0, F, 0, zsec, kp, []⟩ :: qs ∧ ∀ x ∈ qs, x.what = 1 ∧ x.file = F) ∧ nget d.now.names kp = some F ∧ d.last = F ∧ nget (ps.foldl FS.does d.safe).names kp = some F ∧ (ps.foldl FS.does d.safe).files F = l))
  nf : d.now.files F = l
  sf : d.safe.files F = []
  nv : ∀ u ∈ d.now.names, u.1 ≠ kp → u.2 ≠ F
  cnt : d.now.names.length ≤ 201 ∧ (l = [] → d.now.names.length ≤ 200)
theorem PA.start {d : Dsk} {kp : Byts} {c : Nat} (h : PA d kp c) (hc : c ≤ 200) (hw : ∀ x ∈ d.steps, x.what = 1 ∨ x.what = 2) : PB d kp (d.last + 1) [] := by
  refine ⟨h.q, ⟨d.steps, [], by simp, fun x hx => ⟨hw x hx, by have := (h.sl x hx).1; omega, (h.sl x hx).2⟩, .inl ⟨rfl, rfl, ?_, by omega⟩⟩, (h.sf _ (by omega)).2, (h.sf _ (by omega)).1, fun u hu _ => by have := (h.nl u hu).1; omega, by have := h.cnt; exact ⟨by omega, fun _ => by omega⟩⟩
  cases hg : nget d.now.names kp with
  | none => rfl
  | some f => exact absurd rfl (h.nl _ (nget_mem hg)).2
theorem PB.put {d : Dsk} {kp : Byts} {F : Int} {l : List Byts} {s : Byts} (h : PB d kp F l) (hk : kp.length ≥ 1 ∧ kp.length ≤ 64) (hl : l.length < 100) (hs : s.length = 64) : (d.put kp l.length s).2 = 0 ∧ PB (d.put kp l.length s).1 kp F (l ++ [s]) := by
  have hn : named kp = true := by unfold named; simp; omega
  obtain ⟨pre, ps, e1, e2, e3⟩ := h.st
  have hnv : ∀ {ls : List Stp} {s0 : FS}, (∀ u ∈ s0.names, u.1 ≠ kp → u.2 ≠ F) → (∀ x ∈ ls, x.what = 1 ∨ x.name = kp ∧ x.what = 0) → ∀ u ∈ (ls.foldl FS.does s0).names, u.1 ≠ kp → u.2 ≠ F := by
    intro ls
    induction ls with
    | nil => intro s0 h0 _; exact h0
    | cons a ls ih =>
      intro s0 h0 hls
      refine ih (s0 := s0.does a) (fun u hu hku => ?_) fun x hx => hls x (List.mem_cons_of_mem _ hx)
      rcases hls a List.mem_cons_self with ha | ⟨ha, hb⟩
      · have : (s0.does a).names = s0.names := by simp [FS.does, ha]
        rw [this] at hu; exact h0 u hu hku
      · have : (s0.does a).names = nset s0.names kp a.file := by simp [FS.does, hb, ha]
        rw [this] at hu
        rcases nset_mem u hu with rfl | hu
        · exact absurd rfl hku
        · exact h0 u hu hku
  rcases e3 with ⟨rfl, rfl, e4, e5⟩ | ⟨e3, ⟨qs, e4, e5⟩, e6, e7, e8, e9⟩
  · have hput : d.put kp (([] : List Byts).length : Nat) s = ({ d with steps := d.steps ++ [⟨0, F, 0, zsec, kp, []⟩, ⟨1, F, 0, s, [], []⟩], now := [⟨0, F, 0, zsec, kp, []⟩, ⟨1, F, 0, s, [], []⟩].foldl FS.does d.now, last := F }, 0) := by
      unfold Dsk.put
      simp only [e4, Option.getD_none]
      rw [if_neg (by
        simp only [not_or]
        refine ⟨by rw [hn]; simp, by omega, by simp, by simp, by simp⟩)]
      rw [if_neg (by
        simp only [not_or]
        refine ⟨by simp, ?_⟩
        simp only [true_and]
        have := h.cnt.1; omega)]
      have hl1 : d.last + 1 = F := by omega
      rw [hl1, more_q h.q]
      simp only [ne_eq, not_true_eq_false, if_false]
      rfl
    rw [hput]
    have hnow : [⟨0, F, 0, zsec, kp, []⟩, ⟨1, F, 0, s, [], []⟩].foldl FS.does d.now = ⟨nset d.now.names kp F, updF d.now.files F (putS (d.now.files F) 0 s)⟩ := rfl
    have hsf : [⟨0, F, 0, zsec, kp, []⟩, ⟨1, F, 0, s, [], []⟩].foldl FS.does d.safe = ⟨nset d.safe.names kp F, updF d.safe.files F (putS (d.safe.files F) 0 s)⟩ := rfl
    have hp : putS ([] : List Byts) 0 s = [s] := rfl
    refine ⟨rfl, h.q, ⟨pre, [⟨0, F, 0, zsec, kp, []⟩, ⟨1, F, 0, s, [], []⟩], by rw [e1]; simp, e2, .inr ⟨by simp, ⟨[⟨1, F, 0, s, [], []⟩], rfl, fun x hx => ?_⟩, ?_, rfl, ?_, ?_⟩⟩, ?_, h.sf, ?_, ?_⟩
    · simp at hx; subst hx; exact ⟨rfl, rfl⟩
    · rw [hnow]; exact nget_nset_self
    · rw [hsf]; exact nget_nset_self
    · rw [hsf]; simp [updF, h.sf, hp]
    · rw [hnow]; simp [updF, h.nf, hp]
    · exact hnv h.nv fun x hx => by
        simp at hx
        rcases hx with rfl | rfl
        · exact .inr ⟨rfl, rfl⟩
        · exact .inl rfl
    · rw [hnow]
      have h1 := h.cnt.2 rfl
      have h2 := nset_length (s := kp) (f := F) (ns := d.now.names)
      exact ⟨by simp only []; omega, fun e => by simp at e⟩
  · have hput : d.put kp (l.length : Nat) s = ({ d with steps := d.steps ++ [⟨1, F, (l.length : Nat), s, [], []⟩], now := FS.does d.now ⟨1, F, (l.length : Nat), s, [], []⟩ }, 0) := by
      unfold Dsk.put
      simp only [e6, Option.getD_some]
      rw [if_neg (by
        simp only [not_or]
        refine ⟨by rw [hn]; simp, by omega, by omega, ?_, by simp⟩
        rw [h.nf]; omega)]
      rw [if_neg (by simp; omega)]
      rw [more_q h.q]
      rfl
    rw [hput]
    have hnow : FS.does d.now ⟨1, F, (l.length : Nat), s, [], []⟩ = ⟨d.now.names, updF d.now.files F (putS (d.now.files F) l.length s)⟩ := rfl
    refine ⟨rfl, h.q, ⟨pre, ps ++ [⟨1, F, (l.length : Nat), s, [], []⟩], by rw [e1]; simp, e2, .inr ⟨by simp, ⟨qs ++ [⟨1, F, (l.length : Nat), s, [], []⟩], by rw [e4]; rfl, fun x hx => ?_⟩, by rw [hnow]; exact e6, e7, ?_, ?_⟩⟩, ?_, h.sf, ?_, ?_⟩
    · rcases List.mem_append.1 hx with hx | hx
      · exact e5 x hx
      · simp at hx; subst hx; exact ⟨rfl, rfl⟩
    · rw [List.foldl_append]; exact e8
    · rw [List.foldl_append]
      show (FS.does (ps.foldl FS.does d.safe) ⟨1, F, (l.length : Nat), s, [], []⟩).files F = _
      have : FS.does (ps.foldl FS.does d.safe) ⟨1, F, (l.length : Nat), s, [], []⟩ = ⟨(ps.foldl FS.does d.safe).names, updF (ps.foldl FS.does d.safe).files F (putS ((ps.foldl FS.does d.safe).files F) l.length s)⟩ := rfl
      rw [this]
      simp only [updF_same, e9, putS_end]
    · rw [hnow]; simp only [updF_same, h.nf, putS_end]
    · rw [hnow]; exact h.nv
    · rw [hnow]; exact ⟨h.cnt.1, fun e => by simp at e⟩
theorem PB.sync {d : Dsk} {kp : Byts} {F : Int} {l : List Byts} (h : PB d kp F l) (hl : l ≠ []) : (d.sync kp).2 = 0 ∧ PC (d.sync kp).1 kp F l := by
  obtain ⟨pre, ps, e1, e2, e3⟩ := h.st
  rcases e3 with ⟨rfl, _⟩ | ⟨_, ⟨qs, e4, e5⟩, e6, e7, e8, e9⟩
  · exact absurd rfl hl
  have hup : upto F d.steps = (pre.length : Nat) := by
    unfold upto
    have : d.steps.findIdx? (fun x => decide (x.file = F) && decide (x.what = 0)) = some pre.length := by
      rw [List.findIdx?_eq_some_iff_getElem]
      refine ⟨by rw [e1, e4]; simp, ?_, fun i hi => ?_⟩
      · simp [e1, e4]
      · have hp : d.steps[i]'(by rw [e1]; simp; omega) = pre[i] := by simp [e1, List.getElem_append_left hi]
        rw [hp]
        have := (e2 _ (List.getElem_mem hi)).2.1
        simp [this]
    rw [this]
  unfold Dsk.sync
  rw [e6]
  simp only []
  unfold Dsk.settle
  rw [stopped_q h.q]
  simp only [ne_eq, not_true_eq_false, if_false, true_and]
  rw [hup, e1, settle_append, settle_none (l := pre) fun j hj => by
    have := e2 _ (List.getElem_mem hj)
    rw [if_pos this.1]; simp [this.2.1]]
  simp only []
  rw [settle_all (l := ps) fun j hj => by
    rw [Nat.zero_add]
    cases j with
    | zero => simp [e4]
    | succ j =>
      have hm : ps[j + 1] ∈ qs := by
        have : ps[j + 1] = qs[j]'(by rw [e4] at hj; simpa using hj) := by simp [e4]
        rw [this]; exact List.getElem_mem _
      obtain ⟨a, b⟩ := e5 _ hm
      rw [if_pos (.inl a)]; simp [b]]
  refine ⟨h.q, fun x hx => ?_, e8, e9, h.nv, by simp only []; omega⟩
  simp only [List.append_nil] at hx
  exact (e2 x hx).2
end Go.Sx

/-! Steps that are settled out of turn: what stands stays what the steps make of what is safe. -/
namespace Go.Sx

theorem nget_nset {s t : Byts} {f : Int} {ns : List (Byts × Int)} : nget (nset ns s f) t = if t = s then some f else nget ns t := by
  by_cases h : t = s
  · subst h; rw [if_pos rfl]; exact nget_nset_self
  · rw [if_neg h]; exact nget_nset_ne h
def keysN (ns : List (Byts × Int)) : Prop := (ns.map (·.1)).Nodup
theorem keysN_nset {s : Byts} {f : Int} : ∀ {ns : List (Byts × Int)}, keysN ns → keysN (nset ns s f)
  | [], _ => by simp [nset, keysN]
  | x :: r, h => by
    obtain ⟨h1, h2⟩ := List.nodup_cons.1 (show (x.1 :: r.map (·.1)).Nodup from h)
    simp only [nset]
    split
    · rename_i e
      show (s :: r.map (·.1)).Nodup
      rw [← e]; exact h
    · rename_i hne
      show (x.1 :: (nset r s f).map (·.1)).Nodup
      refine List.nodup_cons.2 ⟨fun hm => ?_, keysN_nset h2⟩
      obtain ⟨u, hu, e⟩ := List.mem_map.1 hm
      rcases nset_mem u hu with rfl | hu
      · exact hne e.symm
      · exact h1 (e ▸ List.mem_map_of_mem hu)
theorem keysN_ndel {s : Byts} : ∀ {ns : List (Byts × Int)}, keysN ns → keysN (ndel ns s)
  | [], h => h
  | x :: r, h => by
    obtain ⟨h1, h2⟩ := List.nodup_cons.1 (show (x.1 :: r.map (·.1)).Nodup from h)
    simp only [ndel]
    split
    · exact h2
    · show (x.1 :: (ndel r s).map (·.1)).Nodup
      refine List.nodup_cons.2 ⟨fun hm => ?_, keysN_ndel h2⟩
      obtain ⟨u, hu, e⟩ := List.mem_map.1 hm
      exact h1 (e ▸ List.mem_map_of_mem (ndel_sub u hu))
theorem nget_none_of {s : Byts} {ns : List (Byts × Int)} (h : s ∉ ns.map (·.1)) : nget ns s = Option.none := by
  cases hg : nget ns s with
  | none => rfl
  | some f => exact absurd (List.mem_map.2 ⟨_, nget_mem hg, rfl⟩) h
theorem nget_ndel {s t : Byts} {ns : List (Byts × Int)} (hk : keysN ns) : nget (ndel ns s) t = if t = s then Option.none else nget ns t := by
  by_cases h : t = s
  · subst h
    rw [if_pos rfl]
    apply nget_none_of
    induction ns with
    | nil => simp [ndel]
    | cons x r ih =>
      obtain ⟨h1, h2⟩ := List.nodup_cons.1 (show (x.1 :: r.map (·.1)).Nodup from hk)
      simp only [ndel]
      split
      · rename_i e; rw [← e]; exact h1
      · rename_i hne
        intro hm
        rcases List.mem_cons.1 (show t ∈ x.1 :: (ndel r t).map (·.1) from hm) with e | hm
        · exact hne e.symm
        · exact ih h2 hm
  · rw [if_neg h]; exact nget_ndel_ne h

/-- Names and files as functions. -/
structure FF where
  N : Byts → Option Int
  F : Int → List Byts
def FS.ff (s : FS) : FF := ⟨nget s.names, s.files⟩
def FF.does (s : FF) (x : Stp) : FF :=
  if x.what = 0 then ⟨fun t => if t = x.name then some x.file else s.N t, s.F⟩
  else if x.what = 1 then ⟨s.N, updF s.F x.file (putS (s.F x.file) x.n.toNat x.data)⟩
  else if x.what = 2 then ⟨s.N, updF s.F x.file ((s.F x.file).take x.n.toNat)⟩
  else if s.N x.name = some x.file then
    (if x.what = 3 then ⟨fun t => if t = x.to then some x.file else if t = x.name then Option.none else s.N t, s.F⟩ else ⟨fun t => if t = x.name then Option.none else s.N t, s.F⟩)
  else s
theorem does_keysN {s : FS} (h : keysN s.names) (x : Stp) : keysN (s.does x).names := by
  unfold FS.does
  split
  · exact keysN_nset h
  · split
    · exact h
    · split
      · exact h
      · split
        · split
          · split
            · exact keysN_nset (keysN_ndel h)
            · exact keysN_ndel h
          · exact h
        · exact h
theorem ff_does {s : FS} (h : keysN s.names) (x : Stp) : (s.does x).ff = s.ff.does x := by
  unfold FS.does FF.does FS.ff
  simp only []
  split
  · congr 1; funext t; exact nget_nset
  · split
    · rfl
    · split
      · rfl
      · cases hg : nget s.names x.name with
        | none => simp
        | some f =>
          simp only [Option.some.injEq]
          by_cases hf : f = x.file
          · simp only [if_pos hf]
            split
            · congr 1; funext t
              rw [nget_nset, nget_ndel h]
            · congr 1; funext t
              rw [nget_ndel h]
          · simp only [if_neg hf]
theorem ff_foldl : ∀ {l : List Stp} {s : FS}, keysN s.names → (l.foldl FS.does s).ff = l.foldl FF.does s.ff ∧ keysN (l.foldl FS.does s).names
  | [], s, h => ⟨rfl, h⟩
  | a :: l, s, h => by
    obtain ⟨h1, h2⟩ := ff_foldl (l := l) (does_keysN h a)
    exact ⟨by rw [List.foldl_cons, h1, ff_does h]; rfl, h2⟩

/-- One turns names, the other a file; or they turn files that differ. -/
def fileStp (x : Stp) : Prop := x.what = 1 ∨ x.what = 2
def Comm (x y : Stp) : Prop := (fileStp x ∧ ¬ fileStp y) ∨ (¬ fileStp x ∧ fileStp y) ∨ (fileStp x ∧ fileStp y ∧ x.file ≠ y.file)
theorem does_file {x : Stp} (h : fileStp x) (s : FF) : (s.does x).N = s.N ∧ (∀ k, k ≠ x.file → (s.does x).F k = s.F k) ∧ ∀ s' : FF, s'.F x.file = s.F x.file → (s'.does x).F x.file = (s.does x).F x.file := by
  unfold FF.does
  rcases h with h | h
  · simp only [h, show ¬ ((1 : Int) = 0) by decide, if_false, if_true, true_and]
    exact ⟨fun k hk => by simp [updF, hk], fun s' e => by simp [updF, e]⟩
  · simp only [h, show ¬ ((2 : Int) = 0) by decide, show ¬ ((2 : Int) = 1) by decide, if_false, if_true, true_and]
    exact ⟨fun k hk => by simp [updF, hk], fun s' e => by simp [updF, e]⟩
theorem does_name {x : Stp} (h : ¬ fileStp x) (s : FF) : (s.does x).F = s.F ∧ ∀ s' : FF, s'.N = s.N → (s'.does x).N = (s.does x).N := by
  unfold fileStp at h
  simp only [not_or] at h
  unfold FF.does
  by_cases h0 : x.what = 0
  · simp only [h0, if_true]; exact ⟨trivial, fun s' e => by rw [e]⟩
  · simp only [h0, h.1, h.2, if_false]
    refine ⟨?_, fun s' e => ?_⟩
    · split
      · split <;> rfl
      · rfl
    · rw [e]
      split
      · split <;> rfl
      · exact e
theorem FF.ext' {s t : FF} (h1 : s.N = t.N) (h2 : ∀ k, s.F k = t.F k) : s = t := by
  obtain ⟨a, b⟩ := s
  obtain ⟨c, d⟩ := t
  simp only at h1 h2
  rw [h1, show b = d from funext h2]
theorem comm_names {x y : Stp} (hx : fileStp x) (hy : ¬ fileStp y) (s : FF) : (s.does x).does y = (s.does y).does x := by
  obtain ⟨a1, a2, a3⟩ := does_file hx s
  obtain ⟨b1, b2⟩ := does_name hy s
  obtain ⟨c1, c2, c3⟩ := does_file hx (s.does y)
  obtain ⟨d1, d2⟩ := does_name hy (s.does x)
  refine FF.ext' ?_ fun k => ?_
  · rw [c1]; exact b2 _ a1
  · rw [d1]
    by_cases hk : k = x.file
    · subst hk; exact (a3 _ (by rw [b1])).symm
    · rw [a2 k hk, c2 k hk, b1]
theorem comm_does {x y : Stp} (h : Comm x y) (s : FF) : (s.does x).does y = (s.does y).does x := by
  rcases h with ⟨h1, h2⟩ | ⟨h1, h2⟩ | ⟨h1, h2, h3⟩
  · exact comm_names h1 h2 s
  · exact (comm_names h2 h1 s).symm
  · obtain ⟨a1, a2, a3⟩ := does_file h1 s
    obtain ⟨b1, b2, b3⟩ := does_file h2 s
    obtain ⟨c1, c2, c3⟩ := does_file h1 (s.does y)
    obtain ⟨d1, d2, d3⟩ := does_file h2 (s.does x)
    refine FF.ext' (by rw [d1, a1, c1, b1]) fun k => ?_
    by_cases hx : k = x.file
    · subst hx
      rw [d2 _ h3]
      exact (a3 _ (b2 _ h3)).symm
    · rw [c2 k hx]
      by_cases hy : k = y.file
      · subst hy; exact b3 _ (a2 _ hx)
      · rw [d2 k hy, a2 k hx, b2 k hy]
theorem foldl_past {a : Stp} : ∀ {S : List Stp} {s : FF}, (∀ y ∈ S, Comm a y) → S.foldl FF.does (s.does a) = (S.foldl FF.does s).does a
  | [], s, _ => rfl
  | y :: S, s, h => by
    rw [List.foldl_cons, List.foldl_cons, comm_does (h y List.mem_cons_self)]
    exact foldl_past fun z hz => h z (List.mem_cons_of_mem _ hz)

/-- Those that are settled. -/
def sett (so : Nat → Stp → Bool) : Nat → List Stp → List Stp
  | _, [] => []
  | i, x :: r => if so i x then x :: sett so (i + 1) r else sett so (i + 1) r
theorem settleL_fst {so : Nat → Stp → Bool} : ∀ {l : List Stp} {i : Nat} {s : FS}, (settleL so i l s).1 = (sett so i l).foldl FS.does s
  | [], i, s => rfl
  | a :: l, i, s => by
    simp only [settleL, sett]
    split
    · rw [settleL_fst]; rfl
    · exact settleL_fst
/-- No left step stands ahead of a settled one that it does not commute with. -/
def Turn (so : Nat → Stp → Bool) : Nat → List Stp → Prop
  | _, [] => True
  | i, x :: r => (so i x = false → ∀ y ∈ sett so (i + 1) r, Comm x y) ∧ Turn so (i + 1) r
theorem settle_ff {so : Nat → Stp → Bool} : ∀ {l : List Stp} {i : Nat} {s : FS}, keysN s.names → Turn so i l → (settleL so i l s).2.foldl FF.does (settleL so i l s).1.ff = l.foldl FF.does s.ff
  | [], i, s, _, _ => rfl
  | a :: l, i, s, hk, ht => by
    simp only [settleL]
    cases hs : so i a with
    | true =>
      simp only [if_true]
      rw [settle_ff (l := l) (does_keysN hk a) ht.2, ff_does hk]
      rfl
    | false =>
      simp only [Bool.false_eq_true, if_false, List.foldl_cons]
      have hI := settle_ff (l := l) (i := i + 1) (s := s.does a) (does_keysN hk a) ht.2
      rw [ff_does hk] at hI
      have h1 : (settleL so (i + 1) l s).1.ff.does a = (settleL so (i + 1) l (s.does a)).1.ff := by
        rw [settleL_fst, settleL_fst, (ff_foldl hk).1, (ff_foldl (does_keysN hk a)).1, ff_does hk]
        exact (foldl_past (ht.1 hs)).symm
      have h2 : (settleL so (i + 1) l s).2 = (settleL so (i + 1) l (s.does a)).2 := by
        have : ∀ {l : List Stp} {i : Nat} {s t : FS}, (settleL so i l s).2 = (settleL so i l t).2 := by
          intro l
          induction l with
          | nil => intro i s t; rfl
          | cons b l ih =>
            intro i s t
            simp only [settleL]
            split
            · exact ih
            · simp only [List.cons.injEq, true_and]; exact ih
        exact this
      rw [← hI, h1, h2]
end Go.Sx

/-! What stands is what the steps make of what is safe. -/
namespace Go.Sx

structure RI (d : Dsk) : Prop where
  q : d.Q
  ks : keysN d.safe.names
  kn : keysN d.now.names
  re : d.steps.foldl FF.does d.safe.ff = d.now.ff
theorem RI.none : RI Dsk.none := ⟨⟨rfl, rfl, rfl⟩, List.nodup_nil, List.nodup_nil, rfl⟩
theorem RI.more {d : Dsk} (h : RI d) (l : List Stp) : RI (d.more l).1 := by
  rw [more_q h.q]
  obtain ⟨h1, h2⟩ := ff_foldl (l := l) h.kn
  exact ⟨h.q, h.ks, h2, by rw [List.foldl_append, h.re, h1]⟩
theorem RI.last {d : Dsk} (h : RI d) (n : Int) : RI { d with last := n } := ⟨h.q, h.ks, h.kn, h.re⟩
theorem RI.calls {d d' : Dsk} {kp : Byts} (h : RI d) (hc : Calls' d d' kp) : RI d' := by
  rcases hc with rfl | ⟨ls, _, _, h2⟩
  · exact h
  · rcases h2 with ⟨rfl, _⟩ | rfl
    · exact h.more ls
    · exact (h.more ls).last _
theorem RI.settle {d : Dsk} (h : RI d) {so : Nat → Stp → Bool} (ht : Turn so 0 d.steps) : RI (d.settle so).1 ∧ (d.settle so).2 = 0 ∧ (d.settle so).1.now = d.now ∧ (d.settle so).1.steps = (settleL so 0 d.steps d.safe).2 := by
  unfold Dsk.settle
  rw [stopped_q h.q]
  simp only [ne_eq, not_true_eq_false, if_false, and_self, and_true]
  refine ⟨h.q, ?_, h.kn, ?_⟩
  · rw [settleL_fst]; exact (ff_foldl h.ks).2
  · rw [settle_ff h.ks ht]; exact h.re
theorem turn_of {so : Nat → Stp → Bool} (h : ∀ i j x y, i < j → so i x = false → so j y = true → Comm x y) : ∀ {l : List Stp} {i : Nat}, Turn so i l
  | [], _ => trivial
  | a :: l, i => by
    refine ⟨fun hs y hy => ?_, turn_of h⟩
    have : ∀ {l : List Stp} {k : Nat}, i < k → ∀ y ∈ sett so k l, ∃ j, i < j ∧ so j y = true := by
      intro l
      induction l with
      | nil => intro k _ y hy; cases hy
      | cons b l ih =>
        intro k hk y hy
        simp only [sett] at hy
        split at hy
        · rename_i hb
          rcases List.mem_cons.1 hy with rfl | hy
          · exact ⟨k, hk, hb⟩
          · exact ih (by omega) y hy
        · exact ih (by omega) y hy
    obtain ⟨j, hj, hy'⟩ := this (Nat.lt_succ_self i) y hy
    exact h i j a y hj hs hy'
theorem RI.sync {d : Dsk} (h : RI d) (a : Byts) : RI (d.sync a).1 ∧ (d.sync a).1.now = d.now := by
  unfold Dsk.sync
  split
  · exact ⟨h, rfl⟩
  · rename_i f _
    have ht : Turn (fun i x => if x.what = 1 ∨ x.what = 2 then decide (x.file = f) else decide ((i : Int) ≤ upto f d.steps)) 0 d.steps := turn_of fun i j x y hij hx hy => by
      unfold Comm fileStp
      by_cases h1 : x.what = 1 ∨ x.what = 2
      · rw [if_pos h1] at hx
        by_cases h2 : y.what = 1 ∨ y.what = 2
        · rw [if_pos h2] at hy
          have hx := of_decide_eq_false hx
          have hy := of_decide_eq_true hy
          exact .inr (.inr ⟨h1, h2, by rw [hy]; exact hx⟩)
        · exact .inl ⟨h1, h2⟩
      · rw [if_neg h1] at hx
        by_cases h2 : y.what = 1 ∨ y.what = 2
        · exact .inr (.inl ⟨h1, h2⟩)
        · rw [if_neg h2] at hy
          have hx := of_decide_eq_false hx
          have hy := of_decide_eq_true hy
          omega
    obtain ⟨a, b, c, _⟩ := h.settle ht
    exact ⟨a, c⟩
theorem RI.syncNames {d : Dsk} (h : RI d) : RI d.syncNames.1 ∧ d.syncNames.2 = 0 ∧ d.syncNames.1.now = d.now := by
  have ht : Turn (fun _ x => decide (x.what ≠ 1) && decide (x.what ≠ 2)) 0 d.steps := turn_of fun i j x y hij hx hy => by
    refine .inl ⟨?_, ?_⟩
    · unfold fileStp
      by_cases h1 : x.what = 1
      · exact .inl h1
      · right; simpa [h1] using hx
    · unfold fileStp
      simp at hy
      intro h
      rcases h with h | h
      · exact hy.1 h
      · exact hy.2 h
  obtain ⟨a, b, c, _⟩ := h.settle ht
  exact ⟨a, b, c⟩

/-- What reading a disk tells, by what it stands as. -/
theorem mem_keys {ns : List (Byts × Int)} (s : Byts) : s ∈ ns.map (·.1) ↔ (nget ns s).isSome = true := by
  constructor
  · intro h
    cases hg : nget ns s with
    | some f => rfl
    | none =>
      obtain ⟨u, hu, e⟩ := List.mem_map.1 h
      unfold nget at hg
      rw [Option.map_eq_none_iff, List.find?_eq_none] at hg
      exact absurd (decide_eq_true e) (hg u hu)
  · intro h
    cases hg : nget ns s with
    | some f => exact List.mem_map.2 ⟨_, nget_mem hg, rfl⟩
    | none => rw [hg] at h; cases h
theorem keys_perm {a b : List (Byts × Int)} (ha : keysN a) (hb : keysN b) (h : nget a = nget b) : (a.map (·.1)).Perm (b.map (·.1)) :=
  (List.perm_ext_iff_of_nodup ha hb).2 fun s => by rw [mem_keys, mem_keys, h]
theorem read_of {d e : Dsk} (hd : d.down = false) (he : e.down = false) (hn : nget d.now.names = nget e.now.names) (s : Byts) (hf : ∀ f, nget e.now.names s = some f → d.now.files f = e.now.files f) : d.read s = e.read s := by
  unfold Dsk.read
  rw [hn]
  cases hg : nget e.now.names s with
  | none => rfl
  | some f => simp only [hd, he, hf f hg]
/-- A crash that keeps all. -/
theorem keepL_true : ∀ {keep : List Bool} {l : List Stp} {i : Nat} {s : FS}, (∀ j, j < l.length → keep.getD (i + j) false = true) → keepL keep i l s = l.foldl FS.does s
  | keep, [], i, s, _ => rfl
  | keep, a :: l, i, s, h => by
    have h0 := h 0 (by simp)
    rw [Nat.add_zero] at h0
    simp only [keepL, h0, if_true, List.foldl_cons]
    exact keepL_true fun j hj => by
      have := h (j + 1) (by simp; omega)
      rwa [show i + 1 + j = i + (j + 1) by omega]
theorem crash_all {d : Dsk} (h : RI d) {keep : List Bool} (hk : ∀ j, j < d.steps.length → keep.getD j false = true) : nget (d.crash keep).now.names = nget d.now.names ∧ keysN (d.crash keep).now.names ∧ ∀ s, (d.crash keep).read s = d.read s := by
  have hs := keepL_true (keep := keep) (l := d.steps) (i := 0) (s := d.safe) fun j hj => by rw [Nat.zero_add]; exact hk j hj
  obtain ⟨h1, h2⟩ := ff_foldl (l := d.steps) h.ks
  rw [h.re] at h1
  have hN : nget (d.steps.foldl FS.does d.safe).names = nget d.now.names := congrArg FF.N h1
  have hF : (d.steps.foldl FS.does d.safe).files = d.now.files := congrArg FF.F h1
  have hn : nget (d.crash keep).now.names = nget d.now.names := by
    show nget (keepL keep 0 d.steps d.safe).names = _
    rw [hs]; exact hN
  refine ⟨hn, by show keysN (keepL keep 0 d.steps d.safe).names; rw [hs]; exact h2, fun s => read_of rfl h.q.1 hn s fun f hg => ?_⟩
  show heldF (keepL keep 0 d.steps d.safe) f = _
  rw [hs]
  unfold heldF
  rw [if_pos (List.mem_map.2 ⟨_, nget_mem ((congrFun hN s).trans hg), rfl⟩), hF]
end Go.Sx

/-! Behind a sync of all files and names. -/
namespace Go.Sx

theorem sync_left {d : Dsk} (h : RI d) {a : Byts} {f : Int} (hg : nget d.now.names a = some f) : (d.sync a).2 = 0 ∧ ∀ x ∈ (d.sync a).1.steps, x ∈ d.steps ∧ (fileStp x → x.file ≠ f) := by
  unfold Dsk.sync
  rw [hg]
  simp only []
  unfold Dsk.settle
  rw [stopped_q h.q]
  simp only [ne_eq, not_true_eq_false, if_false, true_and]
  intro x hx
  refine ⟨settleL_sub x hx, ?_⟩
  exact settleL_left (P := fun x => fileStp x → x.file ≠ f) (fun i x hs hf => by
    unfold fileStp at hf
    rw [if_pos hf] at hs
    exact of_decide_eq_false hs) x hx
theorem syncNames_left {d : Dsk} (h : RI d) : ∀ x ∈ d.syncNames.1.steps, x ∈ d.steps ∧ fileStp x := by
  unfold Dsk.syncNames Dsk.settle
  rw [stopped_q h.q]
  simp only [ne_eq, not_true_eq_false, if_false]
  intro x hx
  refine ⟨settleL_sub x hx, settleL_left (P := fileStp) (fun i x hs => ?_) x hx⟩
  unfold fileStp
  by_cases h1 : x.what = 1
  · exact .inl h1
  · right; simpa [h1] using hs
theorem does_fileS {s : FS} {x : Stp} (h : fileStp x) : (s.does x).names = s.names ∧ ∀ k, k ≠ x.file → (s.does x).files k = s.files k := by
  unfold FS.does
  rcases h with h | h
  · simp only [h, show ¬ ((1 : Int) = 0) by decide, if_false, if_true, true_and]
    exact fun k hk => by simp [updF, hk]
  · simp only [h, show ¬ ((2 : Int) = 0) by decide, show ¬ ((2 : Int) = 1) by decide, if_false, if_true, true_and]
    exact fun k hk => by simp [updF, hk]
theorem foldl_fileS : ∀ {l : List Stp} {s : FS}, (∀ x ∈ l, fileStp x) → (l.foldl FS.does s).names = s.names ∧ ∀ k, (∀ x ∈ l, x.file ≠ k) → (l.foldl FS.does s).files k = s.files k
  | [], s, _ => ⟨rfl, fun _ _ => rfl⟩
  | a :: l, s, h => by
    obtain ⟨h1, h2⟩ := does_fileS (s := s) (h a List.mem_cons_self)
    obtain ⟨h3, h4⟩ := foldl_fileS (l := l) (s := s.does a) fun x hx => h x (List.mem_cons_of_mem _ hx)
    exact ⟨h3.trans h1, fun k hk => (h4 k fun x hx => hk x (List.mem_cons_of_mem _ hx)).trans (h2 k (Ne.symm (hk a List.mem_cons_self)))⟩
theorem keepL_fileS (keep : List Bool) : ∀ {l : List Stp} {i : Nat} {s : FS}, (∀ x ∈ l, fileStp x) → (keepL keep i l s).names = s.names ∧ ∀ k, (∀ x ∈ l, x.file ≠ k) → (keepL keep i l s).files k = s.files k
  | [], i, s, _ => ⟨rfl, fun _ _ => rfl⟩
  | a :: l, i, s, h => by
    obtain ⟨h1, h2⟩ := does_fileS (s := s) (h a List.mem_cons_self)
    obtain ⟨h3, h4⟩ := keepL_fileS keep (l := l) (i := i + 1) (s := if keep.getD i false then s.does a else s) fun x hx => h x (List.mem_cons_of_mem _ hx)
    simp only [keepL]
    refine ⟨h3.trans ?_, fun k hk => (h4 k fun x hx => hk x (List.mem_cons_of_mem _ hx)).trans ?_⟩
    · split
      · exact h1
      · rfl
    · split
      · exact h2 k (Ne.symm (hk a List.mem_cons_self))
      · rfl
/-- Whatever a crash keeps. -/
theorem crash_any {d : Dsk} (h : RI d) (hf : ∀ x ∈ d.steps, fileStp x) (hn : ∀ s f, nget d.now.names s = some f → ∀ x ∈ d.steps, x.file ≠ f) (keep : List Bool) : nget (d.crash keep).now.names = nget d.now.names ∧ keysN (d.crash keep).now.names ∧ ∀ s, (d.crash keep).read s = d.read s := by
  obtain ⟨a1, a2⟩ := foldl_fileS (s := d.safe) hf
  obtain ⟨b1, b2⟩ := keepL_fileS keep (i := 0) (s := d.safe) hf
  obtain ⟨h1, _⟩ := ff_foldl (l := d.steps) h.ks
  rw [h.re] at h1
  have hN : nget d.safe.names = nget d.now.names := by
    have := congrArg FF.N h1
    have e : (d.steps.foldl FS.does d.safe).ff.N = nget d.safe.names := by show nget (d.steps.foldl FS.does d.safe).names = _; rw [a1]
    exact e.symm.trans this
  have hF : ∀ s f, nget d.now.names s = some f → d.safe.files f = d.now.files f := fun s f hg => by
    have := congrFun (congrArg FF.F h1) f
    have e : (d.steps.foldl FS.does d.safe).ff.F f = d.safe.files f := a2 f (hn s f hg)
    exact e.symm.trans this
  have hnn : nget (d.crash keep).now.names = nget d.now.names := by
    show nget (keepL keep 0 d.steps d.safe).names = _
    rw [b1]; exact hN
  refine ⟨hnn, by show keysN (keepL keep 0 d.steps d.safe).names; rw [b1]; exact h.ks, fun s => read_of rfl h.q.1 hnn s fun f hg => ?_⟩
  show heldF (keepL keep 0 d.steps d.safe) f = _
  unfold heldF
  rw [if_pos (List.mem_map.2 ⟨_, nget_mem (by rw [b1]; exact (congrFun hN s).trans hg), rfl⟩), b2 f (hn s f hg)]
  exact hF s f hg
/-- Sync by sync. -/
structure SA (d0 d : Dsk) (dn : List Byts) : Prop where
  ri : RI d
  now : d.now = d0.now
  st : ∀ s ∈ dn, ∀ f, nget d0.now.names s = some f → ∀ x ∈ d.steps, fileStp x → x.file ≠ f
theorem SA.sync {d0 d : Dsk} {dn : List Byts} (h : SA d0 d dn) {a : Byts} (ha : a ∈ d0.now.names.map (·.1)) : (d.sync a).2 = 0 ∧ SA d0 (d.sync a).1 (dn ++ [a]) := by
  have hs := (mem_keys a).1 ha
  cases hg : nget d0.now.names a with
  | none => rw [hg] at hs; cases hs
  | some f =>
    have hg' : nget d.now.names a = some f := by rw [h.now]; exact hg
    obtain ⟨a1, a2⟩ := sync_left h.ri hg'
    obtain ⟨b1, b2⟩ := h.ri.sync a
    refine ⟨a1, b1, b2.trans h.now, fun s hs g hg2 x hx hfx => ?_⟩
    rcases List.mem_append.1 hs with hs | hs
    · exact h.st s hs g hg2 x (a2 x hx).1 hfx
    · simp at hs; subst hs
      rw [hg] at hg2; cases hg2
      exact (a2 x hx).2 hfx
theorem SA.done {d0 d : Dsk} {dn : List Byts} (h : SA d0 d dn) (hd : ∀ s ∈ d0.now.names.map (·.1), s ∈ dn) (keep : List Bool) :
    d.syncNames.2 = 0 ∧ nget (d.syncNames.1.crash keep).now.names = nget d0.now.names ∧ keysN (d.syncNames.1.crash keep).now.names ∧ ∀ s, (d.syncNames.1.crash keep).read s = d.syncNames.1.read s := by
  obtain ⟨a1, a2, a3⟩ := h.ri.syncNames
  have hl := syncNames_left h.ri
  have hnow : d.syncNames.1.now = d0.now := a3.trans h.now
  obtain ⟨c1, c2, c3⟩ := crash_any a1 (fun x hx => (hl x hx).2) (fun s f hg x hx => by
    rw [hnow] at hg
    exact h.st s (hd s ((mem_keys s).2 (by rw [hg]; rfl))) f hg x (hl x hx).1 (hl x hx).2) keep
  exact ⟨a2, by rw [c1, hnow], c2, c3⟩
end Go.Sx
