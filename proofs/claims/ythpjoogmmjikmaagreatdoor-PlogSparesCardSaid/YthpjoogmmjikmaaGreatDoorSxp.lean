/-
  Reading the abstract memory, new memory, rows that grow or are written: what a formula needs.
  No condition beyond those that each theorem names.
-/
import Derived.Test.YthpjoogmmjikmaaGreatDoorSxu
set_option linter.unusedVariables false
set_option linter.unusedSimpArgs false
/-! Reading memory, new memory: what a function's formula needs. -/
namespace Go.Sx
structure Mem (w : AW) : Prop where
  lt : ∀ b o, w.get b = some o → b < w.size
  fam : ∀ b cs f own d, w.get b = some (.cells cs f own d) → f ≤ b
structure Fr (n : Nat) (w w' : AW) : Prop where
  size : w.size ≤ w'.size
  old : ∀ b, b < n → w'.get b = w.get b
  mem : Mem w'
theorem Fr.refl {n : Nat} {w : AW} (h : Mem w) : Fr n w w := ⟨Nat.le_refl _, fun _ _ => rfl, h⟩
theorem Fr.trans {n m : Nat} {w w1 w2 : AW} (h : Fr n w w1) (h' : Fr m w1 w2) (hm : n ≤ m) : Fr n w w2 :=
  ⟨Nat.le_trans h.size h'.size, fun b hb => (h'.old b (Nat.lt_of_lt_of_le hb hm)).trans (h.old b hb), h'.mem⟩
theorem Fr.le {n m : Nat} {w w' : AW} (h : Fr n w w') (hm : m ≤ n) : Fr m w w' := ⟨h.size, fun b hb => h.old b (Nat.lt_of_lt_of_le hb hm), h.mem⟩
theorem Mem.cells_fam {w : AW} (h : Mem w) {b : Nat} {cs : List AV} (hc : w.cells? b = some cs) : ∃ x, w.fam? b = some x ∧ b < w.size ∧ x.1 ≤ b := by
  obtain ⟨x, o, d, h1, h2, h3⟩ := AW.cells?_iff.1 hc
  exact ⟨x, h1, h.lt _ _ h3, h.fam _ _ _ _ _ h3⟩
theorem Fr.cells {n : Nat} {w w' : AW} (h : Fr n w w') (hm : Mem w) {b : Nat} {cs : List AV} (hc : w.cells? b = some cs) (hn : w.size ≤ n) : w'.cells? b = some cs := by
  obtain ⟨x, h1, h2, h3⟩ := hm.cells_fam hc
  rw [AW.cells?_congr h1 (h.old b (by omega)) (h.old x.1 (by omega))]; exact hc
theorem Fr.map {n : Nat} {w w' : AW} (h : Fr n w w') (hm : Mem w) {r : Nat} {m : List (AV × AV) × Nat} (hc : mapAt w r = some m) (hn : w.size ≤ n) : mapAt w' r = some m := by
  unfold mapAt at *
  cases hg : w.get r with
  | none => rw [hg] at hc; cases hc
  | some o => rw [h.old r (by have := hm.lt _ _ hg; omega)]; exact hc
def Rs (w : AW) (sz n : Nat) (v : AV) (cs : List AV) : Prop :=
  (v = .nilslice ∧ n = 0 ∧ cs = []) ∨ ∃ b o cap ex all, v = .slice b o n cap ex ∧ w.cells? b = some all ∧ o + n * sz ≤ all.length ∧ cs = (all.drop o).take (n * sz)
theorem Rs.fr {w w' : AW} {sz n k : Nat} {v : AV} {cs : List AV} (h : Rs w sz n v cs) (hm : Mem w) (hf : Fr k w w') (hk : w.size ≤ k) : Rs w' sz n v cs := by
  rcases h with h | ⟨b, o, cap, ex, all, h1, h2, h3, h4⟩
  · exact .inl h
  · exact .inr ⟨b, o, cap, ex, all, h1, hf.cells hm h2 hk, h3, h4⟩
theorem Rs.length {w : AW} {sz n : Nat} {v : AV} {cs : List AV} (h : Rs w sz n v cs) : cs.length = n * sz := by
  rcases h with ⟨_, rfl, rfl⟩ | ⟨b, o, cap, ex, all, h1, h2, h3, rfl⟩
  · simp
  · simp; omega
theorem Rs.nil {w : AW} {sz : Nat} : Rs w sz 0 .nilslice [] := .inl ⟨rfl, rfl, rfl⟩
theorem Rs.len {w : AW} {sz n : Nat} {v : AV} {cs : List AV} (h : Rs w sz n v cs) : lenS v = some (.int .i64 n) := by
  rcases h with ⟨rfl, rfl, rfl⟩ | ⟨b, o, cap, ex, all, rfl, _⟩ <;> rfl
theorem Rs.ok {w : AW} {sz n : Nat} {v : AV} {cs : List AV} (h : Rs w sz n v cs) : okCell v = true := by
  rcases h with ⟨rfl, rfl, rfl⟩ | ⟨b, o, cap, ex, all, rfl, _⟩ <;> rfl
theorem takeCells_some {cs : List AV} {o n : Nat} (h : o + n ≤ cs.length) : takeCells cs o n = some ((cs.drop o).take n) := by
  unfold takeCells; rw [if_pos h]
theorem Rs.read {w : AW} {sz n : Nat} {v : AV} {cs : List AV} (h : Rs w sz n v cs) : srcCells w sz v = some (n, cs) := by
  rcases h with ⟨rfl, rfl, rfl⟩ | ⟨b, o, cap, ex, all, rfl, h2, h3, rfl⟩
  · rfl
  · simp only [srcCells, AW.read, h2, takeCells_some h3, Option.map_some]
theorem Rs.at {w : AW} {sz n : Nat} {v : AV} {cs : List AV} (h : Rs w sz n v cs) {i : Int} (h0 : 0 ≤ i) (h1 : i < n) {K : Nat → Nat → Prop}
    (hK : ∀ b o, (∀ f, f < sz → ld w b (o + f) = cs[i.toNat * sz + f]?) → (ldN sz w b o = some (.agg ((cs.drop (i.toNat * sz)).take sz))) → K b o) : atP (idxS sz v (.int .i64 i)) K := by
  rw [atP_iff]
  rcases h with ⟨rfl, rfl, rfl⟩ | ⟨b, o, cap, ex, all, rfl, h2, h3, rfl⟩
  · exact absurd h1 (by simp; omega)
  · obtain ⟨k, rfl⟩ := Int.eq_ofNat_of_zero_le h0
    have hk : k < n := by omega
    have hmul : (k + 1) * sz ≤ n * sz := Nat.mul_le_mul_right _ hk
    rw [Nat.add_mul, Nat.one_mul] at hmul
    have hb : Nat.blt k n = true := by simp [Nat.blt_eq, hk]
    have hk' : Int.toNat (k : Int) = k := rfl
    refine ⟨b, o + k * sz, ?_, hK _ _ (fun f hf => ?_) ?_⟩
    · show (asN (.int .i64 (Int.ofNat k))).bind _ = _
      simp only [asN, Option.bind_some, hb, guardO, cond_true]
    · simp only [ld, h2, Option.bind_some, hk']
      rw [List.getElem?_take_of_lt (by omega), List.getElem?_drop]
      congr 1; omega
    · simp only [ldN, h2, Option.bind_some, hk']
      rw [takeCells_some (by omega)]
      simp only [Option.map_some, Option.some.injEq, AV.agg.injEq]
      rw [← List.drop_drop, List.drop_take, List.take_take, Nat.min_eq_left (by omega)]
/-! ### New memory -/
theorem Mem.push {w : AW} (h : Mem w) {o : AO} (ho : ∀ cs f own d, o = .cells cs f own d → f ≤ w.size) : Mem (w.push o) := by
  constructor
  · intro b x hx
    rw [AW.push_get] at hx
    split at hx
    · rename_i e; subst e; simp
    · have := h.lt _ _ hx; simp; omega
  · intro b cs f own d hx
    rw [AW.push_get] at hx
    split at hx
    · rename_i e; subst e; exact ho _ _ _ _ (Option.some.inj hx)
    · exact h.fam _ _ _ _ _ hx
theorem Fr.push {w : AW} (h : Mem w) {o : AO} (ho : ∀ cs f own d, o = .cells cs f own d → f ≤ w.size) : Fr w.size w (w.push o) :=
  ⟨by simp, fun b hb => by simp [Nat.ne_of_lt hb], h.push ho⟩
def Box (w : AW) (b : Nat) (cs : List AV) : Prop := w.get b = some (.cells cs b b false)
theorem Box.cells {w : AW} {b : Nat} {cs : List AV} (h : Box w b cs) : w.cells? b = some cs := by
  have hr : w.root? b = some (b, b, false) := AW.root?_iff.2 ⟨cs, h, rfl⟩
  exact AW.cells?_iff.2 ⟨(b, b, false), b, false, AW.fam?_iff.2 ⟨cs, b, false, h, hr⟩, .inl rfl, h⟩
theorem Box.fam {w : AW} {b : Nat} {cs : List AV} (h : Box w b cs) : w.fam? b = some (b, b, false) :=
  AW.fam?_iff.2 ⟨cs, b, false, h, AW.root?_iff.2 ⟨cs, h, rfl⟩⟩
theorem Box.ld {w : AW} {b o : Nat} {cs : List AV} (h : Box w b cs) : Sx.ld w b o = cs[o]? := by simp [Sx.ld, h.cells]
theorem Box.lt {w : AW} {b : Nat} {cs : List AV} (h : Box w b cs) (hm : Mem w) : b < w.size := hm.lt _ _ h
theorem Box.fr {w w' : AW} {b n : Nat} {cs : List AV} (h : Box w b cs) (hf : Fr n w w') (hb : b < n) : Box w' b cs := (hf.old b hb).trans h
theorem Box.ldN {w : AW} {b o n : Nat} {cs : List AV} (h : Box w b cs) (hn : o + n ≤ cs.length) : Sx.ldN n w b o = some (.agg ((cs.drop o).take n)) := by
  simp [Sx.ldN, h.cells, takeCells_some hn]
theorem new_of {w : AW} {cs : List AV} {K : Nat → AW → Prop} (hm : Mem w) (h : ∀ w', Fr w.size w w' → Box w' w.size cs → w'.size = w.size + 1 → K w.size w') : new w cs K :=
  h _ (Fr.push hm fun cs' f own d e => by cases e; exact Nat.le_refl _) (by simp [Box, newCells, cellsAO]) (by simp [newCells])
theorem Box.put {w : AW} {b o : Nat} {cs vs : List AV} (h : Box w b cs) (hb : b ≠ 0) (hl : o + vs.length ≤ cs.length) : w.putCells b o vs = some (w.set b (.cells (listPut cs o vs) b b false)) := by
  unfold AW.putCells
  rw [h.fam, h.cells]
  simp only []
  rw [if_neg (by omega), if_pos (by simp)]
  unfold AW.setCs
  have h : w.get b = some (.cells cs b b false) := h
  rw [h]
theorem Mem.set {w : AW} (h : Mem w) {b : Nat} {o : AO} (hb : b < w.size) (ho : ∀ cs f own d, o = .cells cs f own d → f ≤ b) : Mem (w.set b o) := by
  constructor
  · intro c x hx
    rw [AW.set_get] at hx
    split at hx
    · rename_i e; subst e; exact hb
    · exact h.lt _ _ hx
  · intro c cs f own d hx
    rw [AW.set_get] at hx
    split at hx
    · rename_i e; subst e; exact ho _ _ _ _ (Option.some.inj hx)
    · exact h.fam _ _ _ _ _ hx
structure Ch (X : List Nat) (w w' : AW) : Prop where
  size : w.size ≤ w'.size
  old : ∀ b, b < w.size → b ∉ X → w'.get b = w.get b
  mem : Mem w'
theorem Ch.fr {X : List Nat} {w w' : AW} (h : Ch X w w') {n : Nat} (hn : n ≤ w.size) (hX : ∀ x ∈ X, n ≤ x) : Fr n w w' :=
  ⟨h.size, fun b hb => h.old b (Nat.lt_of_lt_of_le hb hn) fun hx => absurd (hX b hx) (Nat.not_le.2 hb), h.mem⟩
theorem Ch.set {w : AW} (h : Mem w) {b : Nat} {o : AO} (hb : b < w.size) (ho : ∀ cs f own d, o = .cells cs f own d → f ≤ b) : Ch [b] w (w.set b o) :=
  ⟨Nat.le_refl _, fun c _ hx => by simp at hx; simp [hx], h.set hb ho⟩
theorem Ch.box {X : List Nat} {w w' : AW} (h : Ch X w w') (hm : Mem w) {b : Nat} {cs : List AV} (hb : Box w b cs) (hx : b ∉ X) : Box w' b cs := (h.old b (hb.lt hm) hx).trans hb
def Acc (n0 : Nat) (w : AW) (sz : Nat) (v : AV) (cs : List AV) : Prop :=
  (v = .nilslice ∧ cs = []) ∨ ∃ b f n o d, v = .slice b 0 n n (some sz) ∧ n * sz = cs.length ∧ 0 < n ∧ n0 ≤ f ∧ f ≠ 0 ∧ w.get b = some (.cells cs f o d) ∧ w.root? f = some (f, b, false)
theorem Acc.le {n0 n1 : Nat} {w : AW} {sz : Nat} {v : AV} {cs : List AV} (h : Acc n0 w sz v cs) (hn : n1 ≤ n0) : Acc n1 w sz v cs := by
  rcases h with h | ⟨b, f, n, o, d, h0, h1, h2, h3, h4⟩
  · exact .inl h
  · exact .inr ⟨b, f, n, o, d, h0, h1, h2, by omega, h4⟩
theorem Acc.nil {n0 : Nat} {w : AW} {sz : Nat} : Acc n0 w sz .nilslice [] := .inl ⟨rfl, rfl⟩
theorem Acc.rs {n0 : Nat} {w : AW} {sz : Nat} {v : AV} {cs : List AV} (h : Acc n0 w sz v cs) (hs : 0 < sz) : Rs w sz (cs.length / sz) v cs := by
  rcases h with ⟨rfl, rfl⟩ | ⟨b, f, n, o, d, rfl, h1, hn, _, h2, h3, h4⟩
  · exact .inl ⟨rfl, by simp, rfl⟩
  · have : cs.length / sz = n := by rw [← h1]; exact Nat.mul_div_cancel _ hs
    rw [this]
    refine .inr ⟨b, 0, n, some sz, cs, rfl, AW.cells?_iff.2 ⟨(f, b, false), o, d, AW.fam?_iff.2 ⟨cs, o, d, h3, h4⟩, .inl rfl, h3⟩, by omega, ?_⟩
    simp [h1]
theorem Acc.fr {n0 : Nat} {w w' : AW} {sz : Nat} {v : AV} {cs : List AV} (h : Acc n0 w sz v cs) (hm : Mem w) {k : Nat} (hf : Fr k w w') (hk : w.size ≤ k) : Acc n0 w' sz v cs := by
  rcases h with h | ⟨b, f, n, o, d, h0, h1, hn, h2, h3, h4, h5⟩
  · exact .inl h
  · obtain ⟨c, hc, _⟩ := AW.root?_iff.1 h5
    have hb := hm.lt _ _ h4
    have hf' := hm.lt _ _ hc
    exact .inr ⟨b, f, n, o, d, h0, h1, hn, h2, h3, (hf.old b (by omega)).trans h4, by rw [AW.root?_congr (hf.old f (by omega))]; exact h5⟩
def blk : AV → Option Nat
  | .slice b _ _ _ _ => some b
  | _ => none
structure Grow (n0 : Nat) (v v' : AV) (w w' : AW) : Prop where
  fr : Fr n0 w w'
  cells : ∀ c all, w.cells? c = some all → w'.cells? c = some all
  maps : ∀ r m, mapAt w r = some m → mapAt w' r = some m
  box : ∀ c cs, Box w c cs → blk v ≠ some c → Box w' c cs
  acc : ∀ s2 v2 c2, Acc n0 w s2 v2 c2 → blk v2 ≠ blk v → Acc n0 w' s2 v2 c2
  obj : ∀ c o, w.get c = some o → (∀ cs f own d, o ≠ .cells cs f own d) → w'.get c = some o
  blk : ∀ c, blk v' = some c → c < w.size → v' = v
theorem Grow.rs {n0 : Nat} {v v' : AV} {w w' : AW} (h : Grow n0 v v' w w') {sz n : Nat} {x : AV} {cs : List AV} (hx : Rs w sz n x cs) : Rs w' sz n x cs := by
  rcases hx with hx | ⟨b, o, cap, ex, all, h1, h2, h3, h4⟩
  · exact .inl hx
  · exact .inr ⟨b, o, cap, ex, all, h1, h.cells _ _ h2, h3, h4⟩
theorem Acc.app {n0 : Nat} {w : AW} {sz bytes : Nat} {v x : AV} {cs new : List AV} {k : Nat} (h : Acc n0 w sz v cs) (hm : Mem w) (hn0 : n0 ≤ w.size) (hw : 0 < w.size) (hs : 0 < sz) (hx : Rs w sz k x new)
    (hb : (2 * (cs.length / sz + k) + 1000) * bytes < 2 ^ 48) (hb2 : cs.length / sz + k < 2 ^ 62) {K : AV → AW → Prop}
    (hK : ∀ v' w', Acc n0 w' sz v' (cs ++ new) → Grow n0 v v' w w' → K v' w') : onE (appS sz bytes w v x) K := by
  rw [onE_iff]
  have hl := hx.length
  by_cases hk : k = 0
  · subst hk
    have hnil : new = [] := by simpa using hl
    subst hnil
    refine ⟨v, w, ?_, hK v w (by simpa using h) ⟨Fr.refl hm, fun _ _ h => h, fun _ _ h => h, fun _ _ h _ => h, fun _ _ _ h _ => h, fun _ _ h _ => h, fun _ _ _ => rfl⟩⟩
    simp only [appS, hx.read, Option.bind_some]
    rcases h with ⟨rfl, _⟩ | ⟨b, f, n, o, d, rfl, _⟩ <;> rfl
  have hk0 : Nat.beq k 0 = false := beq_ff hk
  have hsz : (!Nat.beq sz 0) = true := by rw [beq_ff (by omega)]; rfl
  have hsrc : okSrc x new = true := by
    rcases hx with ⟨rfl, rfl, _⟩ | ⟨b, o, cap, ex, all, rfl, _⟩
    · exact absurd rfl hk
    · rfl
  have hnb : k * bytes ≤ (2 * (cs.length / sz + k) + 1000) * bytes := Nat.mul_le_mul_right _ (by generalize cs.length / sz = q; omega)
  rcases h with ⟨rfl, rfl⟩ | ⟨b, f, n, o, d, rfl, h1, hn, h2, h3, h4, h5⟩
  · refine ⟨.slice w.size 0 k k (some sz), newCells w new, ?_, hK _ _ ?_ ?_⟩
    · simp only [appS, hx.read, Option.bind_some, hk0, cond_false, hsz, hsrc, Bool.true_and, guardO, cond_true]
      have e1 : Nat.ble (k * bytes) room = true := by rw [Nat.ble_eq]; unfold room; omega
      have e2 : Nat.blt k (2 ^ 62) = true := by rw [Nat.blt_eq]; simp at hb2; omega
      rw [e1, e2]; rfl
    · have hb : Box (newCells w new) w.size new := by simp [Box, newCells, cellsAO]
      exact .inr ⟨w.size, w.size, k, w.size, false, rfl, by simp [hl], by omega, hn0, by omega, hb, AW.root?_iff.2 ⟨_, hb, rfl⟩⟩
    · have hfr : Fr w.size w (newCells w new) := Fr.push hm fun cs' f own d e => by cases e; exact Nat.le_refl _
      exact ⟨hfr.le hn0, fun c all h => hfr.cells hm h (Nat.le_refl _), fun r m h => hfr.map hm h (Nat.le_refl _), fun c cs h _ => h.fr hfr (h.lt hm), fun s2 v2 c2 h _ => h.fr hm hfr (Nat.le_refl _), fun c o h _ => (hfr.old c (hm.lt _ _ h)).trans h, fun c hc hlt => by
        simp only [Sx.blk, Option.some.injEq] at hc; omega⟩
  · have hdiv : cs.length / sz = n := by rw [← h1]; exact Nat.mul_div_cancel _ hs
    rw [hdiv] at hb hb2
    obtain ⟨c0, hc0, _⟩ := AW.root?_iff.1 h5
    simp only [] at hc0
    have hblt := hm.lt _ _ h4
    have hflt := hm.lt _ _ hc0
    have hfam : w.fam? b = some (f, b, false) := AW.fam?_iff.2 ⟨cs, o, d, h4, h5⟩
    have hcells : w.cells? b = some cs := AW.cells?_iff.2 ⟨(f, b, false), o, d, hfam, .inl rfl, h4⟩
    -- the memory behind
    let w1 := w.set f (.cells c0 f w.size false)
    let w' := w1.push (.cells (cs ++ new) f 0 false)
    have hset : w.setFam f w.size false = w1 := by unfold AW.setFam; rw [hc0]
    have happ : appS sz bytes w (.slice b 0 n n (some sz)) x = some (.slice w.size 0 (n + k) (n + k) (some sz), w') := by
      simp only [appS, hx.read, Option.bind_some, hk0, cond_false, hsz, hsrc, Bool.true_and, guardO, cond_true]
      have e0 : Nat.ble (n + k) n = false := by
        cases he : Nat.ble (n + k) n with
        | false => rfl
        | true => rw [Nat.ble_eq] at he; omega
      have e1 : Nat.blt ((2 * (n + k) + 1000) * bytes) room = true := by rw [Nat.blt_eq]; unfold room; exact hb
      have e2 : Nat.blt (n + k) (2 ^ 62) = true := by rw [Nat.blt_eq]; exact hb2
      rw [e0, e1, e2]
      simp only [cond_false, Bool.and_self, cond_true, growA, hcells, Option.bind_some]
      rw [takeCells_some (by omega)]
      simp only [Option.bind_some, Nat.beq_refl, guardO, Bool.true_and]
      have e3 : Nat.beq (0 + n * sz) cs.length = true := by rw [Nat.zero_add, h1]; simp
      rw [e3]
      have e4 : (cs.drop 0).take (n * sz) = cs := by rw [h1]; simp
      simp only [cond_true, e4, AW.heir, hfam]
      rw [if_pos ⟨h3, trivial⟩]
      rw [hset]
      rfl
    have hm1 : Mem w1 := hm.set hflt fun cs f own d e => by cases e; exact Nat.le_refl _
    have hm' : Mem w' := hm1.push fun cs f own d e => by cases e; simpa [w1] using Nat.le_of_lt hflt
    have hget : ∀ c, w'.get c = if c = w.size then some (.cells (cs ++ new) f 0 false) else if c = f then some (.cells c0 f w.size false) else w.get c := fun c => by
      simp only [w', w1, AW.push_get, AW.set_get, AW.set_size]
    have hroot : w'.root? f = some (f, w.size, false) := AW.root?_iff.2 ⟨c0, by rw [hget, if_neg (by omega), if_pos rfl], rfl⟩
    have hcellsK : ∀ c all, w.cells? c = some all → w'.cells? c = some all := fun c all h => by
      obtain ⟨y, o', d', g1, g2, g3⟩ := AW.cells?_iff.1 h
      have hclt := hm.lt _ _ g3
      by_cases hyf : y.1 = f
      · refine AW.cells?_iff.2 ⟨(f, w.size, false), if c = f then w.size else o', if c = f then false else d', AW.fam?_iff.2 ⟨all, if c = f then w.size else o', if c = f then false else d', ?_, hroot⟩, .inl rfl, ?_⟩
        all_goals
          rw [hget, if_neg (by omega)]
          by_cases hcf : c = f
          · subst hcf
            rw [if_pos rfl, if_pos rfl, if_pos rfl]
            rw [hc0] at g3
            cases g3
            rfl
          · rw [if_neg hcf, if_neg hcf, if_neg hcf]
            rw [g3, hyf]
      · have hylt : y.1 < w.size := Nat.lt_of_le_of_lt (hm.fam _ _ _ _ _ g3) hclt
        have hcf : c ≠ f := fun e => by
          subst e
          rw [hc0] at g3
          cases g3
          exact hyf rfl
        rw [AW.cells?_congr g1 (by rw [hget, if_neg (by omega), if_neg hcf]) (by rw [hget, if_neg (by omega), if_neg hyf])]
        exact h
    refine ⟨_, w', happ, hK _ _ ?_ ⟨⟨by simp [w', w1], fun c hc => ?_, hm'⟩, hcellsK, fun r m hr => ?_, fun c cs' hc hne => ?_, fun s2 v2 c2 ha hne => ?_, fun c ob hg hno => ?_, fun c hc hlt => ?_⟩⟩
    · refine .inr ⟨w.size, f, n + k, 0, false, rfl, ?_, by omega, h2, h3, ?_, hroot⟩
      · rw [Nat.add_mul, List.length_append, h1, hl]
      · rw [hget, if_pos rfl]
    · rw [hget, if_neg (by omega), if_neg (by omega)]
    · unfold mapAt at *
      cases hg : w.get r with
      | none => rw [hg] at hr; cases hr
      | some ob =>
        have hrl := hm.lt _ _ hg
        have hrf : r ≠ f := fun e => by subst e; rw [hc0] at hr; cases hr
        rw [hget, if_neg (by omega), if_neg hrf]; exact hr
    · have hcl := hc.lt hm
      have hcf : c ≠ f := fun e => by
        subst e
        have hc' : w.get c = some (.cells cs' c c false) := hc
        rw [hc0] at hc'
        cases hc'
        exact hne rfl
      unfold Box
      rw [hget, if_neg (by omega), if_neg hcf]; exact hc
    · rcases ha with ha | ⟨b2, f2, n2, o2, d2, rfl, g1, g2, g3, g4, g5, g6⟩
      · exact .inl ha
      · obtain ⟨c2', hc2, _⟩ := AW.root?_iff.1 g6
        simp only [] at hc2
        have hb2l := hm.lt _ _ g5
        have hf2l := hm.lt _ _ hc2
        have hff : f2 ≠ f := fun e => by
          subst e
          rw [hc0] at hc2
          cases hc2
          exact hne rfl
        have hbf : b2 ≠ f := fun e => by
          subst e
          rw [hc0] at g5
          cases g5
          exact hff rfl
        refine .inr ⟨b2, f2, n2, o2, d2, rfl, g1, g2, g3, g4, by rw [hget, if_neg (by omega), if_neg hbf]; exact g5, AW.root?_iff.2 ⟨c2', by rw [hget, if_neg (by omega), if_neg hff]; exact hc2, rfl⟩⟩
    · have hcl := hm.lt _ _ hg
      have hcf : c ≠ f := fun e => by
        subst e
        rw [hc0] at hg
        cases hg
        exact hno _ _ _ _ rfl
      rw [hget, if_neg (by omega), if_neg hcf]; exact hg
    · simp only [Sx.blk, Option.some.injEq] at hc; omega
end Go.Sx
namespace Go.Sx
/-! ### Numbers -/
theorem wi_eq {x : Int} (h1 : -9223372036854775808 ≤ x) (h2 : x < 9223372036854775808) : wi x = x := by
  have : wi x = (x + 9223372036854775808) % 18446744073709551616 - 9223372036854775808 := by
    simp only [wi, IntKind.wrap, IntKind.bits, IntKind.signed, Bool.true_and, decide_eq_true_eq]
    simp only [show (2 ^ 64 : Int) = 18446744073709551616 from rfl, show ((2 : Int) ^ (64 - 1)) = 9223372036854775808 from rfl]
    by_cases h : x % 18446744073709551616 ≥ 9223372036854775808
    · rw [if_pos (decide_eq_true h)]; omega
    · rw [if_neg (by simpa using h)]; omega
  rw [this]; omega
theorem ifT_t {A B : Prop} (h : A) : ifT true A B := h
theorem ifT_f {A B : Prop} (h : B) : ifT false A B := h
theorem ifT_d {p : Prop} [Decidable p] {A B : Prop} (h1 : p → A) (h2 : ¬ p → B) : ifT (decide p) A B := by
  by_cases h : p
  · rw [decide_eq_true h]; exact h1 h
  · rw [decide_eq_false h]; exact h2 h
theorem ifT_nd {p : Prop} [Decidable p] {A B : Prop} (h1 : ¬ p → A) (h2 : p → B) : ifT (!decide p) A B := by
  by_cases h : p
  · rw [decide_eq_true h]; exact h2 h
  · rw [decide_eq_false h]; exact h1 h
theorem gd_t {A : Prop} {b : Bool} (hb : b = true) (h : A) : gd b A := by rw [hb]; exact h
theorem onM_s {α : Type} {x : Option α} {K : α → Prop} {v : α} (h : x = some v) (hK : K v) : onM x K := by rw [h]; exact hK
theorem onE_s {x : Option (AV × AW)} {K : AV → AW → Prop} {v : AV} {w : AW} (h : x = some (v, w)) (hK : K v w) : onE x K := by rw [h]; exact hK
def RsI (w : AW) (v : AV) (l : List Int) : Prop := Rs w 1 l.length v (l.map (AV.int .i64))
theorem RsI.len {w : AW} {v : AV} {l : List Int} (h : RsI w v l) : lenS v = some (.int .i64 l.length) := Rs.len h
theorem RsI.fr {w w' : AW} {v : AV} {l : List Int} (h : RsI w v l) (hm : Mem w) {k : Nat} (hf : Fr k w w') (hk : w.size ≤ k) : RsI w' v l := Rs.fr h hm hf hk
theorem RsI.at {w : AW} {v : AV} {l : List Int} (h : RsI w v l) {i : Int} (h0 : 0 ≤ i) (h1 : i < l.length) {K : Nat → Nat → Prop}
    (hK : ∀ b o, ld w b o = some (.int .i64 (l.getD i.toNat 0)) → K b o) : atP (idxS 1 v (.int .i64 i)) K :=
  Rs.at h h0 h1 fun b o hf _ => hK b o (by
    have h2 := hf 0 (by omega)
    rw [Nat.add_zero] at h2
    rw [h2, Nat.mul_one, Nat.add_zero, List.getElem?_map, List.getD_eq_getElem?_getD, List.getElem?_eq_getElem (by omega)]
    rfl)
theorem RsI.atN {w : AW} {v : AV} {l : List Int} (h : RsI w v l) {i : Nat} (h1 : i < l.length) {K : Nat → Nat → Prop}
    (hK : ∀ b o, ld w b o = some (.int .i64 l[i]) → K b o) : atP (idxS 1 v (.int .i64 (i : Int))) K :=
  h.at (by omega) (by omega) fun b o hl => hK b o (by rw [hl]; simp [List.getD_eq_getElem?_getD, h1])
end Go.Sx
/-! A slice of one's own numbers, written in its place. -/
namespace Go.Sx
def Own (n0 : Nat) (w : AW) (sz : Nat) (v : AV) (cs : List AV) : Prop :=
  (v = .nilslice ∧ cs = []) ∨ ∃ b n cap ex f o d dd, v = .slice b 0 n cap ex ∧ n * sz = cs.length ∧ n0 ≤ f ∧ f ≠ 0 ∧ w.get b = some (.cells cs f o d) ∧ w.root? f = some (f, b, dd)
theorem Acc.own {n0 : Nat} {w : AW} {sz : Nat} {v : AV} {cs : List AV} (h : Acc n0 w sz v cs) : Own n0 w sz v cs := by
  rcases h with h | ⟨b, f, n, o, d, h1, h2, h3, h4, h5, h6, h7⟩
  · exact .inl h
  · exact .inr ⟨b, n, n, some sz, f, o, d, false, h1, h2, h4, h5, h6, h7⟩
theorem Own.rs {n0 : Nat} {w : AW} {sz : Nat} {v : AV} {cs : List AV} (h : Own n0 w sz v cs) (hs : 0 < sz) : Rs w sz (cs.length / sz) v cs := by
  rcases h with ⟨rfl, rfl⟩ | ⟨b, n, cap, ex, f, o, d, dd, rfl, h1, _, h2, h3, h4⟩
  · exact .inl ⟨rfl, by simp, rfl⟩
  · have : cs.length / sz = n := by rw [← h1]; exact Nat.mul_div_cancel _ hs
    rw [this]
    refine .inr ⟨b, 0, cap, ex, cs, rfl, AW.cells?_iff.2 ⟨(f, b, dd), o, d, AW.fam?_iff.2 ⟨cs, o, d, h3, h4⟩, .inr rfl, h3⟩, by omega, ?_⟩
    simp [h1]
theorem Own.fr {n0 : Nat} {w w' : AW} {sz : Nat} {v : AV} {cs : List AV} (h : Own n0 w sz v cs) (hm : Mem w) {k : Nat} (hf : Fr k w w') (hk : w.size ≤ k) : Own n0 w' sz v cs := by
  rcases h with h | ⟨b, n, cap, ex, f, o, d, dd, h0, h1, h2, h3, h4, h5⟩
  · exact .inl h
  · obtain ⟨c, hc, _⟩ := AW.root?_iff.1 h5
    have hb := hm.lt _ _ h4
    have hf' := hm.lt _ _ hc
    exact .inr ⟨b, n, cap, ex, f, o, d, dd, h0, h1, h2, h3, (hf.old b (by omega)).trans h4, by rw [AW.root?_congr (hf.old f (by omega))]; exact h5⟩
theorem Own.put {n0 : Nat} {w : AW} {sz b n cap : Nat} {ex : Option Nat} {cs vs : List AV} {i : Nat} (h : Own n0 w sz (.slice b 0 n cap ex) cs) (hm : Mem w) (hl : i + vs.length ≤ cs.length) :
    ∃ w', w.putCells b i vs = some w' ∧ Fr n0 w w' ∧ Own n0 w' sz (.slice b 0 n cap ex) (listPut cs i vs) ∧ w'.size = w.size := by
  rcases h with ⟨h, _⟩ | ⟨b', n', cap', ex', f, o, d, dd, h0, h1, h2, h3, h4, h5⟩
  · cases h
  cases h0
  have hfam : w.fam? b = some (f, b, dd) := AW.fam?_iff.2 ⟨cs, o, d, h4, h5⟩
  have hcells : w.cells? b = some cs := AW.cells?_iff.2 ⟨(f, b, dd), o, d, hfam, .inr rfl, h4⟩
  have hex : ∃ w', w.putCells b i vs = some w' := by
    unfold AW.putCells
    rw [hfam, hcells]
    simp only []
    rw [if_neg (by omega)]
    split <;> exact ⟨_, rfl⟩
  obtain ⟨w', hw⟩ := hex
  have hlen : (listPut cs i vs).length = cs.length := by simp [listPut]; omega
  obtain ⟨c0, hc0, _⟩ := AW.root?_iff.1 h5
  simp only [] at hc0
  have hfb := hm.fam _ _ _ _ _ h4
  have hbl := hm.lt _ _ h4
  obtain ⟨f', own', dirty', cs', own1, dirty1, cs0, g1, g2, g3, g4, g5, g6, g7, g8⟩ := putCells_get hw
  rw [hfam] at g1
  cases g1
  rw [hcells] at g2
  cases g2
  rw [h4] at g6
  cases g6
  refine ⟨w', hw, ?_, ?_, g5⟩
  · -- the frame
    have hget : ∀ c, c ≠ b → c ≠ f → w'.get c = w.get c := fun c hc hcf => by
      rcases g8 with ⟨_, _, _, g⟩ | ⟨_, _, g⟩ | ⟨_, g⟩ <;> simp [g, hc, hcf]
    refine ⟨by omega, fun c hc => hget c (by omega) (by omega), ?_⟩
    constructor
    · intro c x hx
      by_cases hcb : c = b
      · subst hcb; omega
      · by_cases hcf : c = f
        · subst hcf; omega
        · rw [hget c hcb hcf] at hx
          have := hm.lt _ _ hx; omega
    · intro c cs2 f2 o2 d2 hx
      rcases g8 with ⟨e1, _, _, g⟩ | ⟨_, e1, g⟩ | ⟨_, g⟩ <;> rw [g] at hx
      · split at hx
        · rename_i e; cases hx; omega
        · exact hm.fam _ _ _ _ _ hx
      · split at hx
        · rename_i e; cases hx; omega
        · exact hm.fam _ _ _ _ _ hx
      · split at hx
        · rename_i e; cases hx; omega
        · split at hx
          · rename_i e; cases hx; omega
          · exact hm.fam _ _ _ _ _ hx
  · rcases g8 with ⟨e1, _, _, g⟩ | ⟨_, e1, g⟩ | ⟨e1, g⟩
    · subst e1
      refine .inr ⟨f, n, cap, ex, f, f, false, false, rfl, by rw [hlen, h1], h2, h3, by rw [g]; simp, AW.root?_iff.2 ⟨listPut cs i vs, by rw [g]; simp, rfl⟩⟩
    · subst e1
      refine .inr ⟨f, n, cap, ex, f, f, true, true, rfl, by rw [hlen, h1], h2, h3, by rw [g]; simp, AW.root?_iff.2 ⟨listPut cs i vs, by rw [g]; simp, rfl⟩⟩
    · refine .inr ⟨b, n, cap, ex, f, o, d, true, rfl, by rw [hlen, h1], h2, h3, by rw [g]; simp, AW.root?_iff.2 ⟨cs0, by rw [g, if_neg e1, if_pos rfl], rfl⟩⟩
theorem Own.at {n0 : Nat} {w : AW} {sz b n cap : Nat} {ex : Option Nat} {cs : List AV} (h : Own n0 w sz (.slice b 0 n cap ex) cs) {i : Nat} (hi : i < n) : idxS sz (.slice b 0 n cap ex) (.int .i64 i) = some (.ptr b (0 + i * sz)) := by
  show (asN (.int .i64 (Int.ofNat i))).bind _ = _
  have hb : Nat.blt i n = true := by rw [Nat.blt_eq]; exact hi
  simp only [asN, Option.bind_some, hb, guardO, cond_true]
section
variable {P : Program} {hk : Hook}
theorem Cl_hook {f : FuncId} {args : List AV} {w w' : AW} {v : AV} {K : AV → AW → Prop} (h : hk f args w = some (some (v, w'))) (hK : K v w') : Cl P hk f args w K := by
  refine wpL_in (t := .call f args w) ?_
  show wCall P _ hk f args w _
  unfold wCall
  rw [h]
  exact ⟨v, w', rfl, hK⟩
end
end Go.Sx
/-! Ranges over functions: a step of each kind. -/
namespace Go.Sx
section
variable {P : Program} {hk : Hook}
end
end Go.Sx
/-! Bytes, maps with whole keys. -/
namespace Go.Sx
theorem bytesOfCells_of : ∀ (s : List UInt8), bytesOfCells (cellsOfBytes s) = some s
  | [] => rfl
  | a :: s => by
    show bytesOfCells (.int .u8 (a.toNat : Int) :: cellsOfBytes s) = _
    simp only [bytesOfCells, bytesOfCells_of s, Option.map_some]
    congr 2
    have : ((a.toNat : Int)).toNat = a.toNat := rfl
    rw [this]
    exact UInt8.ofNat_toNat
theorem cellsOfBytes_length (s : List UInt8) : (cellsOfBytes s).length = s.length := by simp [cellsOfBytes]
theorem cellsOfBytes_append (s t : List UInt8) : cellsOfBytes (s ++ t) = cellsOfBytes s ++ cellsOfBytes t := by simp [cellsOfBytes]
def RsB (w : AW) (v : AV) (s : List UInt8) : Prop := Rs w 1 s.length v (cellsOfBytes s)
theorem RsB.len {w : AW} {v : AV} {s : List UInt8} (h : RsB w v s) : lenS v = some (.int .i64 s.length) := Rs.len h
theorem RsB.fr {w w' : AW} {v : AV} {s : List UInt8} (h : RsB w v s) (hm : Mem w) {k : Nat} (hf : Fr k w w') (hk : w.size ≤ k) : RsB w' v s := Rs.fr h hm hf hk
theorem RsB.str {w : AW} {v : AV} {s : List UInt8} (h : RsB w v s) : b2s w v = some (.str s) := by
  have hr := Rs.read h
  rcases h with ⟨rfl, h2, _⟩ | ⟨b, o, cap, ex, all, rfl, h2, h3, h4⟩
  · have : s = [] := List.eq_nil_of_length_eq_zero h2
    subst this; rfl
  · simp only [b2s]
    simp only [srcCells, Nat.mul_one, Option.map_eq_some_iff] at hr
    obtain ⟨cs, h5, h6⟩ := hr
    cases h6
    rw [h5, Option.bind_some, bytesOfCells_of]; rfl
theorem RsB.at {w : AW} {v : AV} {s : List UInt8} (h : RsB w v s) {i : Nat} (hi : i < s.length) {K : Nat → Nat → Prop} (hK : ∀ b o, ld w b o = some (.int .u8 s[i].toNat) → K b o) : atP (idxS 1 v (.int .i64 (i : Int))) K :=
  Rs.at h (by omega) (by omega) fun b o hf _ => hK b o (by
    have h2 := hf 0 (by omega)
    rw [Nat.add_zero] at h2
    rw [h2]
    simp [cellsOfBytes, hi])
def BS (n0 : Nat) (w : AW) (v : AV) (s : List UInt8) : Prop := (v = .nilslice ∧ s = []) ∨ ∃ c ex, v = .slice c 0 s.length s.length ex ∧ (ex = none ∨ ex = some 1) ∧ n0 ≤ c ∧ Box w c (cellsOfBytes s)
theorem BS.rs {n0 : Nat} {w : AW} {v : AV} {s : List UInt8} (h : BS n0 w v s) : RsB w v s := by
  rcases h with ⟨rfl, rfl⟩ | ⟨c, ex, rfl, _, _, h⟩
  · exact Rs.nil
  · refine .inr ⟨c, 0, _, ex, _, rfl, h.cells, by rw [cellsOfBytes_length]; omega, ?_⟩
    rw [List.drop_zero, List.take_of_length_le (by rw [cellsOfBytes_length]; omega)]
theorem BS.ok {n0 : Nat} {w : AW} {v : AV} {s : List UInt8} (h : BS n0 w v s) : okCell v = true := by
  rcases h with ⟨rfl, rfl⟩ | ⟨c, ex, rfl, _⟩ <;> rfl
theorem BS.le {n n0 : Nat} {w : AW} {v : AV} {s : List UInt8} (h : BS n0 w v s) (hn : n ≤ n0) : BS n w v s := by
  rcases h with h | ⟨c, ex, h1, h2, h3, h4⟩
  · exact .inl h
  · exact .inr ⟨c, ex, h1, h2, by omega, h4⟩
theorem BS.fr {n0 n : Nat} {w w' : AW} {v : AV} {s : List UInt8} (h : BS n0 w v s) (hm : Mem w) (hf : Fr n w w') (hn : w.size ≤ n) : BS n0 w' v s := by
  rcases h with h | ⟨c, ex, h1, h2, h3, h4⟩
  · exact .inl h
  · exact .inr ⟨c, ex, h1, h2, h3, h4.fr hf (by have := h4.lt hm; omega)⟩
theorem BS.ch {n0 : Nat} {X : List Nat} {w w' : AW} {v : AV} {s : List UInt8} (h : BS n0 w v s) (hm : Mem w) (hc : Ch X w w') (hX : ∀ x ∈ X, ∀ t, ¬ Box w x (cellsOfBytes t)) : BS n0 w' v s := by
  rcases h with h | ⟨c, ex, h1, h2, h3, h4⟩
  · exact .inl h
  · exact .inr ⟨c, ex, h1, h2, h3, hc.box hm h4 fun hx => hX c hx s h4⟩
theorem Ch.refl {X : List Nat} {w : AW} (h : Mem w) : Ch X w w := ⟨Nat.le_refl _, fun _ _ _ => rfl, h⟩
theorem Ch.trans {X : List Nat} {w w1 w2 : AW} (h : Ch X w w1) (h' : Ch X w1 w2) : Ch X w w2 :=
  ⟨Nat.le_trans h.size h'.size, fun b hb hx => (h'.old b (Nat.lt_of_lt_of_le hb h.size) hx).trans (h.old b hb hx), h'.mem⟩
theorem Fr.ch {X : List Nat} {w w' : AW} (h : Fr w.size w w') : Ch X w w' := ⟨h.size, fun b hb _ => h.old b hb, h.mem⟩
theorem Ch.mono {X Y : List Nat} {w w' : AW} (h : Ch X w w') (hs : ∀ x ∈ X, x ∈ Y) : Ch Y w w' := ⟨h.size, fun b hb hx => h.old b hb fun h => hx (hs b h), h.mem⟩
theorem Ch.new {X : List Nat} {w w1 w2 : AW} (h : Fr w.size w w1) (h' : Ch X w1 w2) (Y : List Nat) (hX : ∀ x ∈ X, x ∈ Y ∨ w.size ≤ x) : Ch Y w w2 :=
  ⟨Nat.le_trans h.size h'.size, fun b hb hy => (h'.old b (Nat.lt_of_lt_of_le hb h.size) fun hx => by
    rcases hX b hx with h | h
    · exact hy h
    · omega).trans (h.old b hb), h'.mem⟩
theorem Box.put' {w : AW} {b o : Nat} {cs vs : List AV} (h : Box w b cs) (hm : Mem w) (hb : b ≠ 0) (hl : o + vs.length ≤ cs.length) {K : AW → Prop} (hK : ∀ w', Ch [b] w w' → Box w' b (listPut cs o vs) → w'.size = w.size → K w') : onM (w.putCells b o vs) K := by
  refine onM_s (h.put hb hl) (hK _ (Ch.set hm (h.lt hm) fun cs f own d e => by cases e; exact Nat.le_refl _) (by simp [Box]) rfl)
/-! ### Maps with whole keys -/
section maps
variable {α : Type} (key : α → Int) (val : AW → α → AV → Prop)
def Ents (w : AW) : List (AV × AV) → List α → Prop
  | [], [] => True
  | e :: es, x :: xs => e.1 = .int .i64 (key x) ∧ val w x e.2 ∧ Ents w es xs
  | _, _ => False
variable {key val}
theorem Ents.length {w : AW} : ∀ {es : List (AV × AV)} {xs : List α}, Ents key val w es xs → es.length = xs.length
  | [], [], _ => rfl
  | _ :: _, _ :: _, h => by simp [Ents.length h.2.2]
  | [], _ :: _, h => h.elim
  | _ :: _, [], h => h.elim
theorem Ents.mono {w w' : AW} (hv : ∀ x v, val w x v → val w' x v) : ∀ {es : List (AV × AV)} {xs : List α}, Ents key val w es xs → Ents key val w' es xs
  | [], [], _ => trivial
  | _ :: _, _ :: _, h => ⟨h.1, hv _ _ h.2.1, Ents.mono hv h.2.2⟩
  | [], _ :: _, h => h.elim
  | _ :: _, [], h => h.elim
theorem Ents.like {w : AW} (n : Int) : ∀ {es : List (AV × AV)} {xs : List α}, Ents key val w es xs → (es.all fun e => likeK (.int .i64 n) e.1) = true
  | [], [], _ => rfl
  | (a, b) :: es, x :: xs, h => by
    have h1 : a = .int .i64 (key x) := h.1
    rw [List.all_cons, Ents.like n h.2.2, h1]; rfl
  | [], _ :: _, h => h.elim
  | _ :: _, [], h => h.elim
theorem Ents.look {w : AW} (n : Int) : ∀ {es : List (AV × AV)} {xs : List α}, Ents key val w es xs →
    match xs.find? (fun x => decide (key x = n)) with
    | some x => ∃ v, lookM (.int .i64 n) es = some v ∧ val w x v
    | none => lookM (.int .i64 n) es = none
  | [], [], _ => rfl
  | (a, b) :: es, x :: xs, h => by
    have h1 : a = .int .i64 (key x) := h.1
    simp only [lookM, List.find?_cons]
    rw [h1, beq_int]
    by_cases hx : key x = n
    · simp only [hx, decide_true, Bool.and_self, cond_true]
      exact ⟨b, rfl, h.2.1⟩
    · simp only [hx, decide_true, decide_false, Bool.and_false, cond_false]
      exact Ents.look n h.2.2
  | [], _ :: _, h => h.elim
  | _ :: _, [], h => h.elim
end maps
end Go.Sx
