/-
  FileWhole, over memory.
  No condition beyond those that each theorem names.
-/
import Derived.Test.YtbjeebgdjlemjaaP07
import Derived.Test.YtbjeebgdjlemjaaSxs
set_option linter.unusedSimpArgs false
open Go.Sx
set_option linter.unusedVariables false
namespace Go.Proofs.Ytbjeebgdjlemjaa

section
variable {hk : Hook} {w0 w : AW} {D : Nat} {d : Dsk} {k : Nat} {X : List Nat} {K : AV → AW → Prop}
/-- What a law asks of a call. -/
def Nx (w0 w : AW) (D : Nat) (X : List Nat) (r : Dsk × Int) (k : Nat) (K : AV → AW → Prop) : Prop := ∀ X' w', Ls w0 w' D r.1 k X' → (∀ x ∈ X', x ∈ X ∨ w.size ≤ x) → Tz X w w' → K (.int .i64 r.2) w'
theorem Nx.out {n1 f1 n2 f2 : Nat} {r : Dsk × Int} {k' : Nat} (h : Ls w0 w D d k X) (hV : r.1.V k') (hK : Nx w0 w D X r k' K) : Out X w D n1 f1 n2 f2 r K := fun X' sv' w' _ h2 h3 h4 => by
  obtain ⟨a, b⟩ := h.next h2 h3 h4 hV
  exact hK _ w' a b h3
theorem lNew (hh : HK hk) (hm : Mem w0) (hw : 0 < w0.size) (hK : ∀ D X w', Ls w0 w' D Dsk.none 0 X → K (.ptr D 0) w') : Cl Try.prog hk 10 [] w0 K :=
  s10 hh hm hw fun D n1 f1 n2 f2 X w' f hX h => hK D X w' ⟨f.mem, f.size, hw, f.old, ⟨_, _, _, _, _, h⟩, Dsk.V.none, hX⟩
theorem Ls.pos' (h : Ls w0 w D d k X) : 0 < w.size := by have := h.pos; have := h.sz; omega
theorem lPut {a data : Byts} {at_ : Int} {dv : AV} (hh : HK hk) (h : Ls w0 w D d k X) (hkk : k < 2 ^ 27) (hd : RsB w dv data) (hK : Nx w0 w D X (d.put a at_ data) (k + 2) K) : Cl Try.prog hk 11 [.ptr D 0, .str a, .int .i64 at_, dv] w K := by
  obtain ⟨n1, f1, n2, f2, sv, hd1⟩ := h.dk
  exact s11 hh h.mem (Ls.pos' h) hd1 h.V hkk hd (hK.out h (h.V.put _ _ _))
theorem lSync {a : Byts} (hh : HK hk) (h : Ls w0 w D d k X) (hkk : k < 2 ^ 27) (hK : Nx w0 w D X (d.sync a) k K) : Cl Try.prog hk 13 [.ptr D 0, .str a] w K := by
  obtain ⟨n1, f1, n2, f2, sv, hd1⟩ := h.dk
  exact s13 hh h.mem (Ls.pos' h) hd1 h.V hkk (hK.out h (h.V.sync _))
theorem lSyncNames (hh : HK hk) (h : Ls w0 w D d k X) (hkk : k < 2 ^ 27) (hK : Nx w0 w D X d.syncNames k K) : Cl Try.prog hk 16 [.ptr D 0] w K := by
  obtain ⟨n1, f1, n2, f2, sv, hd1⟩ := h.dk
  exact s16 hh h.mem (Ls.pos' h) hd1 h.V hkk (hK.out h h.V.syncNames)
theorem lRename {a b : Byts} (hh : HK hk) (h : Ls w0 w D d k X) (hkk : k < 2 ^ 27) (hK : Nx w0 w D X (d.rename a b) (k + 1) K) : Cl Try.prog hk 15 [.ptr D 0, .str a, .str b] w K := by
  obtain ⟨n1, f1, n2, f2, sv, hd1⟩ := h.dk
  exact s15 hh h.mem (Ls.pos' h) hd1 h.V hkk (hK.out h (h.V.rename _ _))
theorem lCrash {keep : List Bool} {kv : AV} (hh : HK hk) (h : Ls w0 w D d k X) (hm0 : Mem w0) (hkk : k < 2 ^ 27) (hkl : keep.length < 2 ^ 64) (hkv : RsT w0 kv keep) (hK : Nx w0 w D X (d.crash keep, 0) k K) : Cl Try.prog hk 17 [.ptr D 0, kv] w K := by
  obtain ⟨n1, f1, n2, f2, sv, hd1⟩ := h.dk
  refine s17 hh h.mem (Ls.pos' h) hd1 h.V hkk hkl (Rs.fr hkv hm0 h.fr0 (Nat.le_refl _)) (fun e => ?_) fun X' n1 f1 n2 f2 w' _ h2 h3 h4 => ?_
  · rcases hkv with ⟨e', _⟩ | ⟨b, o, cap, ex, all, e', g2, _⟩
    · rw [e'] at e; cases e
    · rw [e'] at e; cases e
      obtain ⟨_, _, hl, _⟩ := hm0.cells_fam g2
      have := (Ls.D h).1
      omega
  · obtain ⟨a, b⟩ := h.next h2 h3 h4 (h.V.crash keep)
    exact hK _ w' a b h3
theorem lRead {a : Byts} (hh : HK hk) (h : Ls w0 w D d k X) (hK : ∀ v w', Fr w.size w w' → RB w' v (d.read a).1 → K (.tup [v, .int .i64 (d.read a).2]) w') : Cl Try.prog hk 18 [.ptr D 0, .str a] w K := by
  obtain ⟨n1, f1, n2, f2, sv, hd1⟩ := h.dk
  exact s18 hh h.mem (Ls.pos' h) hd1 h.V fun v w' f g => hK v w' f g.rb

def fills (l : List UInt8) : List Byts := l.map fillB
theorem fills_len (l : List UInt8) : ∀ s ∈ fills l, s.length = 64 := fun s hs => by
  obtain ⟨b, _, rfl⟩ := List.mem_map.1 hs
  simp [fillB]

/-- What the crash leaves of a renamed file. -/
theorem whole {d : Dsk} {l1 l2 : List Byts} (hq : d.Q) (hs : d.safe = ⟨[([102], 1), ([116], 2)], updF (updF (fun _ => []) 1 l1) 2 l2⟩) (hn : d.now = d.safe) (ht : d.steps = []) (keep : List Bool) :
    (d.rename [116] [102]).2 = 0 ∧ ((d.rename [116] [102]).1.syncNames).2 = 0 ∧ (((d.rename [116] [102]).1.crash keep).read [102] = (l2.flatten, 0) ∨ ((d.rename [116] [102]).1.crash keep).read [102] = (l1.flatten, 0)) ∧ (((d.rename [116] [102]).1.syncNames).1.crash keep).read [102] = (l2.flatten, 0) := by
  have hg : nget d.now.names [116] = some 2 := by rw [hn, hs]; rfl
  have hr : d.rename [116] [102] = ({ d with steps := [⟨3, 2, 0, zsec, [116], [102]⟩], now := ⟨[([102], 2)], updF (updF (fun _ => []) 1 l1) 2 l2⟩ }, 0) := by
    unfold Dsk.rename
    rw [hg, if_neg (by decide)]
    simp only []
    rw [if_neg (by decide), more_q hq, ht, hn, hs]
    rfl
  rw [hr]
  have hq2 : Dsk.Q { d with steps := [⟨3, 2, 0, zsec, [116], [102]⟩], now := ⟨[([102], 2)], updF (updF (fun _ => []) 1 l1) 2 l2⟩ } := hq
  have hsn : Dsk.syncNames { d with steps := [⟨3, 2, 0, zsec, [116], [102]⟩], now := ⟨[([102], 2)], updF (updF (fun _ => []) 1 l1) 2 l2⟩ } = ({ d with safe := ⟨[([102], 2)], updF (updF (fun _ => []) 1 l1) 2 l2⟩, steps := [], now := ⟨[([102], 2)], updF (updF (fun _ => []) 1 l1) 2 l2⟩ }, 0) := by
    unfold Dsk.syncNames
    rw [settle_q hq2 fun j hj => by
      have : j = 0 := by simpa using hj
      subst this; rfl]
    simp only [hs]
    rfl
  rw [hsn]
  have e2 : heldF ⟨[([102], 2)], updF (updF (fun _ => []) 1 l1) 2 l2⟩ 2 = l2 := by simp [heldF, updF]
  have e1 : heldF ⟨[([102], 1), ([116], 2)], updF (updF (fun _ => []) 1 l1) 2 l2⟩ 1 = l1 := by simp [heldF, updF]
  refine ⟨rfl, rfl, ?_, ?_⟩
  · unfold Dsk.crash Dsk.read
    simp only [keepL, hs]
    cases keep.getD 0 false with
    | true =>
      left
      simp only [if_true]
      have hd : FS.does ⟨[([102], 1), ([116], 2)], updF (updF (fun _ => []) 1 l1) 2 l2⟩ ⟨3, 2, 0, zsec, [116], [102]⟩ = ⟨[([102], 2)], updF (updF (fun _ => []) 1 l1) 2 l2⟩ := rfl
      rw [hd]
      have hg' : nget [([102], (2 : Int))] ([102] : Byts) = some 2 := rfl
      simp only [hg', e2, Bool.false_eq_true, if_false]
    | false =>
      right
      simp only [Bool.false_eq_true, if_false]
      have hg' : nget [([102], (1 : Int)), ([116], 2)] ([102] : Byts) = some 1 := rfl
      simp only [hg', e1]
  · unfold Dsk.crash Dsk.read
    simp only [keepL]
    have hg' : nget [([102], (2 : Int))] ([102] : Byts) = some 2 := rfl
    simp only [hg', e2, Bool.false_eq_true, if_false]

theorem byte_eq (s : Byts) (i : Nat) (hi : i < s.length) : ((s[i].toNat : Nat) : Int) = ((s[i].toNat : Nat) : Int) := rfl
theorem take_fills {s : Byts} {i : Nat} (hi : i < s.length) : fills (s.take (i + 1)) = fills (s.take i) ++ [fillB s[i]] := by
  have : s.take (i + 1) = s.take i ++ [s[i]] := (List.take_append_getElem hi).symm
  unfold fills; rw [this, List.map_append]; rfl

/-- FileWhole. -/
theorem s3 {vo vf vk : AV} {old fresh : Byts} {keep : List Bool} {synced : Bool} (hh : HK hk) (hm : Mem w0) (hw : 0 < w0.size) (ho : RsB w0 vo old) (hf : RsB w0 vf fresh) (hkv : RsT w0 vk keep) (hkl : keep.length < 2 ^ 64) :
    Cl Try.prog hk 3 [vo, vf, vk, .bool synced] w0 fun r _ => r = .bool true := by
  apply in3 (hh.no _ _ _ (by decide) (by decide))
  unfold F3
  refine lNew hh hm hw fun D X0 w5 hL5 => ?_
  have awake : ∀ {w : AW}, Cl Try.prog hk 14 [] w fun r w => ∃ x : Bool, r = .bool x ∧ (AV.bool x) = .bool true := fun {w} => Cl_hook (hh.awake _) ⟨_, rfl, rfl⟩
  have one0 : OneF Dsk.none [102] 1 [] (fun _ => []) [] := ⟨⟨rfl, rfl, rfl⟩, rfl, rfl, by simp, by simp, ⟨rfl, rfl⟩, .inl ⟨rfl, rfl, rfl, rfl⟩⟩
  refine join_of (fun lv w7 => ∃ (v : AV) (d : Dsk) (m : Nat) (X : List Nat), lv = [v] ∧ m ≤ 10 ∧ m ≤ old.length ∧ Ls w0 w7 D d (2 * m) X ∧ OneF d [102] 1 [] (fun _ => []) (fills (old.take m)) ∧ Bs w0.size X w7 v (fills (old.take m)).flatten) ?_ ?_
  · rintro lv w7 ⟨v1, d1, m, X1, rfl, hm10, hmo, hL7, hO1, hB1⟩
    refine ⟨_, rfl, fun _ => ?_⟩
    have hl1 : (fills (old.take m)).length = m := by simp [fills]; omega
    refine lSync hh hL7 (by omega) fun X11 w11 hL11 hX11 t11 => ⟨_, rfl, ?_⟩
    have hB11 := hB1.next hL7.mem t11.ch hX11
    have hR11 := (hB11.1).rb
    -- behind the sync
    generalize hd2 : (d1.sync [102]).1 = d2 at *
    have hph : fills (old.take m) = [] ∨ (d2.Q ∧ d2.safe = ⟨[([102], 1)], updF (fun _ => []) 1 (fills (old.take m))⟩ ∧ d2.now = d2.safe ∧ d2.steps = [] ∧ d2.last = 1) := by
      by_cases he : fills (old.take m) = []
      · exact .inl he
      · obtain ⟨e1, e2, e3⟩ := hO1.sync he
        right
        rw [← hd2, e1]
        exact ⟨hO1.q, rfl, e2, rfl, e3⟩
    refine join_of (fun lv w14 => ∃ (v : AV) (d : Dsk) (n : Nat) (X : List Nat), lv = [v] ∧ n ≤ 10 ∧ n ≤ fresh.length ∧ Ls w0 w14 D d (2 * m + 2 * n) X ∧ (fills (old.take m) = [] ∨ OneF d [116] 2 [([102], 1)] (updF (fun _ => []) 1 (fills (old.take m))) (fills (fresh.take n))) ∧ Bs w0.size X w14 v (fills (fresh.take n)).flatten ∧ RB w14 v1 (fills (old.take m)).flatten) ?_ ?_
    · rintro lv w14 ⟨v2, d3, n, X14, rfl, hn10, hnf, hL14, hO2, hB2, hR14⟩
      refine ⟨_, rfl, fun _ => ?_⟩
      have hl2 : (fills (fresh.take n)).length = n := by simp [fills]; omega
      have hf1 := flat_len (fills_len (old.take m))
      have hf2 := flat_len (fills_len (fresh.take n))
      refine ⟨_, hR14.rs.len, ifT_d (fun _ => awake) fun h1 => ⟨_, hB2.1.rb.rs.len, ifT_d (fun _ => awake) fun h2 => ?_⟩⟩
      rw [hf1, hl1] at h1
      rw [hf2, hl2] at h2
      have hne1 : fills (old.take m) ≠ [] := fun e => by rw [e] at hl1; simp at hl1; omega
      have hne2 : fills (fresh.take n) ≠ [] := fun e => by rw [e] at hl2; simp at hl2; omega
      have hO2 : OneF d3 [116] 2 [([102], 1)] (updF (fun _ => []) 1 (fills (old.take m))) (fills (fresh.take n)) := by
        rcases hO2 with h | h
        · exact absurd h hne1
        · exact h
      obtain ⟨e1, e2, e3⟩ := hO2.sync hne2
      refine lSync hh hL14 (by omega) fun X26 w26 hL26 hX26 t26 => ⟨_, rfl, ?_⟩
      rw [e1] at hL26 ⊢
      refine ifT_nd (fun h => absurd rfl h) fun _ => ?_
      have hW := fun keep => whole (d := { d3 with safe := ⟨[([102], 1)] ++ [([116], 2)], updF (updF (fun _ => []) 1 (fills (old.take m))) 2 (fills (fresh.take n))⟩, steps := [] }) (l1 := fills (old.take m)) (l2 := fills (fresh.take n)) hO2.q rfl e2 rfl keep
      generalize ({ d3 with safe := ⟨[([102], 1)] ++ [([116], 2)], updF (updF (fun _ => []) 1 (fills (old.take m))) 2 (fills (fresh.take n))⟩, steps := [] } : Dsk) = d4 at hL26 hW
      have hR1 := hR14.mono t26.cells
      have hR2 := hB2.1.rb.mono t26.cells
      refine lRename hh hL26 (by omega) fun X29 w29 hL29 hX29 t29 => ⟨_, rfl, ?_⟩
      rw [(hW keep).1]
      refine ifT_nd (fun h => absurd rfl h) fun _ => ?_
      have hR1' := hR1.mono t29.cells
      have hR2' := hR2.mono t29.cells
      refine join_of (fun lv w32 => lv = [] ∧ ∃ (d : Dsk) (X : List Nat), Ls w0 w32 D d (2 * m + 2 * n + 1) X ∧ RB w32 v1 (fills (old.take m)).flatten ∧ RB w32 v2 (fills (fresh.take n)).flatten ∧ ((d.crash keep).read [102] = ((fills (fresh.take n)).flatten, 0) ∨ synced = false ∧ (d.crash keep).read [102] = ((fills (old.take m)).flatten, 0))) ?_ ?_
      · rintro lv w32 ⟨rfl, d5, X32, hL32, hQ1, hQ2, hread⟩
        refine ⟨rfl, fun _ => ?_⟩
        refine lCrash hh hL32 hm (by omega) hkl hkv fun X35 w35 hL35 hX35 t35 => ⟨_, rfl, ifT_nd (fun h => absurd rfl h) fun _ => ?_⟩
        have hQ1' := hQ1.mono t35.cells
        have hQ2' := hQ2.mono t35.cells
        refine lRead hh hL35 fun v w38 f38 hv => ⟨_, _, rfl, ?_⟩
        have hQ1x := hQ1'.mono fun b bs hb => f38.cells hL35.mem hb (Nat.le_refl _)
        have hQ2x := hQ2'.mono fun b bs hb => f38.cells hL35.mem hb (Nat.le_refl _)
        refine s19 hh hv.rs hQ2x.rs ⟨_, rfl, ?_⟩
        rcases hread with hread | ⟨hsy, hread⟩
        · simp only [] at hv
          rw [hread] at hv ⊢
          rw [show ((fills (fresh.take n)).flatten == (fills (fresh.take n)).flatten) = true by simp]
          exact ifT_d (fun _ => ifT_t awake) fun h => absurd rfl h
        · simp only [] at hv
          rw [hread] at hv ⊢
          refine ifT_d (fun _ => ?_) fun h => absurd rfl h
          cases ((fills (old.take m)).flatten == (fills (fresh.take n)).flatten) with
          | true => exact ifT_t awake
          | false =>
            rw [hsy]
            refine ifT_f (ifT_t (s19 hh hv.rs hQ1x.rs ⟨_, rfl, ?_⟩))
            rw [show ((fills (old.take m)).flatten == (fills (old.take m)).flatten) = true by simp]
            exact ifT_t awake
      · intro J hJ
        cases synced with
        | true =>
          refine ifT_t (lSyncNames hh hL29 (by omega) fun X54 w54 hL54 hX54 t54 => ⟨_, rfl, ?_⟩)
          rw [(hW keep).2.1]
          refine ifT_nd (fun h => absurd rfl h) fun _ => hJ _ _ ⟨rfl, _, X54, hL54, hR1'.mono t54.cells, hR2'.mono t54.cells, .inl (hW keep).2.2.2⟩
        | false =>
          refine ifT_f (hJ _ _ ⟨rfl, _, X29, hL29, hR1', hR2', ?_⟩)
          rcases (hW keep).2.2.1 with h | h
          · exact .inl h
          · exact .inr ⟨rfl, h⟩
    · intro J hJ
      refine loopP_ind (fun i lv w58 => ∃ (v : AV) (d : Dsk) (n : Nat) (X : List Nat), lv = [v, .int .i64 n] ∧ i = 10 - n ∧ n ≤ 10 ∧ n ≤ fresh.length ∧ Ls w0 w58 D d (2 * m + 2 * n) X ∧ (fills (old.take m) = [] ∨ OneF d [116] 2 [([102], 1)] (updF (fun _ => []) 1 (fills (old.take m))) (fills (fresh.take n))) ∧ Bs w0.size X w58 v (fills (fresh.take n)).flatten ∧ RB w58 v1 (fills (old.take m)).flatten) ?_
        ⟨.nilslice, d2, 0, X11, rfl, rfl, by omega, Nat.zero_le _, hL11, ?_, Bs.nil, hR11⟩
      · rintro i lv w58 ⟨v, d, n, X, rfl, rfl, hn10, hnf, hL, hO, hB, hR⟩ R ih
        have hf58 := hf.fr hm hL.fr0 (Nat.le_refl _)
        refine ⟨_, _, rfl, fun _ => ⟨_, hf58.len, ifT_d (fun hc => ifT_d (fun hc2 => ?_) fun hc2 => ?_) fun hc => ?_⟩⟩
        rotate_left
        · exact hJ _ _ ⟨v, d, n, X, rfl, hn10, hnf, hL, hO, hB, hR⟩
        · exact hJ _ _ ⟨v, d, n, X, rfl, hn10, hnf, hL, hO, hB, hR⟩
        have hnl : n < fresh.length := by omega
        have hl2 : (fills (fresh.take n)).length = n := by simp [fills]; omega
        refine hf58.at hnl fun bb oo hld => ⟨_, hld, ?_⟩
        refine s12 hh hL.mem (Ls.pos' hL) fun r65 w66 f66 b66 e66 => ?_
        subst e66
        have hL66 := hL.fr f66
        have hB66 := hB.next hL.mem f66.ch fun x hx => .inl hx
        have hrs66 : RsB w66 (.slice w58.size 0 64 64 none) (fillB fresh[n]) := .inr ⟨w58.size, 0, 64, none, _, rfl, b66.cells, by rw [cellsOfBytes_length]; simp [fillB], by rw [List.drop_zero, List.take_of_length_le (by rw [cellsOfBytes_length]; omega)]⟩
        refine lPut hh hL66 (by omega) hrs66 fun X68 w68 hL68 hX68 t68 => ⟨_, rfl, ?_⟩
        have hB68 := hB66.next hL66.mem t68.ch hX68
        have hf68 := hf.fr hm hL68.fr0 (Nat.le_refl _)
        refine hf68.at hnl fun bb oo hld => ⟨_, hld, ?_⟩
        refine s12 hh hL68.mem (Ls.pos' hL68) fun r73 w74 f74 b74 e74 => ?_
        subst e74
        have hL74 := hL68.fr f74
        have hB74 := hB68.next hL68.mem f74.ch fun x hx => .inl hx
        have hfl : (fillB fresh[n]).length = 64 := by simp [fillB]
        have hrx : Rs w74 1 (fillB fresh[n]).length (.slice w68.size 0 64 64 none) (cellsOfBytes (fillB fresh[n])) := by
          rw [hfl]
          exact .inr ⟨w68.size, 0, 64, none, _, rfl, b74.cells, by rw [cellsOfBytes_length, hfl]; omega, by rw [List.drop_zero, List.take_of_length_le (by rw [cellsOfBytes_length, hfl]; omega)]⟩
        have hfl2 := flat_len (fills_len (fresh.take n))
        refine hL74.app hB74 hrx (by omega) (by omega) fun v' w76 hL76 hB76 hc76 _ => ?_
        have hR76 := ((hR.mono fun b bs hb => f66.cells hL.mem hb (Nat.le_refl _)).mono t68.cells).mono fun b bs hb => hc76 _ _ (f74.cells hL68.mem hb (Nat.le_refl _))
        have htf := take_fills hnl
        refine ih (10 - (n + 1)) (by omega) _ _ ⟨v', _, n + 1, X68, by rw [wi_eq (by omega) (by omega)]; rfl, rfl, by omega, by omega, hL76, ?_, ?_, hR76⟩
        · rcases hO with h | h
          · exact .inl h
          · right
            have := (h.put (s := fillB fresh[n]) (by omega) hfl).2
            rw [hl2] at this
            rw [htf]; exact this
        · rw [htf, List.flatten_append]; simpa using hB76
      · rcases hph with h | ⟨h1, h2, h3, h4, h5⟩
        · exact .inl h
        · exact .inr ⟨h1, h2, rfl, by simp, by simp, by simp [updF], .inl ⟨by simp [fills], h4, by rw [h3, h2], by rw [h5]; rfl⟩⟩
  · intro J hJ
    refine loopP_ind (fun i lv w79 => ∃ (v : AV) (d : Dsk) (m : Nat) (X : List Nat), lv = [v, .int .i64 m] ∧ i = 10 - m ∧ m ≤ 10 ∧ m ≤ old.length ∧ Ls w0 w79 D d (2 * m) X ∧ OneF d [102] 1 [] (fun _ => []) (fills (old.take m)) ∧ Bs w0.size X w79 v (fills (old.take m)).flatten) ?_
      ⟨.nilslice, Dsk.none, 0, X0, rfl, rfl, by omega, Nat.zero_le _, hL5, one0, Bs.nil⟩
    rintro i lv w79 ⟨v, d, n, X, rfl, rfl, hn10, hnf, hL, hO, hB⟩ R ih
    have hf58 := ho.fr hm hL.fr0 (Nat.le_refl _)
    refine ⟨_, _, rfl, fun _ => ⟨_, hf58.len, ifT_d (fun hc => ifT_d (fun hc2 => ?_) fun hc2 => ?_) fun hc => ?_⟩⟩
    rotate_left
    · exact hJ _ _ ⟨v, d, n, X, rfl, hn10, hnf, hL, hO, hB⟩
    · exact hJ _ _ ⟨v, d, n, X, rfl, hn10, hnf, hL, hO, hB⟩
    have hnl : n < old.length := by omega
    have hl2 : (fills (old.take n)).length = n := by simp [fills]; omega
    refine hf58.at hnl fun bb oo hld => ⟨_, hld, ?_⟩
    refine s12 hh hL.mem (Ls.pos' hL) fun r65 w66 f66 b66 e66 => ?_
    subst e66
    have hL66 := hL.fr f66
    have hB66 := hB.next hL.mem f66.ch fun x hx => .inl hx
    have hrs66 : RsB w66 (.slice w79.size 0 64 64 none) (fillB old[n]) := .inr ⟨w79.size, 0, 64, none, _, rfl, b66.cells, by rw [cellsOfBytes_length]; simp [fillB], by rw [List.drop_zero, List.take_of_length_le (by rw [cellsOfBytes_length]; omega)]⟩
    refine lPut hh hL66 (by omega) hrs66 fun X68 w68 hL68 hX68 t68 => ⟨_, rfl, ?_⟩
    have hB68 := hB66.next hL66.mem t68.ch hX68
    have hf68 := ho.fr hm hL68.fr0 (Nat.le_refl _)
    refine hf68.at hnl fun bb oo hld => ⟨_, hld, ?_⟩
    refine s12 hh hL68.mem (Ls.pos' hL68) fun r73 w74 f74 b74 e74 => ?_
    subst e74
    have hL74 := hL68.fr f74
    have hB74 := hB68.next hL68.mem f74.ch fun x hx => .inl hx
    have hfl : (fillB old[n]).length = 64 := by simp [fillB]
    have hrx : Rs w74 1 (fillB old[n]).length (.slice w68.size 0 64 64 none) (cellsOfBytes (fillB old[n])) := by
      rw [hfl]
      exact .inr ⟨w68.size, 0, 64, none, _, rfl, b74.cells, by rw [cellsOfBytes_length, hfl]; omega, by rw [List.drop_zero, List.take_of_length_le (by rw [cellsOfBytes_length, hfl]; omega)]⟩
    have hfl2 := flat_len (fills_len (old.take n))
    refine hL74.app hB74 hrx (by omega) (by omega) fun v' w76 hL76 hB76 hc76 _ => ?_
    have htf := take_fills hnl
    refine ih (10 - (n + 1)) (by omega) _ _ ⟨v', _, n + 1, X68, by rw [wi_eq (by omega) (by omega)]; rfl, rfl, by omega, by omega, hL76, ?_, ?_⟩
    · have := (hO.put (s := fillB old[n]) (by omega) hfl).2
      rw [hl2] at this
      rw [htf]; exact this
    · rw [htf, List.flatten_append]; simpa using hB76
end
end Go.Proofs.Ytbjeebgdjlemjaa
