/-
  FileSynced, over memory.
  No condition beyond those that each theorem names.
-/
import Derived.Test.YtbjeebgdjlemjaaT07
import Derived.Test.YtbjeebgdjlemjaaSxs
set_option linter.unusedSimpArgs false
open Go.Sx
set_option linter.unusedVariables false
namespace Go.Proofs.Ytbjeebgdjlemjaa

def kept : Byts := [107, 101, 112, 116]
theorem nameOf_ne (m : Nat) : nameOf m ≠ kept := fun e => by
  have := congrArg List.length e
  simp [nameOf, kept] at this
theorem call_calls {d : Dsk} (hq : d.Q) (n : Nat) : Calls' d (Dsk.call d n) kept := by
  unfold Dsk.call
  simp only []
  have hk : kept ≠ [] := by simp [kept]
  split
  · exact cut_calls hk (nameOf_ne _)
  · split
    · exact rename_calls hk (nameOf_ne _) (nameOf_ne _)
    · split
      · exact remove_calls hk (nameOf_ne _)
      · exact put_calls hq hk (nameOf_ne _)

section
variable {hk : Hook} {w0 w : AW} {D : Nat} {d : Dsk} {k : Nat} {X : List Nat} {K : AV → AW → Prop}
/-- Another disk turns. -/
theorem beside {w' : AW} {Y : List Nat} {m : Nat} (h : Ls w0 w D d k X) (ht : Tz Y w w') (hY : ∀ y ∈ Y, w0.size ≤ y ∧ y < m) (hX : ∀ x ∈ X, m ≤ x) : Ls w0 w' D d k X := by
  obtain ⟨n1, f1, n2, f2, sv, hd⟩ := h.dk
  have hs := ht.ch.size
  have hs0 := h.sz
  refine ⟨ht.ch.mem, by omega, h.pos, fun c hc => (ht.ch.old c (by omega) fun hx => by have := (hY c hx).1; omega).trans (h.old c hc), ⟨n1, f1, n2, f2, sv, hd.keep h.mem (fun c hc hq => ht.ch.old c hc fun hx => ?_) ht.cells⟩, h.V, fun x hx => ⟨(h.X1 x hx).1, by have := (h.X1 x hx).2; omega⟩⟩
  have := (hY c hx).2
  rcases hq with hq | hq
  · have := hX c hq; omega
  · rcases hd.st with ⟨e, _⟩ | ⟨b, f, n, ex, o, dd, e, q1, q2, q3, q4, q5, q6⟩
    · rw [e] at hq; cases hq
    · rw [e] at hq; cases hq
      have h1 := hX f q3
      have h2 := h.mem.fam _ _ _ _ _ q5
      omega
/-- A crash leaves no steps. -/
theorem lCrashN {keep : List Bool} {kv : AV} (hh : HK hk) (h : Ls w0 w D d k X) (hm0 : Mem w0) (hkk : k < 2 ^ 27) (hkl : keep.length < 2 ^ 64) (hkv : RsT w0 kv keep)
    (hK : ∀ X' w', Ls w0 w' D (d.crash keep) k X' → (∃ n1 f1 n2 f2, DkM X' w' D n1 f1 n2 f2 .nilslice (d.crash keep)) → (∀ x ∈ X', x ∈ X ∨ w.size ≤ x) → Tz X w w' → K (.int .i64 0) w') : Cl Try.prog hk 17 [.ptr D 0, kv] w K := by
  obtain ⟨n1, f1, n2, f2, sv, hd1⟩ := h.dk
  refine s17 hh h.mem (Ls.pos' h) hd1 h.V hkk hkl (Rs.fr hkv hm0 h.fr0 (Nat.le_refl _)) (fun e => ?_) fun X' n1 f1 n2 f2 w' _ h2 h3 h4 => ?_
  · rcases hkv with ⟨e', _⟩ | ⟨b, o, cap, ex, all, e', g2, _⟩
    · rw [e'] at e; cases e
    · rw [e'] at e; cases e
      obtain ⟨_, _, hl, _⟩ := hm0.cells_fam g2
      have := (Ls.D h).1
      omega
  · obtain ⟨a, b⟩ := h.next h2 h3 h4 (h.V.crash keep)
    exact hK _ w' a ⟨_, _, _, _, h4.trim h3.ch.mem⟩ b h3
/-- A number out of the arguments, and its call. -/
theorem step_call {v : AV} {l : List Int} {i : Nat} {J : AW → Prop} (hh : HK hk) (h : Ls w0 w D d k X) (hkk : k < 2 ^ 26) (hl : RsI w v l) (hi : i < l.length)
    (hJ : ∀ (n : Nat) X' w', Ls w0 w' D (Dsk.call d n) (k + 2) X' → (∀ x ∈ X', x ∈ X ∨ w.size ≤ x) → Tz X w w' → J w') :
    atP (idxS 1 v (.int .i64 (i : Int))) fun b o => ∃ x : Int, ld w b o = some (.int .i64 x) ∧ Cl Try.prog hk 21 [.int .i64 x, .int .i64 1000003] w fun r w1 => ∃ y : Int, r = .int .i64 y ∧ Cl Try.prog hk 20 [.ptr D 0, .int .i64 y] w1 fun r w2 => r = .tup [] ∧ J w2 := by
  refine hl.atN hi fun b o hld => ⟨_, hld, ?_⟩
  refine s21 hh (by omega) ⟨_, rfl, ?_⟩
  obtain ⟨hq0, hq1⟩ := pick_range (x := l[i]) (n := 1000003) (by omega)
  generalize pick l[i] 1000003 = q at *
  obtain ⟨qn, rfl⟩ := Int.eq_ofNat_of_zero_le hq0
  have hqn : qn < 1000003 := by have : ((qn : Nat) : Int) < 1000003 := hq1; omega
  exact s20 hh h hkk hqn fun X' w' h1 h2 h3 => ⟨rfl, hJ qn X' w' h1 h2 h3⟩

/-- FileSynced. -/
theorem s4 {vw vs vm vk : AV} {work more : List Int} {secs : Byts} {keep : List Bool} (hh : HK hk) (hm : Mem w0) (hw : 0 < w0.size) (hwk : RsI w0 vw work) (hsc : RsB w0 vs secs) (hmo : RsI w0 vm more) (hkv : RsT w0 vk keep) (hkl : keep.length < 2 ^ 64) :
    Cl Try.prog hk 4 [vw, vs, vm, vk] w0 fun r _ => r = .bool true := by
  apply in4 (hh.no _ _ _ (by decide) (by decide))
  unfold F4
  have awake : ∀ {w : AW}, Cl Try.prog hk 14 [] w fun r w => ∃ x : Bool, r = .bool x ∧ (AV.bool x) = .bool true := fun {w} => Cl_hook (hh.awake _) ⟨_, rfl, rfl⟩
  refine lNew hh hm hw fun D X0 w5 hL5 => ?_
  refine join_of (fun lv w7 => lv = [] ∧ ∃ (d : Dsk) (X : List Nat), Ls w0 w7 D d 60 X ∧ PA d kept 60) ?_ ?_
  · rintro lv w7 ⟨rfl, d, X, hL7, hA⟩
    refine ⟨rfl, fun _ => ?_⟩
    obtain ⟨a1, a2, a3⟩ := hA.syncNames
    refine lSyncNames hh hL7 (by omega) fun X10 w10 hL10 hX10 t10 => ⟨_, rfl, ?_⟩
    rw [a1]
    refine ifT_nd (fun h => absurd rfl h) fun _ => ?_
    have hB0 := a2.start (by omega) a3
    generalize d.syncNames.1 = d1 at *
    generalize hF : d1.last + 1 = F at *
    refine join_of (fun lv w13 => ∃ (v : AV) (d : Dsk) (n : Nat) (X : List Nat), lv = [v] ∧ n ≤ 10 ∧ n ≤ secs.length ∧ Ls w0 w13 D d (60 + 2 * n) X ∧ PB d kept F (fills (secs.take n)) ∧ Bs w0.size X w13 v (fills (secs.take n)).flatten) ?_ ?_
    · rintro lv w13 ⟨v, d2, n, X13, rfl, hn10, hns, hL13, hB, hBs⟩
      refine ⟨_, rfl, fun _ => ?_⟩
      have hl2 : (fills (secs.take n)).length = n := by simp [fills]; omega
      have hf2 := flat_len (fills_len (secs.take n))
      refine ⟨_, hBs.1.rb.rs.len, ifT_d (fun _ => awake) fun h2 => ?_⟩
      rw [hf2, hl2] at h2
      have hne : fills (secs.take n) ≠ [] := fun e => by rw [e] at hl2; simp at hl2; omega
      obtain ⟨b1, b2⟩ := hB.sync hne
      refine lSync hh hL13 (by omega) fun X21 w21 hL21 hX21 t21 => ⟨_, rfl, ?_⟩
      rw [show (d2.sync [107, 101, 112, 116]).2 = 0 from b1]
      refine ifT_nd (fun h => absurd rfl h) fun _ => ?_
      have hR21 := hBs.1.rb.mono t21.cells
      have b2 : PC (d2.sync [107, 101, 112, 116]).1 kept F (fills (secs.take n)) := b2
      generalize (d2.sync [107, 101, 112, 116]).1 = d3 at *
      generalize fills (secs.take n) = ls at *
      refine join_of (fun lv w24 => lv = [] ∧ ∃ (d : Dsk) (X : List Nat), Ls w0 w24 D d 200 X ∧ PC d kept F ls ∧ RB w24 v ls.flatten) ?_ ?_
      · rintro lv w24 ⟨rfl, d4, X24, hL24, hC, hR24⟩
        refine ⟨rfl, fun _ => ?_⟩
        refine lCopy hh hL24 (by omega) fun D' Xc w27 f27 hLc hXc => ?_
        have hL27 := hL24.fr f27
        have hR27 := hR24.mono fun b bs hb => f27.cells hL24.mem hb (Nat.le_refl _)
        refine lCrashN hh hL27 hm (by omega) hkl hkv fun X29 w29 hL29 hN29 hX29 t29 => ⟨_, rfl, ifT_nd (fun h => absurd rfl h) fun _ => ?_⟩
        have hLc29 := beside hLc t29 (fun y hy => hL24.X1 y hy) hXc
        have hR29 := hR27.mono t29.cells
        refine lCrash (keep := []) hh hLc29 hm (by omega) (by simp) Rs.nil fun X32 w32 hL32 hX32 t32 => ⟨_, rfl, ifT_nd (fun h => absurd rfl h) fun _ => ?_⟩
        have hR32 := hR29.mono t32.cells
        -- the disk itself, beside its copy's crash
        have hL29' : Ls w0 w32 D (d4.crash keep) 200 X29 := by
          obtain ⟨n1, f1, n2, f2, hd⟩ := hN29
          have hs := t32.ch.size
          have hs0 := hL29.sz
          have hs27 := f27.size
          have hdis : ∀ x ∈ X29, x ∉ Xc := fun x hx hxc => by
            have h1 := hXc x hxc
            have h2 := (hLc.X1 x hxc).2
            rcases hX29 x hx with h | h
            · have := (hL24.X1 x h).2; omega
            · omega
          refine ⟨t32.ch.mem, by omega, hL29.pos, fun c hc => (t32.ch.old c (by omega) fun hx => by have := (hLc.X1 c hx).1; omega).trans (hL29.old c hc), ⟨n1, f1, n2, f2, .nilslice, hd.keep hL29.mem (fun c hc hq => t32.ch.old c hc fun hx => ?_) t32.cells⟩, hL29.V, fun x hx => ⟨(hL29.X1 x hx).1, by have := (hL29.X1 x hx).2; omega⟩⟩
          rcases hq with hq | hq
          · exact hdis c hq hx
          · cases hq
        have hc1 : (d4.crash keep).read [107, 101, 112, 116] = (ls.flatten, 0) := hC.crash keep
        have hc2 : (d4.crash []).read [107, 101, 112, 116] = (ls.flatten, 0) := hC.crash []
        refine lRead hh hL29' fun va w35 f35 hva => ⟨_, _, rfl, ?_⟩
        have hL35 := hL32.fr f35
        refine lRead hh hL35 fun vb w39 f39 hvb => ⟨_, _, rfl, ?_⟩
        simp only [] at hva hvb ⊢
        rw [hc1] at hva ⊢
        rw [hc2] at hvb ⊢
        have hva' := hva.mono fun b bs hb => f39.cells hL35.mem hb (Nat.le_refl _)
        have hR39 := (hR32.mono fun b bs hb => f35.cells hL32.mem hb (Nat.le_refl _)).mono fun b bs hb => f39.cells hL35.mem hb (Nat.le_refl _)
        refine ifT_d (fun _ => ?_) fun h => absurd (show wi (0 + 0) = 0 by decide) h
        refine s19 hh hva'.rs hR39.rs ⟨_, rfl, ?_⟩
        rw [show (ls.flatten == ls.flatten) = true by simp]
        refine ifT_t (s19 hh hvb.rs hR39.rs ⟨_, rfl, ?_⟩)
        rw [show (ls.flatten == ls.flatten) = true by simp]
        exact ifT_t awake
      · intro J hJ
        refine loopP_ind (fun i lv w53 => ∃ (d : Dsk) (n' : Nat) (X : List Nat), lv = [.int .i64 n'] ∧ i = 30 - n' ∧ n' ≤ 30 ∧ Ls w0 w53 D d (60 + 2 * n + 2 * n') X ∧ PC d kept F ls ∧ RB w53 v ls.flatten) ?_
          ⟨d3, 0, X21, rfl, rfl, by omega, hL21, b2, hR21⟩
        rintro i lv w53 ⟨d, n', X, rfl, rfl, hn30, hL, hC, hR⟩ R ih
        have hm53 := hmo.fr hm hL.fr0 (Nat.le_refl _)
        refine ⟨_, rfl, fun _ => ⟨_, hm53.len, ifT_d (fun hc => ifT_d (fun hc2 => ?_) fun hc2 => ?_) fun hc => ?_⟩⟩
        · exact step_call hh hL (by omega) hm53 (by omega) fun q X' w' h1 h2 h3 => ih (30 - (n' + 1)) (by omega) _ _ ⟨_, n' + 1, X', by rw [wi_eq (by omega) (by omega)]; rfl, rfl, by omega, h1, hC.calls (call_calls hC.q q), hR.mono h3.cells⟩
        · exact hJ _ _ ⟨rfl, d, X, hL.le (by omega), hC, hR⟩
        · exact hJ _ _ ⟨rfl, d, X, hL.le (by omega), hC, hR⟩
    · intro J hJ
      refine loopP_ind (fun i lv w66 => ∃ (v : AV) (d : Dsk) (n : Nat) (X : List Nat), lv = [v, .int .i64 n] ∧ i = 10 - n ∧ n ≤ 10 ∧ n ≤ secs.length ∧ Ls w0 w66 D d (60 + 2 * n) X ∧ PB d kept F (fills (secs.take n)) ∧ Bs w0.size X w66 v (fills (secs.take n)).flatten) ?_
        ⟨.nilslice, d1, 0, X10, rfl, rfl, by omega, Nat.zero_le _, hL10, hB0, Bs.nil⟩
      rintro i lv w66 ⟨v, d, n, X, rfl, rfl, hn10, hnf, hL, hB, hBs⟩ R ih
      have hf66 := hsc.fr hm hL.fr0 (Nat.le_refl _)
      refine ⟨_, _, rfl, fun _ => ⟨_, hf66.len, ifT_d (fun hc => ifT_d (fun hc2 => ?_) fun hc2 => ?_) fun hc => ?_⟩⟩
      rotate_left
      · exact hJ _ _ ⟨v, d, n, X, rfl, hn10, hnf, hL, hB, hBs⟩
      · exact hJ _ _ ⟨v, d, n, X, rfl, hn10, hnf, hL, hB, hBs⟩
      have hnl : n < secs.length := by omega
      have hl2 : (fills (secs.take n)).length = n := by simp [fills]; omega
      refine hf66.at hnl fun bb oo hld => ⟨_, hld, ?_⟩
      refine s12 hh hL.mem (Ls.pos' hL) fun r73 w74 f74 b74 e74 => ?_
      subst e74
      have hL74 := hL.fr f74
      have hB74 := hBs.next hL.mem f74.ch fun x hx => .inl hx
      have hfl : (fillB secs[n]).length = 64 := by simp [fillB]
      have hrs74 : RsB w74 (.slice w66.size 0 64 64 none) (fillB secs[n]) := .inr ⟨w66.size, 0, 64, none, _, by rw [hfl], b74.cells, by rw [cellsOfBytes_length, hfl]; omega, by rw [List.drop_zero, hfl, List.take_of_length_le (by rw [cellsOfBytes_length, hfl]; omega)]⟩
      obtain ⟨p1, p2⟩ := hB.put (s := fillB secs[n]) (by simp [kept]) (by omega) hfl
      rw [hl2] at p1 p2
      refine lPut hh hL74 (by omega) hrs74 fun X76 w76 hL76 hX76 t76 => ⟨_, rfl, ?_⟩
      rw [show (d.put [107, 101, 112, 116] (n : Int) (fillB secs[n])).2 = 0 from p1]
      refine ifT_nd (fun h => absurd rfl h) fun _ => ?_
      have hB76 := hB74.next hL74.mem t76.ch hX76
      have hf76 := hsc.fr hm hL76.fr0 (Nat.le_refl _)
      refine hf76.at hnl fun bb oo hld => ⟨_, hld, ?_⟩
      refine s12 hh hL76.mem (Ls.pos' hL76) fun r81 w82 f82 b82 e82 => ?_
      subst e82
      have hL82 := hL76.fr f82
      have hB82 := hB76.next hL76.mem f82.ch fun x hx => .inl hx
      have hrx : Rs w82 1 (fillB secs[n]).length (.slice w76.size 0 64 64 none) (cellsOfBytes (fillB secs[n])) := by
        rw [hfl]
        exact .inr ⟨w76.size, 0, 64, none, _, rfl, b82.cells, by rw [cellsOfBytes_length, hfl]; omega, by rw [List.drop_zero, List.take_of_length_le (by rw [cellsOfBytes_length, hfl]; omega)]⟩
      have hfl2 := flat_len (fills_len (secs.take n))
      refine hL82.app hB82 hrx (by omega) (by omega) fun v' w84 hL84 hB84 hc84 _ => ?_
      have htf := take_fills hnl
      refine ih (10 - (n + 1)) (by omega) _ _ ⟨v', _, n + 1, X76, by rw [wi_eq (by omega) (by omega)]; rfl, rfl, by omega, by omega, hL84, ?_, ?_⟩
      · rw [htf]; exact p2
      · rw [htf, List.flatten_append]; simpa using hB84
  · intro J hJ
    refine loopP_ind (fun i lv w87 => ∃ (d : Dsk) (n : Nat) (X : List Nat), lv = [.int .i64 n] ∧ i = 30 - n ∧ n ≤ 30 ∧ Ls w0 w87 D d (2 * n) X ∧ PA d kept (2 * n)) ?_
      ⟨Dsk.none, 0, X0, rfl, rfl, by omega, hL5, PA.none⟩
    rintro i lv w87 ⟨d, n, X, rfl, rfl, hn30, hL, hA⟩ R ih
    have hm87 := hwk.fr hm hL.fr0 (Nat.le_refl _)
    have hfin : Ls w0 w87 D d 60 X ∧ PA d kept 60 := ⟨hL.le (by omega), ⟨hA.q, hA.sl, hA.nl, hA.sk, hA.sf, by have := hA.cnt; omega⟩⟩
    refine ⟨_, rfl, fun _ => ⟨_, hm87.len, ifT_d (fun hc => ifT_d (fun hc2 => ?_) fun hc2 => ?_) fun hc => ?_⟩⟩
    · exact step_call hh hL (by omega) hm87 (by omega) fun q X' w' h1 h2 h3 => ih (30 - (n + 1)) (by omega) _ _ ⟨_, n + 1, X', by rw [wi_eq (by omega) (by omega)]; rfl, rfl, by omega, h1, hA.calls (call_calls hA.q q)⟩
    · exact hJ _ _ ⟨rfl, d, X, hfin.1, hfin.2⟩
    · exact hJ _ _ ⟨rfl, d, X, hfin.1, hfin.2⟩
end
end Go.Proofs.Ytbjeebgdjlemjaa
