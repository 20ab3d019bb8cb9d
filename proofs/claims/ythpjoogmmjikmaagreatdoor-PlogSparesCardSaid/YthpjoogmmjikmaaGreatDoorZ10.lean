/-
  ApartBytes, over memory.
  No condition beyond those that each theorem names.
-/
import Derived.Test.YthpjoogmmjikmaaGreatDoorJ10
set_option linter.unusedSimpArgs false
open Go.Sx
set_option linter.unusedVariables false
namespace Go.Proofs.YthpjoogmmjikmaaGreatDoor
def mkI (k i : Int) : Int := IntKind.wrap .u8 (shrI .u64 (IntKind.wrap .u64 (IntKind.wrap .u64 (wi (wi (1000003 * (wi (k + 7))) + i)) * 11400714819323198485)) 56)
def mk (k i : Int) : UInt8 := UInt8.ofNat (mkI k i).toNat
theorem mk_eq (k i : Int) : ((mk k i).toNat : Int) = mkI k i := by
  have h : 0 ≤ mkI k i ∧ mkI k i < 256 := by
    unfold mkI
    generalize shrI .u64 _ 56 = x
    simp only [IntKind.wrap, IntKind.bits, IntKind.signed, Bool.false_and, Bool.false_eq_true, if_false, decide_false]
    exact ⟨Int.emod_nonneg _ (by decide), by have := Int.emod_lt_of_pos x (show (0 : Int) < 2 ^ 8 by decide); simpa using this⟩
  unfold mk
  rw [UInt8.toNat_ofNat']
  omega
theorem s55 {hk : Hook} {w : AW} {k i : Int} {K : AV → AW → Prop} (hh : HK hk) (hK : K (.int .u8 (mk k i).toNat) w) : Cl Tryz.prog hk 55 [.int .i64 k, .int .i64 i] w K := by
  apply in55 (hh.no _ _ _ (by decide) (by decide))
  unfold F55
  rw [mk_eq] at hK
  exact hK
structure Ph (X : Nat → Prop) (w0 : AW) (bl : Nat) (vs gl : List AV) (w : AW) : Prop where
  size : w0.size < w.size
  mem : Mem w
  old : ∀ b, b < w0.size → ¬ X b → w.get b = w0.get b
  bl : Box w bl vs
  gs : Box w w0.size gl
section
variable {X : Nat → Prop} {w0 : AW} {bl : Nat} {vs gl : List AV} {w w' : AW}
theorem Ph.fr (h : Ph X w0 bl vs gl w) (hf : Fr w.size w w') : Ph X w0 bl vs gl w' :=
  ⟨Nat.lt_of_lt_of_le h.size hf.size, hf.mem, fun b hb hx => (hf.old b (by have := h.size; omega)).trans (h.old b hb hx), h.bl.fr hf (h.bl.lt h.mem), h.gs.fr hf (h.gs.lt h.mem)⟩
theorem Ph.put (h : Ph X w0 bl vs gl w) {c : Nat} (hc : Ch [c] w w') (h1 : X c) (h2 : bl ≠ c) (h3 : w0.size ≠ c) : Ph X w0 bl vs gl w' :=
  ⟨Nat.lt_of_lt_of_le h.size hc.size, hc.mem, fun b hb hx => (hc.old b (by have := h.size; omega) (by simp; exact fun e => hx (e ▸ h1))).trans (h.old b hb hx), hc.box h.mem h.bl (by simpa using h2), hc.box h.mem h.gs (by simpa using h3)⟩
theorem Ph.gr (h : Ph X w0 bl vs gl w) {v : AV} (hc : Gr X v w w') (h2 : blk v ≠ some bl) (h3 : blk v ≠ some w0.size) : Ph X w0 bl vs gl w' :=
  ⟨Nat.lt_of_lt_of_le h.size hc.size, hc.mem, fun b hb hx => (hc.old b (by have := h.size; omega) hx).trans (h.old b hb hx), hc.box _ _ h.bl h2, hc.box _ _ h.gs h3⟩
theorem Ph.gput (h : Ph X w0 bl vs gl w) {gl' : List AV} (hc : Ch [w0.size] w w') (h1 : bl ≠ w0.size) (hb : Box w' w0.size gl') : Ph X w0 bl vs gl' w' :=
  ⟨Nat.lt_of_lt_of_le h.size hc.size, hc.mem, fun b hb hx => (hc.old b (by have := h.size; omega) (by simp; omega)).trans (h.old b hb hx), hc.box h.mem h.bl (by simpa using h1), hb⟩
end
def Marked (n : Nat) (t : Nat → List UInt8) (k i0 : Nat) : Prop := ∀ j i, j < n → i < (t j).length → (j < k ∨ j = k ∧ i < i0) → (t j)[i]? = some (mk j i)
def grown (t : List UInt8) (k m : Nat) : List UInt8 := t ++ (List.range m).map fun i => mk k ((t.length + i : Nat) : Int)
theorem grown_get {t : List UInt8} {k m i : Nat} (h : ∀ i, i < t.length → t[i]? = some (mk k i)) (hi : i < t.length + m) : (grown t k m)[i]? = some (mk k i) := by
  unfold grown
  by_cases h1 : i < t.length
  · rw [List.getElem?_append_left h1]; exact h i h1
  · rw [List.getElem?_append_right (by omega), List.getElem?_map, List.getElem?_range (by omega)]
    simp only [Option.map_some]
    congr 2; omega
theorem grown_length (t : List UInt8) (k m : Nat) : (grown t k m).length = t.length + m := by simp [grown]
theorem s18 {hk : Hook} {w : AW} {bl : Nat} {vs : List AV} {ss : Nat → List UInt8} {K : AV → AW → Prop} (hh : HK hk) (hm : Mem w) (hw : 0 < w.size) (hn : vs.length < 2 ^ 20) (hbl : Box w bl vs)
    (hs : ∀ j (hj : j < vs.length), BS 1 w vs[j] (ss j)) (hl : ∀ j, j < vs.length → (ss j).length < 2 ^ 30)
    (hd : ∀ i j (hi : i < vs.length) (hj : j < vs.length), i ≠ j → ∀ c, blk vs[i] = some c → blk vs[j] ≠ some c) (hne : ∀ j (hj : j < vs.length), blk vs[j] ≠ some bl)
    (hK : ∀ w', w.size ≤ w'.size → Mem w' → (∀ b, b < w.size → (∀ j (hj : j < vs.length), blk vs[j] ≠ some b) → w'.get b = w.get b) → K (.bool true) w') :
    Cl Tryz.prog hk 18 [.slice bl 0 vs.length vs.length none] w K := by
  apply in18 (hh.no _ _ _ (by decide) (by decide))
  unfold F18
  refine ⟨_, rfl, onM_s (v := vs.length) rfl (onM_s (v := vs.length) rfl (gd_t ?_ (new_of hm fun w5 f5 b5 z5 => ?_)))⟩
  · rw [show Nat.ble vs.length vs.length = true from ble_of (Nat.le_refl _), show Nat.ble (vs.length * 24) (2 ^ 47) = true from ble_of (by omega), show Nat.blt vs.length (2 ^ 63) = true by rw [Nat.blt_eq]; omega]; rfl
  rw [repl_eq] at b5
  let X : Nat → Prop := fun b => (∃ j, ∃ hj : j < vs.length, blk vs[j] = some b) ∨ w.size ≤ b
  have hXj : ∀ j (hj : j < vs.length) c, blk vs[j] = some c → X c := fun j hj c h => .inl ⟨j, hj, h⟩
  have hXn : ∀ f, w.size ≤ f → X f := fun f h => .inr h
  have hbl' : bl < w.size := hbl.lt hm
  have hcw : ∀ j (hj : j < vs.length) c, blk vs[j] = some c → c < w.size := fun j hj c h => by
    rcases hs j hj with ⟨e, _⟩ | ⟨c', ex, e, _, _, h4⟩
    · rw [e] at h; cases h
    · rw [e] at h; cases h; exact h4.lt hm
  have hp5 : Ph X w bl vs (List.replicate vs.length .nilslice) w5 := ⟨by omega, f5.mem, fun b hb _ => f5.old b hb, hbl.fr f5 hbl', b5⟩
  -- the marks
  refine loopP_ind (fun m l w8 => ∃ (k : Nat) (t : Nat → List UInt8), k ≤ vs.length ∧ m = vs.length - k ∧ l = [.int .i64 k] ∧ Ph X w bl vs (List.replicate vs.length .nilslice) w8 ∧ (∀ j (hj : j < vs.length), BS 1 w8 vs[j] (t j)) ∧ (∀ j, j < vs.length → (t j).length = (ss j).length) ∧ Marked vs.length t k 0) ?_
    ⟨0, ss, Nat.zero_le _, rfl, rfl, hp5, fun j hj => (hs j hj).fr hm f5 (Nat.le_refl _), fun _ _ => rfl, fun j i _ _ h => by omega⟩
  rintro m l w8 ⟨k, t, hk, rfl, rfl, hp, hb, hlen, hmk⟩ R ih
  refine ⟨_, rfl, fun _ => ⟨_, rfl, ifT_d (fun hc => ?_) fun hc => ?_⟩⟩
  · have hkl : k < vs.length := by omega
    refine loopP_ind (fun m l w13 => ∃ (i : Nat) (t : Nat → List UInt8), i ≤ (ss k).length ∧ m = (ss k).length - i ∧ l = [.int .i64 i] ∧ Ph X w bl vs (List.replicate vs.length .nilslice) w13 ∧ (∀ j (hj : j < vs.length), BS 1 w13 vs[j] (t j)) ∧ (∀ j, j < vs.length → (t j).length = (ss j).length) ∧ Marked vs.length t k i) ?_
      ⟨0, t, Nat.zero_le _, rfl, rfl, hp, hb, hlen, hmk⟩
    rintro m l w13 ⟨i, t, hi, rfl, rfl, hp, hb, hlen, hmk⟩ R2 ih2
    refine ⟨_, rfl, fun _ => ?_⟩
    have hll := hl k hkl
    have htl := hlen k hkl
    have hbk := hb k hkl
    refine idx0 hkl (onM_s (v := vs[k]) (by rw [hp.bl.ld]; simp) ⟨_, hbk.rs.len, ifT_d (fun hc2 => ?_) fun hc2 => ?_⟩)
    · have hik : i < (t k).length := by omega
      refine idx0 hkl (onM_s (v := vs[k]) (by rw [hp.bl.ld]; simp) ?_)
      refine s55 hh ⟨_, rfl, by rw [hp.bl.ld]; simp, ?_⟩
      rcases hbk with ⟨_, e⟩ | ⟨c, ex, e, hex, hc1, hbx⟩
      · rw [e] at hik; simp at hik
      · rw [e]
        refine idx0 hik ?_
        have hXc : X c := hXj k hkl c (by rw [e]; rfl)
        have hcw' : c < w.size := hcw k hkl c (by rw [e]; rfl)
        refine hbx.put' hp.mem (by omega) (by rw [cellsOfBytes_length]; simp; omega) fun w27 c27 b27 z27 => ?_
        rw [bytes_set _ _ _ hik] at b27
        refine ih2 ((ss k).length - (i + 1)) (by omega) _ _ ⟨i + 1, fun j => if j = k then (t k).set i (mk k i) else t j, by omega, rfl, by rw [wi_eq (by omega) (by omega)]; rfl, hp.put c27 hXc (fun e' => hne k hkl (by rw [e, e']; rfl)) (by omega), fun j hj => ?_, fun j hj => ?_, fun j i' hj hi' hji => ?_⟩
        · by_cases hjk : j = k
          · subst hjk
            simp only [if_true]
            exact .inr ⟨c, ex, by rw [e, List.length_set], hex, hc1, b27⟩
          · simp only [if_neg hjk]
            exact (hb j hj).ch1 hp.mem c27 (hd k j hkl hj (Ne.symm hjk) c (by rw [e]; rfl))
        · by_cases hjk : j = k
          · subst hjk; simp only [if_true, List.length_set]; exact htl
          · simp only [if_neg hjk]; exact hlen j hj
        · by_cases hjk : j = k
          · subst hjk
            simp only [if_true] at hi' ⊢
            rw [List.length_set] at hi'
            rw [List.getElem?_set]
            by_cases hii : i = i'
            · subst hii; rw [if_pos rfl, if_pos hik]
            · rw [if_neg hii]; exact hmk j i' hj hi' (by omega)
          · simp only [if_neg hjk] at hi' ⊢
            exact hmk j i' hj hi' (by omega)
    · refine ih (vs.length - (k + 1)) (by omega) _ _ ⟨k + 1, t, by omega, rfl, by rw [wi_eq (by omega) (by omega)]; rfl, hp, hb, hlen, fun j i' hj hi' hji => hmk j i' hj hi' ?_⟩
      by_cases hjk : j = k
      · subst hjk; exact .inr ⟨rfl, by omega⟩
      · exact .inl (by omega)
  have hkv : k = vs.length := by omega
  subst hkv
  clear ih R
  have hall : ∀ j i, j < vs.length → i < (t j).length → (t j)[i]? = some (mk j i) := fun j i hj hi => hmk j i hj hi (.inl hj)
  -- the growing
  have hinv : Ph X w bl vs (List.replicate vs.length .nilslice) w8 := hp
  refine loopP_ind (fun m l w30 => ∃ (k : Nat) (gl : List AV), k ≤ vs.length ∧ m = vs.length - k ∧ l = [.int .i64 k] ∧ Ph X w bl vs gl w30 ∧ gl.length = vs.length ∧ (∀ j (hj : j < vs.length), RsB w30 vs[j] (t j)) ∧ (∀ j (hj : j < vs.length), k ≤ j → Gw X w30 vs[j] (t j))
      ∧ ∀ j, j < k → ∃ g, gl[j]? = some g ∧ Gw X w30 g (grown (t j) j 40) ∧ ∀ c, blk g = some c → w.size < c) ?_
    ⟨0, _, Nat.zero_le _, rfl, rfl, hp, by simp, fun j hj => (hb j hj).rs, fun j hj _ => Gw.of (hb j hj) (hXj j hj), fun j hj => absurd hj (Nat.not_lt_zero _)⟩
  rintro m l w30 ⟨k, gl, hk, rfl, rfl, hp, hgl, hr, hgw, hdone⟩ R ih
  have hps30 := hp.size
  refine ⟨_, rfl, fun _ => ⟨_, rfl, ifT_d (fun hc => ?_) fun hc => ?_⟩⟩
  · have hkl : k < vs.length := by omega
    have hll := hl k hkl
    have htl := hlen k hkl
    refine idx0 hkl (onM_s (v := vs[k]) (by rw [hp.bl.ld]; simp) ?_)
    refine loopP_ind (fun m l w38 => ∃ (g : AV) (j : Nat), j ≤ 40 ∧ m = 40 - j ∧ l = [g, .int .i64 j] ∧ w30.size ≤ w38.size ∧ Ph X w bl vs gl w38 ∧ (∀ j (hj : j < vs.length), RsB w38 vs[j] (t j)) ∧ (∀ j (hj : j < vs.length), k < j → Gw X w38 vs[j] (t j))
        ∧ (∀ j, j < k → ∃ g, gl[j]? = some g ∧ Gw X w38 g (grown (t j) j 40) ∧ ∀ c, blk g = some c → w.size < c ∧ c < w30.size) ∧ Gw X w38 g (grown (t k) k j) ∧ (g = vs[k] ∧ j = 0 ∨ ∀ c, blk g = some c → w30.size ≤ c)) ?_
      ⟨vs[k], 0, by omega, rfl, rfl, Nat.le_refl _, hp, hr, fun j hj h => hgw j hj (by omega), fun j hj => let ⟨g, a, b, c⟩ := hdone j hj; ⟨g, a, b, fun x hx => ⟨c x hx, b.lt hp.mem hx⟩⟩, by simpa [grown] using hgw k hkl (Nat.le_refl _), .inl ⟨rfl, rfl⟩⟩
    rintro m l w38 ⟨g, j, hj, rfl, rfl, hsz, hp, hr, hgw, hdone, hg, hgb⟩ R2 ih2
    have hps := hp.size
    have hg1 : blk g ≠ some bl := fun e => by
      rcases hgb with ⟨rfl, _⟩ | h
      · exact hne k hkl e
      · have := h _ e; omega
    have hg2 : blk g ≠ some w.size := fun e => by
      rcases hgb with ⟨rfl, _⟩ | h
      · have := hcw k hkl _ e; omega
      · have := h _ e; omega
    refine ⟨_, _, rfl, fun _ => ifT_d (fun hc2 => ?_) fun hc2 => ?_⟩
    · refine idx0 hkl (onM_s (v := vs[k]) (by rw [hp.bl.ld]; simp) ⟨_, (hr k hkl).len, ?_⟩)
      rw [wi_eq (by omega) (by omega)]
      refine s55 hh ⟨_, rfl, new_of hp.mem fun w49 f49 b49 z49 => ?_⟩
      have hp49 := hp.fr f49
      refine Gw.app (x := mk k ((t k).length + j)) (hg.fr hp.mem f49) f49.mem (by omega) b49 (fun f hf => hXn f (by omega)) (by rw [grown_length]; omega) fun g' w51 hg' hgb' hgr => ?_
      refine ih2 (40 - (j + 1)) (by omega) _ _ ⟨g', j + 1, by omega, rfl, by rw [wi_eq (by omega) (by omega)]; rfl, by have := hgr.size; omega, hp49.gr hgr hg1 hg2, fun j hj => hgr.rs ((hr j hj).fr hp.mem f49 (Nat.le_refl _)), fun j' hj' hlt => hgr.gw _ _ ((hgw j' hj' hlt).fr hp.mem f49) fun c hc => ?_, fun j' hj' => ?_, ?_, .inr fun c hc => ?_⟩
      · rcases hgb with ⟨rfl, _⟩ | h
        · exact hd j' k hj' hkl (by omega) c hc
        · intro e
          have := h _ e
          have := hcw j' hj' c hc
          omega
      · obtain ⟨g2, a1, a2, a3⟩ := hdone j' hj'
        refine ⟨g2, a1, hgr.gw _ _ (a2.fr hp.mem f49) fun c hc => ?_, a3⟩
        have := a3 c hc
        rcases hgb with ⟨rfl, _⟩ | h
        · intro e; have := hcw k hkl _ e; omega
        · intro e; have := h _ e; omega
      · have e : grown (t k) k (j + 1) = grown (t k) k j ++ [mk k ((t k).length + j)] := by
          simp [grown, List.range_succ]
        rw [e]; exact hg'
      · rw [hgb'] at hc; cases hc; omega
    · have hj40 : j = 40 := by omega
      subst hj40
      refine idx0 (by omega) (gd_t hg.ok (hp.gs.put' hp.mem (by omega) (by simp; omega) fun w54 c54 b54 z54 => ?_))
      have hnw : ∀ j (hj : j < vs.length), blk vs[j] ≠ some w.size := fun j hj e => by have := hcw j hj _ e; omega
      have hput : listPut gl k [g] = gl.set k g := by
        rw [List.set_eq_take_append_cons_drop, if_pos (by omega)]; simp [listPut]
      rw [hput] at b54
      refine ih (vs.length - (k + 1)) (by omega) _ _ ⟨k + 1, gl.set k g, by omega, rfl, by rw [wi_eq (by omega) (by omega)]; rfl, hp.gput c54 (by omega) b54, by simp [hgl], fun j hj => (hr j hj).box hp.mem c54 hp.gs b54 (hnw j hj), fun j hj h => (hgw j hj (by omega)).box hp.mem c54 hp.gs (hnw j hj), fun j hj => ?_⟩
      by_cases hjk : j = k
      · subst hjk
        refine ⟨g, by rw [List.getElem?_set_self (by omega)], hg.box hp.mem c54 hp.gs hg2, fun c hc => ?_⟩
        rcases hgb with ⟨_, h⟩ | h
        · cases h
        · have := h c hc; omega
      · obtain ⟨g2, a1, a2, a3⟩ := hdone j (by omega)
        exact ⟨g2, by rw [List.getElem?_set_ne (Ne.symm hjk)]; exact a1, a2.box hp.mem c54 hp.gs (fun e => by have := a3 _ e; omega), fun c hc => (a3 c hc).1⟩
  have hkv : k = vs.length := by omega
  subst hkv
  clear ih R
  -- the looking
  have hps := hp.size
  refine loopP_ind (fun m l w57 => ∃ k : Nat, k ≤ vs.length ∧ m = vs.length - k ∧ l = [.int .i64 k] ∧ w57 = w30) ?_ ⟨0, Nat.zero_le _, rfl, rfl, rfl⟩
  rintro m l w57 ⟨k, hk, rfl, rfl, rfl⟩ R ih
  refine ⟨_, rfl, fun _ => ⟨_, rfl, ifT_d (fun hc => ?_) fun hc => hK _ (by omega) hp.mem fun b hb hx => hp.old b hb fun h => ?_⟩⟩
  · have hkl : k < vs.length := by omega
    have hll := hl k hkl
    have htl := hlen k hkl
    obtain ⟨g, a1, a2, a3⟩ := hdone k hkl
    have hgr := a2.rs
    have hgl' := grown_length (t k) k 40
    refine loopP_ind (fun m l w62 => ∃ i : Nat, i ≤ (t k).length + 40 ∧ m = (t k).length + 40 - i ∧ l = [.int .i64 i] ∧ w62 = w57) ?_ ⟨0, Nat.zero_le _, rfl, rfl, rfl⟩
    rintro m l w62 ⟨i, hi, rfl, rfl, rfl⟩ R2 ih2
    refine ⟨_, rfl, fun _ => ?_⟩
    refine idx0 hkl (onM_s (v := g) (by rw [hp.gs.ld]; exact a1) ⟨_, hgr.len, ?_⟩)
    rw [hgl']
    refine ifT_d (fun hc2 => ?_) fun hc2 => ih (vs.length - (k + 1)) (by omega) _ _ ⟨k + 1, by omega, rfl, by rw [wi_eq (by omega) (by omega)]; rfl, rfl⟩
    have hig : i < (grown (t k) k 40).length := by omega
    have hgi : (grown (t k) k 40)[i] = mk k i := by
      have := grown_get (t := t k) (k := k) (m := 40) (i := i) (fun i hi => hall k i hkl hi) (by omega)
      rw [List.getElem?_eq_getElem hig] at this
      exact Option.some.inj this
    refine idx0 hkl (onM_s (v := g) (by rw [hp.gs.ld]; exact a1) ?_)
    refine hgr.at hig fun bb oo hld => ?_
    rw [hgi] at hld
    refine ⟨_, hld, s55 hh ⟨_, rfl, hld, by rw [hp.gs.ld]; exact a1, ifT_nd (fun h => absurd rfl h) fun _ => ?_⟩⟩
    refine idx0 hkl (onM_s (v := vs[k]) (by rw [hp.bl.ld]; simp) ⟨_, (hr k hkl).len, ifT_d (fun hc3 => ?_) fun hc3 => ?_⟩)
    · refine idx0 hkl (onM_s (v := vs[k]) (by rw [hp.bl.ld]; simp) ?_)
      have hik : i < (t k).length := by omega
      have hti : (t k)[i] = mk k i := by
        have := hall k i hkl hik
        rw [List.getElem?_eq_getElem hik] at this
        exact Option.some.inj this
      refine (hr k hkl).at hik fun bb oo hld => ?_
      rw [hti] at hld
      refine ⟨_, hld, s55 hh ⟨_, rfl, hld, by rw [hp.bl.ld]; simp, ifT_nd (fun h => absurd rfl h) fun _ => ?_⟩⟩
      exact ih2 ((t k).length + 40 - (i + 1)) (by omega) _ _ ⟨i + 1, by omega, rfl, by rw [wi_eq (by omega) (by omega)]; rfl, rfl⟩
    · exact ih2 ((t k).length + 40 - (i + 1)) (by omega) _ _ ⟨i + 1, by omega, rfl, by rw [wi_eq (by omega) (by omega)]; rfl, rfl⟩
  · rcases h with ⟨j, hj, e⟩ | h
    · exact hx j hj e
    · omega
end Go.Proofs.YthpjoogmmjikmaaGreatDoor
