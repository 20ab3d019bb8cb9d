/-
  What the functions of this chapter do.
  No condition beyond those that each theorem names.
-/
import Derived.Test.YtcmkgjaclhpafaaB22
open Go.Sx
set_option linter.unusedVariables false
namespace Go.Proofs.Ytcmkgjaclhpafaa

theorem asN_nat (k : Nat) : asN (.int .i64 (k : Int)) = some k := rfl
theorem acc_from {n0 : Nat} {w : AW} {sz : Nat} {v : AV} {cs : List AV} (h : Acc n0 w sz v cs) (hs : 0 < sz) {k : Nat} (hk : k * sz ≤ cs.length) : ∃ v', slS sz v (some (.int .i64 (k : Int))) none none = some v' ∧ Rs w sz (cs.length / sz - k) v' (cs.drop (k * sz)) := by
  rcases h with ⟨rfl, rfl⟩ | ⟨b, f, n, o, d, rfl, h1, hn, h2, h3, h4, h5⟩
  · have : k = 0 := by
      cases k with
      | zero => rfl
      | succ k => rw [Nat.add_mul] at hk; simp at hk; omega
    subst this
    exact ⟨.nilslice, rfl, by simpa using Rs.nil⟩
  · have hcells : w.cells? b = some cs := AW.cells?_iff.2 ⟨(f, b, false), o, d, AW.fam?_iff.2 ⟨cs, o, d, h4, h5⟩, .inr rfl, h4⟩
    have hdiv : cs.length / sz = n := by rw [← h1]; exact Nat.mul_div_cancel _ hs
    have hkn : k ≤ n := Nat.le_of_mul_le_mul_right (by rw [h1]; exact hk) hs
    refine ⟨.slice b (0 + k * sz) (n - k) (n - k) (some sz), ?_, .inr ⟨b, 0 + k * sz, n - k, some sz, cs, by rw [hdiv], hcells, ?_, ?_⟩⟩
    · have e1 : Nat.ble k n = true := by rw [Nat.ble_eq]; exact hkn
      simp only [slS, boundA, Option.bind_some, asN_nat, okB, e1, Nat.ble_eq_true_of_le (Nat.le_refl n), okEx, Nat.beq_refl, guardO]
      rfl
    · rw [hdiv, Nat.sub_mul, h1]; omega
    · rw [hdiv, Nat.zero_add, Nat.sub_mul, h1, List.take_of_length_le (by simp)]
theorem acc_to {n0 : Nat} {w : AW} {sz : Nat} {v : AV} {cs : List AV} (h : Acc n0 w sz v cs) (hs : 0 < sz) {k : Nat} (hk : k * sz ≤ cs.length) : ∃ v', slS sz v none (some (.int .i64 (k : Int))) none = some v' ∧ Rs w sz k v' (cs.take (k * sz)) := by
  rcases h with ⟨rfl, rfl⟩ | ⟨b, f, n, o, d, rfl, h1, hn, h2, h3, h4, h5⟩
  · have : k = 0 := by
      cases k with
      | zero => rfl
      | succ k => rw [Nat.add_mul] at hk; simp at hk; omega
    subst this
    exact ⟨.nilslice, rfl, by simpa using Rs.nil⟩
  · have hcells : w.cells? b = some cs := AW.cells?_iff.2 ⟨(f, b, false), o, d, AW.fam?_iff.2 ⟨cs, o, d, h4, h5⟩, .inr rfl, h4⟩
    have hkn : k ≤ n := Nat.le_of_mul_le_mul_right (by rw [h1]; exact hk) hs
    refine ⟨.slice b (0 + 0 * sz) (k - 0) (n - 0) (some sz), ?_, .inr ⟨b, 0 + 0 * sz, n - 0, some sz, cs, by simp, hcells, ?_, ?_⟩⟩
    · have e1 : Nat.ble k n = true := by rw [Nat.ble_eq]; exact hkn
      simp only [slS, boundA, Option.bind_some, asN_nat, okB, e1, Nat.ble_eq_true_of_le (Nat.le_refl n), Nat.ble_eq_true_of_le (Nat.zero_le k), okEx, Nat.beq_refl, guardO]
      rfl
    · simp; omega
    · simp

def ent (ts : List Int) : List AV := ts.flatMap fun t => [.int .i64 t, .nilslice]
theorem ent_length (ts : List Int) : (ent ts).length = ts.length * 2 := by
  unfold ent
  induction ts with
  | nil => rfl
  | cons t ts ih => simp only [List.flatMap_cons, List.length_append, ih, List.length_cons]; simp; omega
theorem ent_get : ∀ (ts : List Int) (i : Nat), i < ts.length → (ent ts)[i * 2 + 0]? = some (.int .i64 (ts.getD i 0))
  | [], i, h => by simp at h
  | t :: ts, 0, _ => rfl
  | t :: ts, i + 1, h => by
    have := ent_get ts i (by simpa using h)
    unfold ent at this ⊢
    rw [List.flatMap_cons, List.getElem?_append_right (by simp; omega)]
    simp only [List.length_cons, List.length_nil]
    rw [show (i + 1) * 2 + 0 - (0 + 1 + 1) = i * 2 + 0 by omega, this]
    simp
theorem accE {n0 : Nat} {w : AW} {v : AV} {ts : List Int} (h : Acc n0 w 2 v (ent ts)) : RsE w v ts :=
  ⟨ent ts, by have := h.rs (by decide); rw [ent_length, Nat.mul_div_cancel _ (by decide)] at this; exact this, fun i hi => ent_get ts i hi⟩

theorem cnt_ge {l : List Int} {r i : Int} (h : i ≤ r) : cnt r l ≤ cnt i l := cnt_mono h l

/-- CommitHas. -/
theorem s5 {hk : Hook} {w : AW} {now term turn : Int} {vs vm : AV} {steps match' : List Int} (hh : HK hk) (hm : Mem w) (hw : 0 < w.size) (hst : RsI w vs steps) (hmt : RsI w vm match') :
    Cl Try.prog hk 5 [.int .i64 now, vs, .int .i64 term, vm, .int .i64 turn] w fun r _ => r = .bool true := by
  apply in5 (hh.no _ _ _ (by decide) (by decide))
  unfold F5
  refine ⟨_, hmt.len, ifT_d (fun _ => Cl_hook (hh.awake _) ⟨_, rfl, rfl⟩) fun h0 => ⟨_, hmt.len, ifT_d (fun _ => Cl_hook (hh.awake _) ⟨_, rfl, rfl⟩) fun h9 => ?_⟩⟩
  have hml : 0 < match'.length ∧ match'.length ≤ 9 := by omega
  refine join_of (fun lv w' => ∃ (v : AV) (ts : List Int) (t : Int), lv = [v, .int .i64 t] ∧ Fr w.size w w' ∧ Acc w.size w' 2 v (ent ts) ∧ ts.length ≤ 40 ∧ 0 ≤ t ∧ t ≤ 40) ?_ ?_
  · rintro lv w1 ⟨v, ts, t, rfl, f1, a1, hts, ht0, ht1⟩
    refine ⟨_, _, rfl, fun _ => ⟨_, (accE a1).len, ?_⟩⟩
    have hle1 := accE a1
    have hmt1 := hmt.fr hm f1 (Nat.le_refl _)
    have hsz1 := f1.size
    rw [wi_eq (by omega) (by omega)]
    refine s11 (hh.no _ _ _ (by decide) (by decide)) (by omega) ⟨_, rfl, ?_⟩
    rw [wi_eq (by omega) (by omega)]
    refine s11 (hh.no _ _ _ (by decide) (by decide)) (by omega) ⟨_, rfl, ?_⟩
    have hp1 := pick_range (x := now) (n := (ts.length : Int) + 1) (by omega)
    have hp2 := pick_range (x := term) (n := t + 2) (by omega)
    rw [show (if (ts.length : Int) + 1 ≤ 0 then 0 else now % ((ts.length : Int) + 1)) = pick now ((ts.length : Int) + 1) from rfl, show (if t + 2 ≤ 0 then 0 else term % (t + 2)) = pick term (t + 2) from rfl]
    generalize pick now ((ts.length : Int) + 1) = now' at *
    generalize pick term (t + 2) = term' at *
    -- m
    refine loopP_ind (fun m lv w' => ∃ (k : Nat) (a : AV), k ≤ match'.length ∧ m = match'.length - k ∧ lv = [a, .int .i64 k] ∧ Fr w1.size w1 w' ∧ Acc w1.size w' 1 a (((match'.take k).map fun x => pick x (ts.length + 1)).map (AV.int .i64)) ∧ RsE w' v ts) ?_ ⟨0, .nilslice, Nat.zero_le _, rfl, rfl, Fr.refl f1.mem, Acc.nil, hle1⟩
    rintro m lv w2 ⟨k, a, hk, rfl, rfl, hf, ha, hle⟩ R ih
    have hmt2 := hmt1.fr f1.mem hf (Nat.le_refl _)
    have hsz2 := hf.size
    refine ⟨_, _, rfl, fun _ => ⟨_, hmt2.len, ifT_d (fun h => ?_) fun h => ?_⟩⟩
    · have h : k < match'.length := by omega
      refine hmt2.atN h fun b o hld => ⟨_, hld, _, hle.len, ?_⟩
      rw [wi_eq (by omega) (by omega)]
      refine s11 (hh.no _ _ _ (by decide) (by decide)) (by omega) ⟨_, rfl, new_of hf.mem fun y1 g1 b1 z1 => ?_⟩
      have hrs : Rs y1 1 1 (.slice w2.size 0 1 1 none) [.int .i64 (pick match'[k] (ts.length + 1))] := .inr ⟨w2.size, 0, 1, none, _, rfl, b1.cells, by simp, rfl⟩
      have hlen : (((match'.take k).map fun x => pick x (ts.length + 1)).map (AV.int .i64)).length / 1 = k := by simp; omega
      refine Acc.app (ha.fr hf.mem g1 (Nat.le_refl _)) g1.mem (by omega) (by omega) (by decide) hrs (by rw [hlen]; omega) (by rw [hlen]; omega) fun a' y2 hacc hgrow => ?_
      refine ih (match'.length - (k + 1)) (by omega) _ _ ⟨k + 1, a', h, rfl, by rw [wi_eq (by omega) (by omega)]; rfl, (hf.trans g1 (by omega)).trans hgrow.fr (Nat.le_refl _), ?_, ?_⟩
      · rw [← List.take_append_getElem h, List.map_append, List.map_append]
        exact hacc
      · obtain ⟨cs, h1, h2⟩ := hle.fr hf.mem g1 (Nat.le_refl _)
        exact ⟨cs, hgrow.rs h1, h2⟩
    · have : k = match'.length := by omega
      subst this
      rw [List.take_length] at ha
      have hrange : ∀ x ∈ (match'.map fun x => pick x ((ts.length : Int) + 1)), 0 ≤ x ∧ x ≤ ts.length := fun x hx => by
        obtain ⟨y, _, rfl⟩ := List.mem_map.1 hx
        have := pick_range (x := y) (n := (ts.length : Int) + 1) (by omega)
        omega
      have hmsl : (match'.map fun x => pick x ((ts.length : Int) + 1)).length = match'.length := by simp
      generalize (match'.map fun x => pick x ((ts.length : Int) + 1)) = ms at *
      refine ⟨_, ha.rsI.len, s11 (hh.no _ _ _ (by decide) (by decide)) (by omega) ⟨_, rfl, ?_⟩⟩
      have hp3 := pick_range (x := turn) (n := ms.length) (by omega)
      rw [show (if (ms.length : Int) ≤ 0 then 0 else turn % (ms.length : Int)) = pick turn ms.length from rfl]
      obtain ⟨j, hj⟩ := Int.eq_ofNat_of_zero_le hp3.1
      rw [hj] at hp3 ⊢
      have hjl : j < ms.length := by omega
      have hcl : (ms.map (AV.int .i64)).length = ms.length := by simp
      obtain ⟨v1, e1, r1⟩ := acc_from ha (by decide) (k := j) (by rw [hcl]; omega)
      refine onM_s e1 ?_
      rw [hcl, Nat.div_one, Nat.mul_one, ← List.map_drop] at r1
      refine Acc.app (n0 := w2.size) Acc.nil hf.mem (Nat.le_refl _) (by omega) (by decide) r1 (by simp; omega) (by simp; omega) fun u1 w3 au1 gr1 => ?_
      rw [List.nil_append] at au1
      have ha3 : Acc w1.size w3 1 a (ms.map (AV.int .i64)) := ha.fr hf.mem gr1.fr (Nat.le_refl _)
      have hle3 : RsE w3 v ts := hle.fr hf.mem gr1.fr (Nat.le_refl _)
      obtain ⟨v2, e2, r2⟩ := acc_to ha3 (by decide) (k := j) (by rw [hcl]; omega)
      refine onM_s e2 ?_
      rw [Nat.mul_one, ← List.map_take] at r2
      have hsz3 := gr1.fr.size
      have hl1 : ((ms.drop j).map (AV.int .i64)).length / 1 = ms.length - j := by simp
      refine Acc.app au1 gr1.fr.mem (by omega) (by omega) (by decide) r2 (by rw [hl1]; omega) (by rw [hl1]; omega) fun u2 w4 au2 gr2 => ?_
      have hle4 : RsE w4 v ts := by obtain ⟨cs, h1, h2⟩ := hle3; exact ⟨cs, gr2.rs h1, h2⟩
      have hms4 : RsI w4 a ms := gr2.rs (ha3.rsI)
      rw [← List.map_append] at au2
      have htn4 : RsI w4 u2 (ms.drop j ++ ms.take j) := au2.rsI
      have hperm : (ms.drop j ++ ms.take j).Perm ms := List.perm_append_comm.trans (by rw [List.take_append_drop])
      have hm4 := gr2.fr.mem
      have hr64 : ∀ x ∈ ms, -9223372036854775808 ≤ x ∧ x < 9223372036854775808 := fun x hx => by have := hrange x hx; omega
      generalize ms.drop j ++ ms.take j = tn at *
      have htl := hperm.length_eq
      -- both ways
      refine s8 hh hm4 hle4 hms4 (by omega) (by omega) (by omega) (by omega) (by omega) hr64 fun r n w5 hr hn f5 => ⟨_, rfl, ?_⟩
      have hnn : now' ≤ n := by
        rcases hn with ⟨h, _⟩ | ⟨h, _⟩
        · omega
        · have := h.1; omega
      refine ifT_d (fun h => absurd hnn (by omega)) fun _ => ?_
      have hle5 := hle4.fr hm4 f5 (Nat.le_refl _)
      have hms5 := hms4.fr hm4 f5 (Nat.le_refl _)
      have htn5 := htn4.fr hm4 f5 (Nat.le_refl _)
      refine s8 hh f5.mem hle5 htn5 (by omega) (by omega) (by omega) (by omega) (by omega) (fun x hx => hr64 x (hperm.mem_iff.1 hx)) fun r2 n2 w6 hr2 hn2 f6 => ⟨_, rfl, ?_⟩
      have hrr : r2 = r := (hr2.perm hperm).uniq hr
      subst hrr
      refine ifT_nd (fun h => absurd (hn.uniq hn2) h) fun _ => ?_
      have hle6 := hle5.fr f5.mem f6 (Nat.le_refl _)
      have hms6 := hms5.fr f5.mem f6 (Nat.le_refl _)
      have htn6 := htn5.fr f5.mem f6 (Nat.le_refl _)
      refine s7 hh f6.mem hms6 (by omega) fun r3 w7 hr3 f7 => ⟨_, rfl, ?_⟩
      refine s7 hh f7.mem (htn6.fr f6.mem f7 (Nat.le_refl _)) (by omega) fun r4 w8 hr4 f8 => ⟨_, rfl, ifT_nd (fun h => absurd (hr3.uniq (hr4.perm hperm)) h) fun _ => ?_⟩
      have hle8 := (hle6.fr f6.mem f7 (Nat.le_refl _)).fr f7.mem f8 (Nat.le_refl _)
      have hms8 := (hms6.fr f6.mem f7 (Nat.le_refl _)).fr f7.mem f8 (Nat.le_refl _)
      have hm8 := f8.mem
      rw [wi_eq (by omega) (by omega)]
      -- all indices
      refine loopP_ind (fun m lv w' => w' = w8 ∧ ∃ i : Nat, m = 50 - i ∧ lv = [.int .i64 i] ∧ now' < i ∧ i ≤ ts.length + 1) ?_ (n := 50 - (now' + 1).toNat) ⟨rfl, (now' + 1).toNat, rfl, by congr 2; omega, by omega, by omega⟩
      rintro m lv w9 ⟨rfl, i, rfl, rfl, hi1, hi2⟩ R ih
      refine ⟨_, rfl, fun _ => ⟨_, hle8.len, ifT_d (fun h => ?_) fun h => Cl_hook (hh.awake _) ⟨_, rfl, rfl⟩⟩⟩
      have hil : i ≤ ts.length := by omega
      refine loopP_ind (fun m lv w' => w' = w9 ∧ ∃ q : Nat, q ≤ ms.length ∧ m = ms.length - q ∧ lv = [.int .i64 (cnt i (ms.take q)), .int .i64 q]) ?_ ⟨rfl, 0, Nat.zero_le _, rfl, rfl⟩
      rintro m lv w10 ⟨rfl, q, hq, rfl, rfl⟩ R2 ih2
      have hc := cnt_le i (ms.take q)
      simp at hc
      refine ⟨_, _, rfl, fun _ => ⟨_, hms8.len, ifT_d (fun h2 => ?_) fun h2 => ?_⟩⟩
      · have h2 : q < ms.length := by omega
        have hstep := cnt_snoc i ms[q] (ms.take q)
        rw [← take_snoc h2] at hstep
        refine hms8.atN h2 fun b o hld => ⟨_, hld, ifT_d (fun h3 => ?_) fun h3 => ?_⟩
        all_goals
          refine ih2 (ms.length - (q + 1)) (by omega) _ _ ⟨rfl, q + 1, h2, rfl, ?_⟩
          rw [hstep]
          simp only [h3, if_true, if_false]
          simp
        · rw [wi_eq (by omega) (by omega), wi_eq (by omega) (by omega)]; exact ⟨rfl, rfl⟩
        · rw [wi_eq (by omega) (by omega)]
      · have : q = ms.length := by omega
        subst this
        rw [List.take_length] at hc ⊢
        have hc2 := cnt_le i ms
        have next : R [.int .i64 (wi ((i : Int) + 1))] w10 := ih (50 - (i + 1)) (by omega) _ _ ⟨rfl, i + 1, rfl, by rw [wi_eq (by omega) (by omega)]; rfl, by omega, by omega⟩
        have hterm : (termAt 0 0 ts i).1 = ts.getD (i - 1) 0 := by
          unfold termAt
          rw [if_neg (by omega), if_neg (by omega)]
          simp only []
          congr 1; omega
        -- what is so of i
        have may : ∀ b : Bool, (b = true → ms.length < 2 * cnt i ms ∧ ts.getD (i - 1) 0 = term') → (b = false → ¬ (ms.length < 2 * cnt i ms ∧ ts.getD (i - 1) 0 = term')) →
            (b = true → (i : Int) ≤ n) ∧ ((i : Int) = n → b = true) := fun b hb1 hb2 => by
          refine ⟨fun hb => ?_, fun e => ?_⟩
          · obtain ⟨g1, g2⟩ := hb1 hb
            have hS : SetS now' term' 0 0 ts r2 i := ⟨hi1, hr.ge g1, by omega, by omega, by rw [hterm]; exact g2⟩
            rcases hn with ⟨_, h⟩ | ⟨_, h⟩
            · exact absurd hS (h _)
            · exact h _ hS
          · cases b with
            | true => rfl
            | false =>
              exfalso
              apply hb2 rfl
              rcases hn with ⟨h, _⟩ | ⟨h, _⟩
              · omega
              · have h3 := h.2.1
                have h4 := h.2.2.2.2
                rw [← e] at h3 h4
                rw [hterm] at h4
                refine ⟨?_, h4⟩
                rcases hr with ⟨hnil, _⟩ | ⟨_, hmaj, _⟩
                · rw [hnil] at htl hmsl; simp at hmsl; omega
                · have := cnt_ge (l := ms) h3; omega
        refine join_of (fun lv w' => w' = w10 ∧ ∃ b : Bool, lv = [.bool b] ∧ (b = true → (i : Int) ≤ n) ∧ ((i : Int) = n → b = true)) ?_ fun J hJ => ?_
        · rintro lv w11 ⟨rfl, b, rfl, g1, g2⟩
          refine ⟨_, rfl, fun _ => ?_⟩
          cases b with
          | true =>
            refine ifT_t (ifT_d (fun h => absurd (g1 rfl) (by omega)) fun _ => ifT_d (fun _ => ifT_f next) fun _ => next)
          | false =>
            refine ifT_f (ifT_d (fun h => absurd (g2 h) (by simp)) fun _ => next)
        · refine ⟨_, hms8.len, ?_⟩
          rw [wi_eq (by omega) (by omega)]
          refine ifT_d (fun h3 => ?_) fun h3 => ?_
          · obtain ⟨i', rfl⟩ : ∃ i', i = i' + 1 := ⟨i - 1, by omega⟩
            rw [show wi (((i' + 1 : Nat) : Int) - 1) = (i' : Int) by rw [wi_eq (by omega) (by omega)]; omega]
            refine hle8.at (by omega) fun b o hld => ⟨_, hld, hJ _ _ ⟨rfl, _, rfl, may _ (fun h => ⟨by omega, by simpa using h⟩) fun h h' => ?_⟩⟩
            have : ts.getD i' 0 ≠ term' := by simpa using h
            exact this (by simpa using h'.2)
          · exact hJ _ _ ⟨rfl, false, rfl, may false (by simp) fun _ h' => h3 (by have := h'.1; omega)⟩
  · -- the log
    intro J hJ
    refine loopP_ind (fun m lv w' => ∃ (i : Nat) (v : AV) (ts : List Int) (t : Int), i ≤ 40 ∧ i ≤ steps.length ∧ m = 40 - i ∧ lv = [v, .int .i64 t, .int .i64 i] ∧ Fr w.size w w' ∧ Acc w.size w' 2 v (ent ts) ∧ ts.length = i ∧ 0 ≤ t ∧ t ≤ i) ?_
      ⟨0, .nilslice, [], 0, by omega, by omega, rfl, rfl, Fr.refl hm, Acc.nil, rfl, by omega, by omega⟩
    rintro m lv w' ⟨i, v, ts, t, hi, his, rfl, rfl, hf, ha, hts, ht0, ht1⟩ R ih
    have hst' := hst.fr hm hf (Nat.le_refl _)
    have hsz := hf.size
    have stop : J [v, .int .i64 t] w' := hJ _ _ ⟨v, ts, t, rfl, hf, ha, by omega, ht0, by omega⟩
    refine ⟨_, _, _, rfl, fun _ => ⟨_, hst'.len, ifT_d (fun h => ifT_d (fun h40 => ?_) fun _ => stop) fun _ => stop⟩⟩
    have h : i < steps.length := by omega
    refine hst'.atN h fun b o hld => ⟨_, hld, s11 (hh.no _ _ _ (by decide) (by decide)) (by decide) ⟨_, rfl, ?_⟩⟩
    rw [show (if (5 : Int) ≤ 0 then 0 else steps[i] % 5) = pick steps[i] 5 from rfl]
    have hp := pick_range (x := steps[i]) (n := 5) (by decide)
    generalize pick steps[i] 5 = p at *
    have hd : 0 ≤ Int.tdiv p 3 ∧ Int.tdiv p 3 ≤ 1 := by rw [Int.tdiv_eq_ediv_of_nonneg hp.1]; omega
    rw [wi_eq (x := Int.tdiv p 3) (by omega) (by omega), wi_eq (x := t + Int.tdiv p 3) (by omega) (by omega)]
    unfold be
    refine new_of hf.mem fun y1 g1 b1 z1 => ?_
    have hrs : Rs y1 2 1 (.slice w'.size 0 1 1 none) [.int .i64 (t + Int.tdiv p 3), .nilslice] := .inr ⟨w'.size, 0, 1, none, _, rfl, b1.cells, by simp, rfl⟩
    have hlen : (ent ts).length / 2 = i := by rw [ent_length, hts]; omega
    refine Acc.app (ha.fr hf.mem g1 (Nat.le_refl _)) g1.mem (by omega) (by omega) (by decide) hrs (by rw [hlen]; omega) (by rw [hlen]; omega) fun a' y2 hacc hgrow => ?_
    refine ih (40 - (i + 1)) (by omega) _ _ ⟨i + 1, a', ts ++ [t + Int.tdiv p 3], t + Int.tdiv p 3, by omega, by omega, rfl, by rw [wi_eq (by omega) (by omega)]; rfl, (hf.trans g1 (by omega)).trans hgrow.fr (Nat.le_refl _), ?_, by simp [hts], by omega, by omega⟩
    unfold ent at hacc ⊢
    rw [List.flatMap_append]
    exact hacc
end Go.Proofs.Ytcmkgjaclhpafaa
