/-
  NetSent walks.
  No condition beyond those that each theorem names.
-/
import Derived.Test.YtingojpcdpelaaaT12
set_option linter.unusedSimpArgs false
open Go.Sx
set_option linter.unusedVariables false
namespace Go.Proofs.Ytingojpcdpelaaa

theorem NP.idle {N : List Pk} {L S : Nat} {ow l : List Int} {n : Nat} {lost dlv : Int} (h : NP N L S ow l n lost dlv) (hn : n < 100) : NP N L S ow l (n + 1) lost dlv := by
  obtain ⟨k1, k2, k3, k4, k5, k6, k7⟩ := h.cnt
  exact ⟨h.owl, h.ls, h.pk, h.c1, h.c2, fun y hy => by have := h.small y hy; omega, by omega, by omega, by omega, by omega, by omega, by omega, by omega⟩
/-- NetSent. -/
theorem s4 {hk : Hook} {w : AW} {vo : AV} {work : List Int} (hh : HK hk) (hm : Mem w) (hw : 0 < w.size) (hwk : RsI w vo work) :
    Cl Try.prog hk 4 [vo] w fun r _ => r = .bool true := by
  apply in4 (hh.no _ _ _ (by decide) (by decide))
  unfold F4
  refine s9 (n0 := w.size) hh hm hw (Nat.le_refl _) fun b r w2 hb hr f2 hN2 => ?_
  have hs2 := f2.size
  have hbl2 := hN2.lt f2.mem
  refine new_of f2.mem fun w4 f4 b4 z4 => b4.put' f4.mem (by omega) (by simp) fun w5 c5 b5 z5 => gd_t rfl (new_of c5.mem fun w7 f7 b7 z7 => new_of f7.mem fun w9 f9 b9 z9 => ?_)
  rw [repl_eq] at b7
  refine b9.put' f9.mem (by omega) (by simp) fun w10 c10 b10 z10 => ?_
  rw [show w5.size = w2.size + 1 by omega] at *
  rw [show w7.size = w2.size + 2 by omega] at *
  have b5 : Box w5 w2.size [.int .i64 ((0 : Nat) : Int)] := b5
  have b10 : Box w10 (w2.size + 2) [.slice (w2.size + 1) 0 400 400 none] := b10
  have f210 : Fr w2.size w2 w10 := by
    have t1 : Fr w2.size w4 w5 := c5.fr (n := w2.size) (by omega) (by simp)
    have t2 : Fr w2.size w9 w10 := c10.fr (n := w2.size) (by omega) (by simp)
    exact (((f4.trans t1 (Nat.le_refl _)).trans f7 (by omega)).trans f9 (by omega)).trans t2 (Nat.le_refl _)
  have hM0 : NM w w2.size b r w10 [] 0 0 (List.replicate 400 0) .nilslice [] := by
    refine ⟨c10.mem, by omega, ⟨hb, hr, hbl2.1, hbl2.2, hw⟩, fun c hc => (f210.old c (by omega)).trans (f2.old c hc), hN2.fr f2.mem f210, ?_, ?_, b10, Gi.nil⟩
    · exact c10.box f9.mem ((b5.fr f7 (by omega)).fr f9 (by omega)) (by simp)
    · have : (List.replicate 400 (0 : Int)).map (AV.int .i64) = List.replicate 400 (.int .i64 0) := by rw [List.map_replicate]
      rw [this]
      exact c10.box f9.mem (b7.fr f9 (by omega)) (by simp)
  have hP0 : NP [] 0 0 (List.replicate 400 0) [] 0 0 0 := ⟨List.length_replicate, rfl, fun x hx => (by cases hx), rfl, rfl, fun x hx => (by cases hx), by decide⟩
  generalize w2.size = m2 at *
  clear f210 c10 b10 b9 b7 b5 b4 hN2 z10 z9 z7 z5 z4 f9 f7 c5 f4 f2 hs2 hbl2
  refine join_of (fun lv w' => ∃ (N : List Pk) (L S : Nat) (ow l : List Int) (v : AV) (n : Nat) (lost dlv : Int), lv = [.int .i64 lost, v, .int .i64 L, .int .i64 dlv] ∧ n ≤ 100 ∧ NM w m2 b r w' N L S ow v l ∧ NP N L S ow l n lost dlv) ?_ ?_
  · -- all is delivered
    rintro lv w12 ⟨N, L, S, ow, l, v, n, lost, dlv, rfl, hn, hM, hP⟩
    obtain ⟨k1, k2, k3, k4, k5, k6, k7⟩ := hP.cnt
    refine ⟨_, _, _, _, rfl, fun _ => ?_⟩
    have hlw := hM.low
    have hsz := hM.size
    have hbody : ∀ N' : List Pk, (∀ x ∈ N', x ∈ N) → ∀ x ∈ N', x.body.length < 2 ^ 40 := fun N' h x hx => by
      obtain ⟨k, num, _, _, _, _, _, e⟩ := hP.pk x (h x hx)
      rw [e, bodyOf_length]; omega
    refine s14 hh hM.mem (by omega) hM.net (by omega) (by omega) (hbody N fun _ h => h) fun r18 w19 f19 hp19 => ?_
    have hs19 := f19.size
    have hM19 := hM.fr f19
    have hrise := hM.net.rise
    refine loopP_ind (fun m lv w22 => ∃ i : Nat, i ≤ N.length ∧ m = N.length - i ∧ lv = [.int .i64 (dlv + i), .int .i64 i] ∧ NM w m2 b r w22 (N.drop i) L S ow v l ∧ PkS w12.size w22 r18 N) ?_
      ⟨0, Nat.zero_le _, rfl, by simp, by simpa using hM19, hp19⟩
    rintro m lv w22 ⟨i, hi, rfl, rfl, hM22, hp22⟩ R ih
    have hs22 := hM22.size
    refine ⟨_, _, rfl, fun _ => ⟨_, pks_len hp22, ifT_d (fun hc => ?_) fun hc => ?_⟩⟩
    · have hil : i < N.length := by omega
      refine pks_at hp22 hil fun bb oo u hu hld hldn => ⟨_, hld, ?_⟩
      have hdr : N.drop i = N[i] :: N.drop (i + 1) := (List.getElem_cons_drop hil).symm
      have hrd : ((N.drop i).map Pk.num).Pairwise (· < ·) := hM22.net.rise
      have hlen : 0 < (N.drop i).length := by simp; omega
      have hg0 : (N.drop i)[0] = N[i] := by simp
      have hlk : look (N.drop i) N[i].num = some N[i] := by have := look_get hrd hlen; rwa [hg0] at this
      have hdl : del (N.drop i) N[i].num = N.drop (i + 1) := by
        rw [hdr] at hrd ⊢
        obtain ⟨h1, _⟩ := List.pairwise_cons.1 (show ((N[i].num :: (N.drop (i + 1)).map Pk.num)).Pairwise (· < ·) from hrd)
        unfold del
        simp only [List.filter_cons, decide_true, Bool.not_true, Bool.false_eq_true, if_false]
        rw [List.filter_eq_self]
        intro y hy
        have := h1 y.num (List.mem_map_of_mem hy)
        simp; omega
      refine s13 hh hM22.mem (by omega) hM22.net (by omega) (hbody _ fun x hx => List.mem_of_mem_drop hx) (fun h => by rw [hlk] at h; cases h) fun x hx u w30 c30 hN30 hu30 => ?_
      rw [hlk] at hx; cases hx
      rw [hdl] at hN30
      have hM30 := hM22.nt (X := [r]) (by simp) c30 hN30
      have hs30 := c30.size
      obtain ⟨k, num, e1, e2, e3, e4, e5, e6⟩ := hP.pk N[i] (List.getElem_mem hil)
      have hlow := hM.net.low N[i] (List.getElem_mem hil)
      refine ⟨_, _, _, _, _, rfl, ?_⟩
      rw [e1, e4, e5]
      rw [e6] at hu30
      refine s16 hh hM30.mem (by omega) hM30.B3 hM30.B8 hM30.B6 hP.owl (by omega) e3 e2 (by omega) hu30 fun w37 f37 => ⟨_, rfl, ifT_f ?_⟩
      have hM37 := hM30.fr f37
      have hs37 := f37.size
      refine ih (N.length - (i + 1)) (by omega) _ _ ⟨i + 1, by omega, rfl, ?_, hM37, ?_⟩
      · rw [wi_eq (by omega) (by omega), wi_eq (by omega) (by omega), Int.add_assoc]; rfl
      · refine pks_keep hp22 hM22.mem fun c h1 h2 => ?_
        rw [f37.old c (by omega)]
        exact c30.old c h2 (by simp; omega)
    · have hin : i = N.length := by omega
      subst hin
      rw [List.drop_length] at hM22
      have hrs := hM22.gi.rs
      have hll := hP.ls
      refine loopP_ind (fun m lv w41 => ∃ i : Nat, i ≤ l.length ∧ m = l.length - i ∧ lv = [.int .i64 (sumI (l.take i)), .int .i64 i] ∧ w41 = w22) ?_ ⟨0, Nat.zero_le _, rfl, by simp [sumI], rfl⟩
      rintro m lv w41 ⟨i, hi, rfl, rfl, rfl⟩ R2 ih2
      refine ⟨_, _, rfl, fun _ => ⟨_, hrs.len, ifT_d (fun hc2 => ?_) fun hc2 => ?_⟩⟩
      · have hil : i < l.length := by omega
        refine hrs.atN hil fun bb oo hld => ⟨_, hld, ih2 (l.length - (i + 1)) (by omega) _ _ ⟨i + 1, by omega, rfl, ?_, rfl⟩⟩
        have e : l.take (i + 1) = l.take i ++ [l[i]] := (List.take_append_getElem hil).symm
        have hb1 := sumI_bound n (l.take i) fun x hx => hP.small x (List.mem_of_mem_take hx)
        have hb2 := hP.small _ (List.getElem_mem hil)
        have hb3 : (((l.take i).length : Nat) : Int) * n ≤ 10000 := by
          have h1 : (l.take i).length ≤ 100 := by simp; omega
          have : (l.take i).length * n ≤ 100 * 100 := Nat.mul_le_mul h1 hn
          omega
        rw [e, sumI_snoc, wi_eq (by omega) (by omega), wi_eq (by omega) (by omega)]; rfl
      · have hil : i = l.length := by omega
        subst hil
        rw [List.take_length]
        have hc1 := hP.c1
        have hc2' := hP.c2
        refine ifT_d (fun _ => ?_) fun h => by omega
        refine s14 hh hM22.mem (by omega) hM22.net (by omega) (by omega) (by simp) fun r48 w49 f49 hp49 => ?_
        refine ⟨_, pks_len hp49, ifT_d (fun _ => ?_) fun h => absurd rfl h⟩
        refine ifT_d (fun _ => Cl_hook (hh.awake _) ⟨_, rfl, rfl⟩) fun h => absurd ?_ h
        rw [wi_eq (by omega) (by omega)]; exact hc2'
  · intro J hJ
    refine loopP_ind (fun m lv w' => ∃ (N : List Pk) (L S : Nat) (ow l : List Int) (v : AV) (n : Nat) (lost dlv : Int), lv = [.int .i64 lost, v, .int .i64 L, .int .i64 dlv, .int .i64 n] ∧ n ≤ 100 ∧ m = 100 - n ∧ NM w m2 b r w' N L S ow v l ∧ NP N L S ow l n lost dlv) ?_
      ⟨[], 0, 0, _, [], .nilslice, 0, 0, 0, rfl, by omega, rfl, hM0, hP0⟩
    rintro m lv w56 ⟨N, L, S, ow, l, v, n, lost, dlv, rfl, hn, rfl, hM, hP⟩ R ih
    obtain ⟨k1, k2, k3, k4, k5, k6, k7⟩ := hP.cnt
    have hlw := hM.low
    have hsz := hM.size
    have hwk56 := hwk.fr hm hM.fr0 (Nat.le_refl _)
    refine ⟨_, _, _, _, _, rfl, fun _ => ⟨_, hwk56.len, ifT_d (fun hc => ifT_d (fun hc2 => ?_) fun hc2 => ?_) fun hc => ?_⟩⟩
    rotate_left
    · exact hJ _ _ ⟨N, L, S, ow, l, v, n, lost, dlv, rfl, hn, hM, hP⟩
    · exact hJ _ _ ⟨N, L, S, ow, l, v, n, lost, dlv, rfl, hn, hM, hP⟩
    have hnw : n < work.length := by omega
    have hn100 : n < 100 := by omega
    refine hwk56.atN hnw fun bb oo hld => ⟨_, hld, ?_⟩
    refine s19 hh (by omega) ⟨_, rfl, ?_⟩
    obtain ⟨hq0, hq1⟩ := pick_range (x := work[n]) (n := 1000003) (by omega)
    generalize hqe : pick work[n] 1000003 = q at *
    obtain ⟨qn, rfl⟩ := Int.eq_ofNat_of_zero_le hq0
    have hbody : ∀ x ∈ N, x.body.length < 2 ^ 40 := fun x hx => by
      obtain ⟨k, num, _, _, _, _, _, e⟩ := hP.pk x hx
      rw [e, bodyOf_length]; omega
    refine s14 hh hM.mem (by omega) hM.net (by omega) (by omega) hbody fun r69 w70 f70 hp70 => ?_
    have hs70 := f70.size
    have hM70 := hM.fr f70
    refine join_of (fun lv w' => ∃ c : Bool, lv = [.bool c] ∧ (c = false → 0 < N.length) ∧ w' = w70) ?_ ?_
    · rintro lv w72 ⟨c, rfl, hcN, rfl⟩
      refine ⟨c, rfl, fun _ => ?_⟩
      cases c with
      | true =>
        -- one is sent
        refine ifT_t ⟨S, by rw [hM70.B3.ld]; rfl, S, by rw [hM70.B3.ld]; rfl, S, by rw [hM70.B3.ld]; rfl, ?_⟩
        refine s18 hh hM70.mem (by omega) fun u w79 f79 hu => ?_
        have hM79 := hM70.fr f79
        have hs79 := f79.size
        refine ⟨by rw [hM79.B3.ld]; rfl, by rw [hM79.B3.ld]; rfl, ?_⟩
        rw [wi_eq (show -9223372036854775808 ≤ (S : Int) + 1 by omega) (by omega)]
        have hbl := bodyOf_length S
        refine s10 hh hM79.mem (by omega) hM79.net (by omega) (by omega) (Src.own hM79.mem hM79.net hu) (fun h => by omega) (fun _ h => by omega) fun _ _ w81 c81 hN81 => ?_
        have hM81 := hM79.nt (X := [b, r]) (by simp) c81 (L' := L + 1) hN81
        have hs81 := c81.size
        refine ⟨_, _, rfl, ifT_nd (fun h => absurd rfl h) fun _ => ifT_nd (fun h => absurd (by rw [wi_eq (by omega) (by omega)]) h) fun _ => ?_⟩
        refine ⟨S, by rw [hM81.B3.ld]; rfl, ?_⟩
        rw [wi_eq (show -9223372036854775808 ≤ (S : Int) + 1 by omega) (by omega)]
        refine hM81.B3.put' hM81.mem (by omega) (by simp) fun w85 c85 b85 z85 => ?_
        have hM85 := hM81.b3 (S' := S + 1) c85 b85
        refine onM_s (v := .slice (m2 + 1) 0 400 400 none) (by rw [hM85.B8.ld]; rfl) ⟨_, by rw [hM85.B3.ld]; rfl, idx0 (k := L + 1) (by omega) ?_⟩
        have hol := hP.owl
        refine hM85.B6.put' hM85.mem (by omega) (by simp; omega) fun w90 c90 b90 z90 => ?_
        rw [ints_set _ _ _ (by omega)] at b90
        have hM90 := hM85.b6 c90 (fun e => by rw [e] at hol; cases hol) b90
        have hs90 := hM90.size
        refine new_of hM90.mem fun w92 f92 b92 z92 => ?_
        have hM92 := hM90.fr f92
        refine Gi.app hM92.gi hM92.mem (by omega) (by omega) b92 (by rw [hP.ls]; omega) fun v' w94 hgi hgr => ?_
        refine ih (100 - (n + 1)) (by omega) _ _ ⟨_, L + 1, S + 1, _, _, v', n + 1, lost, dlv, ?_, by omega, rfl, hM92.gr hgr hgi, hP.send hM.net.low hn100⟩
        rw [wi_eq (by omega) (by omega)]; rfl
      | false =>
        have hN0 := hcN rfl
        refine ifT_f ⟨_, pks_len hp70, ?_⟩
        rw [show Int.tdiv (qn : Int) 5 = ((qn / 5 : Nat) : Int) from rfl, show Int.tmod (qn : Int) 5 = ((qn % 5 : Nat) : Int) from rfl]
        have hqn : qn < 1000003 := by have : ((qn : Nat) : Int) < 1000003 := hq1; omega
        rw [wi_eq (show -9223372036854775808 ≤ ((qn / 5 : Nat) : Int) by omega) (by omega)]
        refine ⟨((qn / 5 % N.length : Nat) : Int), by simp only [arith]; rw [if_neg (by omega)]; rfl, ?_⟩
        have hj : qn / 5 % N.length < N.length := Nat.mod_lt _ hN0
        generalize qn / 5 % N.length = j at hj
        refine pks_at hp70 hj fun bb oo u hu _ hldn => ⟨_, _, _, _, hldn, ?_⟩
        have hmem := List.getElem_mem hj
        have hlow := hM.net.low _ hmem
        obtain ⟨k, num, e1, e2, e3, e4, e5, e6⟩ := hP.pk _ hmem
        have hlk := look_get hM.net.rise hj
        refine new_of hM70.mem fun w104 f104 b104 z104 => gd_t (by simp only [List.all_cons, List.all_nil, hu.ok]; rfl) ?_
        refine b104.put' f104.mem (by omega) (by simp) fun w105 c105 b105 z105 => ?_
        have b105 : Box w105 w72.size [.int .i64 N[j].num, .int .i64 N[j].src, .int .i64 N[j].dst, u] := b105
        have f105 : Fr w72.size w72 w105 := (Ch.new f104 c105 [] fun z hz => by simp at hz; omega).fr (Nat.le_refl _) (by simp)
        have hM105 := hM70.fr f105
        have hs105 := f105.size
        have hbr : b ≠ w72.size ∧ r ≠ w72.size := by omega
        have hll := hP.ls
        have hol := hP.owl
        refine ifT_d (fun _ => ?_) fun _ => ifT_d (fun _ => ?_) fun _ => ifT_d (fun _ => ?_) fun _ => ?_
        · -- delivered
          refine ⟨N[j].num, by rw [b105.ld]; rfl, ?_⟩
          refine s13 hh hM105.mem (by omega) hM105.net (by omega) hbody (fun h => by rw [hlk] at h; cases h) fun x hx u w108 c108 hN108 hu108 => ?_
          rw [hlk] at hx; cases hx
          have hM108 := hM105.nt (X := [r]) (by simp) c108 hN108
          have hs108 := c108.size
          refine ⟨_, _, _, _, _, rfl, ?_⟩
          rw [e6] at hu108
          have hcl : Cl Try.prog hk 16 [.agg [.int .i64 (num : Int), .int .i64 (k : Int), .int .i64 ((k : Int) + 1), u], .int .i64 0, .ptr m2 0, .ptr (m2 + 2) 0] w108 fun r_114 w_115 =>
              ∃ x_116 : Bool, r_114 = .bool x_116 ∧ ifT (!x_116) (False) (Fr w108.size w108 w_115) := s16 hh hM108.mem (by omega) hM108.B3 hM108.B8 hM108.B6 hP.owl (by omega) e3 e2 (by omega) hu108 fun w115 f115 => ⟨_, rfl, ifT_f f115⟩
          rw [← e1, ← e5, ← e4] at hcl
          refine Cl_mono (fun rv w115 hrv => ?_) hcl
          obtain ⟨x, hx, hif⟩ := hrv
          refine ⟨x, hx, ?_⟩
          cases x with
          | false => exact False.elim hif
          | true =>
            have f115 : Fr w108.size w108 w115 := hif
            refine ifT_f (ih (100 - (n + 1)) (by omega) _ _ ⟨_, L, S, ow, l, v, n + 1, lost, dlv + 1, ?_, by omega, rfl, hM108.fr f115, hP.dlvr hM.net.rise hmem hn100⟩)
            rw [wi_eq (by omega) (by omega), wi_eq (by omega) (by omega)]; rfl
        · -- lost
          refine ⟨N[j].num, by rw [b105.ld]; rfl, ?_⟩
          refine s12 hh hM105.mem (by omega) hM105.net (by omega) hbody (fun h => by rw [hlk] at h; cases h) fun x hx w119 c119 hN119 => ?_
          rw [hlk] at hx; cases hx
          have hM119 := hM105.nt (X := [r]) (by simp) c119 hN119
          have hs119 := c119.size
          have b119 : Box w119 w72.size [.int .i64 N[j].num, .int .i64 N[j].src, .int .i64 N[j].dst, u] := c119.box hM105.mem b105 (by simp; omega)
          rw [e1] at b119
          refine ⟨_, rfl, ifT_nd (fun h => absurd rfl h) fun _ => onM_s (v := .slice (m2 + 1) 0 400 400 none) (by rw [hM119.B8.ld]; rfl) ⟨num, by rw [b119.ld]; rfl, idx0 (by omega) ⟨(k : Int) + 1, by rw [hM119.B6.ld, List.getElem?_map, e3]; rfl, ?_⟩⟩⟩
          rw [show wi ((k : Int) + 1 - 1) = (k : Int) by rw [wi_eq (by omega) (by omega)]; omega]
          have hkl : k < l.length := by omega
          refine Gi.put hM119.gi hM119.mem hkl fun bk hlk1 _ => ⟨_, hlk1, Gi.put hM119.gi hM119.mem hkl fun bk2 _ hput => ?_⟩
          have hsm := hP.small _ (List.getElem_mem hkl)
          rw [wi_eq (show -9223372036854775808 ≤ l[k] - 1 by omega) (by omega)]
          refine hput _ _ fun w131 hgi hgr z131 => ?_
          refine ih (100 - (n + 1)) (by omega) _ _ ⟨_, L, S, ow, _, v, n + 1, lost + 1, dlv, ?_, by omega, rfl, hM119.gr hgr hgi, hP.drop hM.net.rise hmem hn100 hkl⟩
          rw [wi_eq (by omega) (by omega), wi_eq (by omega) (by omega)]; rfl
        · -- twice
          refine ⟨N[j].num, by rw [b105.ld]; rfl, ?_⟩
          refine s11 hh hM105.mem (by omega) hM105.net (by omega) (by omega) hbody (fun h => by rw [hlk] at h; cases h) (fun _ _ h => by omega) fun x hx _ w134 c134 hN134 => ?_
          rw [hlk] at hx; cases hx
          have hM134 := hM105.nt (X := [b, r]) (by simp) c134 (L' := L + 1) hN134
          have hs134 := c134.size
          have b134 : Box w134 w72.size [.int .i64 N[j].num, .int .i64 N[j].src, .int .i64 N[j].dst, u] := c134.box hM105.mem b105 (by simp; omega)
          rw [e1] at b134
          refine ⟨_, _, rfl, ifT_nd (fun h => absurd rfl h) fun _ => ifT_nd (fun h => absurd (by rw [wi_eq (by omega) (by omega)]) h) fun _ => ?_⟩
          refine onM_s (v := .slice (m2 + 1) 0 400 400 none) (by rw [hM134.B8.ld]; rfl) (onM_s (v := .slice (m2 + 1) 0 400 400 none) (by rw [hM134.B8.ld]; rfl) ⟨num, by rw [b134.ld]; rfl, idx0 (by omega) ⟨(k : Int) + 1, by rw [hM134.B6.ld, List.getElem?_map, e3]; rfl, idx0 (k := L + 1) (by omega) ?_⟩⟩)
          refine hM134.B6.put' hM134.mem (by omega) (by simp; omega) fun w145 c145 b145 z145 => ?_
          rw [ints_set _ _ _ (by omega)] at b145
          have hM145 := hM134.b6 c145 (fun e => by rw [e] at hol; cases hol) b145
          refine onM_s (v := .slice (m2 + 1) 0 400 400 none) (by rw [hM145.B8.ld]; rfl) (idx0 (k := L + 1) (by omega) ⟨(k : Int) + 1, by rw [hM145.B6.ld, List.getElem?_map, List.getElem?_set_self (by omega)]; rfl, ?_⟩)
          rw [show wi ((k : Int) + 1 - 1) = (k : Int) by rw [wi_eq (by omega) (by omega)]; omega]
          have hkl : k < l.length := by omega
          refine Gi.put hM145.gi hM145.mem hkl fun bk hlk1 _ => ⟨_, hlk1, Gi.put hM145.gi hM145.mem hkl fun bk2 _ hput => ?_⟩
          have hsm := hP.small _ (List.getElem_mem hkl)
          rw [wi_eq (show -9223372036854775808 ≤ l[k] + 1 by omega) (by omega)]
          refine hput _ _ fun w155 hgi hgr z155 => ?_
          refine ih (100 - (n + 1)) (by omega) _ _ ⟨_, L + 1, S, _, _, v, n + 1, lost, dlv, ?_, by omega, rfl, hM145.gr hgr hgi, hP.dbl hM.net.low hmem hn100 e2 hkl e4 e5 e6⟩
          rw [wi_eq (by omega) (by omega)]; rfl
        · refine ih (100 - (n + 1)) (by omega) _ _ ⟨_, L, S, ow, l, v, n + 1, lost, dlv, ?_, by omega, rfl, hM105, hP.idle hn100⟩
          rw [wi_eq (by omega) (by omega)]; rfl
    · intro J2 hJ2
      refine ⟨_, pks_len hp70, ifT_d (fun _ => hJ2 _ _ ⟨true, rfl, fun h => (by cases h), rfl⟩) fun h => hJ2 _ _ ⟨_, rfl, fun _ => by omega, rfl⟩⟩
end Go.Proofs.Ytingojpcdpelaaa
