/-
 The reference: how far it is settled,an entry behind,what is sent.
 No condition beyond those that each theorem names.
-/
import Derived.Test.YtghoifolghelnaaGreatMe
import Derived.Test.YtghoifolghelnaaGreatSxu
import Derived.Test.YtghoifolghelnaaGreatProg
import Derived.KernelRfl
import Derived.Test.YtghoifolghelnaaGreatSxn
set_option linter.unusedSimpArgs false
open Go.Sx
set_option linter.unusedVariables false
set_option linter.unusedSimpArgs false
namespace Go.Proofs.YtghoifolghelnaaGreat
theorem max_ex : ∀ (l : List Int), l ≠ [] → ∃ m ∈ l, ∀ x ∈ l, x ≤ m
  | [], h => absurd rfl h
  | [a], _ => ⟨a, by simp, by simp⟩
  | a :: b :: l, _ => by
    obtain ⟨m, h1, h2⟩ := max_ex (b :: l) (by simp)
    by_cases h : a ≤ m
    · exact ⟨m, List.mem_cons_of_mem _ h1, fun x hx => by
        rcases List.mem_cons.1 hx with rfl | hx
        · exact h
        · exact h2 x hx⟩
    · exact ⟨a, List.mem_cons_self, fun x hx => by
        rcases List.mem_cons.1 hx with rfl | hx
        · omega
        · have := h2 x hx; omega⟩
theorem min_ex (l : List Int) (h : l ≠ []) : ∃ m ∈ l,∀ x ∈ l,m ≤ x := by
 obtain ⟨m,h1,h2⟩ := max_ex (l.map (fun x => -x)) (by simpa using h)
 obtain ⟨y,hy,rfl⟩ := List.mem_map.1 h1
 exact ⟨y,hy,fun x hx => by have := h2 (-x) (List.mem_map.2 ⟨x,hx,rfl⟩); omega⟩
theorem rule_ex (l : List Int) : ∃ r,IsRule l r := by
 by_cases h : l = []
 ·exact ⟨0,.inl ⟨h,rfl⟩⟩
 ·obtain ⟨m,h1,h2⟩ := min_ex l h
  have hg : l.length < 2 * cnt m l := by
   have e : cnt m l = l.length := by
    unfold cnt
    rw [List.filter_eq_self.2]; intro x hx; simpa using h2 x hx
   have : 0 < l.length := List.length_pos_iff.2 h
   omega
  obtain ⟨r,r1,r2⟩ := max_ex (l.filter fun x => decide (l.length < 2 * cnt x l)) (List.ne_nil_of_mem (List.mem_filter.2 ⟨h1,by simpa using hg⟩))
  obtain ⟨r3,r4⟩ := List.mem_filter.1 r1
  exact ⟨r,.inr ⟨r3,by simpa using r4,fun x hx hl => r2 x (List.mem_filter.2 ⟨hx,by simpa using hl⟩)⟩⟩
section
variable {hk : Hook} {A A' B : Nat → Prop} {I : List Nat} {w0 w w' : AW} {K : AV → AW → Prop} {n : Nd} {s : Sl} {v out : AV} {W bs bm bn bv : Nat} {ms : List Msg} {dr : Int} {L : Obs} {U U' : List Nat}
theorem s101 (hh : HK hk) (hm : Mem w) (hpos : 0 < w.size) (h : NR B w n s) (hb : 0 ≤ n.base ∧ n.base ≤ G40) (hl : n.log.length < 2 ^ 38) (hml : n.mtch.length < 2 ^ 38) (hK : ∀ w',Fr w.size w w' → NR B w' (settledN n) s → K (.agg (ndC (settledN n) s)) w') : Cl Tryz.prog hk 101 [.agg (ndC n s)] w K := by
 refine in101 (hh.no _ _ _ (by decide) (by decide)) ?_
 unfold F101
 have hb2 := hb.2
 unfold G40 at hb2
 have pv : Pv TA w := ⟨hm,hpos,fun _ _ => trivial⟩
 refine gd_t h.ok (pv.st.new' fun b20 w21 st21 x21 => st21.new' fun b22 w23 st23 x23 => ?_)
 have st23 : Ow TA [] w w23 [(b22,.row (ndC zNd zSl)),(b20,.row (ndC n s))] := st23
 have h23 := h.ar hm st23
 refine ⟨_,st23.ld 1 rfl rfl,_,st23.ld 1 rfl rfl,_,st23.ld 1 rfl rfl,_,st23.ld 1 rfl rfl,onM_s (v := s.log) (st23.ld 1 rfl rfl) (onM_s (v := s.mtch) (st23.ld 1 rfl rfl) ?_)⟩
 obtain ⟨r,hr⟩ := rule_ex n.mtch
 refine s120 hh (log_rse h23.log) h23.mtch.rsI hb.1 (by omega) (by rw [List.length_map]; omega) (by omega) hr fun x hx => ⟨_,rfl,?_⟩
 have e := advF_eq hr hx
 subst e
 refine st23.put 1 rfl (Nat.le_of_ble_eq_true rfl) fun w2 st2 x2 => ?_
 have st2 : Ow TA [] w w2 [(b22,.row (ndC zNd zSl)),(b20,.row (ndC (settledN n) s))] := st2
 have ok := h.ok
 have o1 := h.snap.ok1
 have o2 := h.log.ok1
 have o3 := h.votes.ok1
 have o4 := h.next.ok1
 have o5 := h.mtch.ok1
 have o6 := h.seen.ok1
 have o7 := h.reads.ok1
 refine ⟨_,_,_,_,_,_,_,_,_,_,_,_,_,_,_,_,_,_,_,st2.ldN 1 rfl rfl rfl,gd_t (by simp only [List.all_cons,o1,o2,o3,o4,o5,o6,o7]; rfl) (st2.put 0 rfl (Nat.le_of_ble_eq_true rfl) fun w3 st3 x3 => ⟨_,_,_,_,_,_,_,_,_,_,_,_,_,_,_,_,_,_,_,st3.ldN 0 rfl rfl rfl,?_⟩)⟩
 have h3 := h.fr hm st3.fr
 exact hK w3 st3.fr ⟨h3.snap,h3.log,h3.votes,h3.next,h3.mtch,h3.seen,h3.reads⟩
theorem rd_toF {α : Type} {r : Rp α} {cs : List AV} {x : α} {w1 : AW} (h : r.rd (fz B U) w cs x) : r.rd (fz (Fz B w1) U) w cs x := h.xa ⟨fun _ _ _ a b d => ⟨⟨.inl a.1,a.2⟩,⟨.inl b.1,b.2⟩,d⟩⟩
theorem NR.toF {w1 : AW} (h : NR (fz B U) w n s) : NR (fz (Fz B w1) U) w n s := h.xa ⟨fun _ _ _ a b d => ⟨⟨.inl a.1,a.2⟩,⟨.inl b.1,b.2⟩,d⟩⟩
abbrev zMs : Msg := ⟨[],0,0,0,0,0,0,0,0,false,[],[]⟩
set_option maxRecDepth 20000 in
theorem s102 {to : Nat} (hh : HK hk) (hm : Mem w) (hpos : 0 < w.size) (h : NR B w n s) (sc : SC n) (h1 : 1 ≤ to) (h2 : (to : Int) ≤ n.size)
  (hK : ∀ e sv w',Fr w.size w w' → rM.rd (Fz B w) w' (mC (sentN n to) e sv) (sentN n to) → K (.agg (mC (sentN n to) e sv)) w') : Cl Tryz.prog hk 102 [.agg (ndC n s),ii (to : Int)] w K := by
 refine in102 (hh.no _ _ _ (by decide) (by decide)) ?_
 unfold F102
 obtain ⟨c1,c2,c3,c4,c5,c6,c7⟩ := sc
 obtain ⟨c7a,c7b⟩ := c7 to h1 h2
 have c22 := c2.2
 unfold G40 at c22
 unfold lastN at c7b
 have pv : Pv TA w := ⟨hm,hpos,fun _ _ => trivial⟩
 refine gd_t h.ok (pv.st.new' fun b20 w21 st21 x21 => st21.new' fun b22 w23 st23 x23 => ?_)
 have st23 : Ow TA [] w w23 [(b22,.row (mC zMs .nilslice .nilslice)),(b20,.row (ndC n s))] := st23
 refine ⟨_,st23.ld 1 rfl rfl,_,st23.ld 1 rfl rfl,_,st23.ld 1 rfl rfl,?_⟩
 refine st23.new' fun b27 w1 st1 x1 => st1.put 0 rfl (Nat.le_of_ble_eq_true rfl) fun w2 st2 x2 => ?_
 have st2 : Ow TA [] w w2 [(b27,.row (mC ⟨[],0,n.id,to,n.term,0,0,0,n.round,false,[],[]⟩ .nilslice .nilslice)),(b22,.row (mC zMs .nilslice .nilslice)),(b20,.row (ndC n s))] := st2
 have h2' := h.ar hm st2
 refine onM_s (v := s.next) (st2.ld 2 rfl rfl) ?_
 rw [wi_eq (by omega) (by omega),show ((to : Int) - 1) = ((to - 1 : Nat) : Int) by omega]
 refine at_int h2'.next (by omega) (by omega) fun b31 o31 hld => ⟨nextN n to,by rw [hld,Int.toNat_natCast]; rfl,_,st2.ld 2 rfl rfl,?_⟩
 have fin : ∀ (w' : AW) (e sv : AV),Ow TA [] w w' [(b27,.row (mC (sentN n to) e sv)),(b22,.row (mC zMs .nilslice .nilslice)),(b20,.row (ndC n s))] → rM.rd (fz (Fz B w) [b27,b22,b20]) w' (mC (sentN n to) e sv) (sentN n to) →
   ∃ x_42 : List UInt8,∃ x_43 : Int,∃ x_44 : Int,∃ x_45 : Int,∃ x_46 : Int,∃ x_47 : Int,∃ x_48 : Int,∃ x_49 : Int,∃ x_50 : Int,∃ x_51 : Bool,∃ x_52 : AV,∃ x_53 : AV,ldN 12 w' b27 0 = some (.agg [(.str x_42),(.int .u8 x_43),(ii x_44),(ii x_45),(ii x_46),(ii x_47),(ii x_48),(ii x_49),(ii x_50),(.bool x_51),x_52,x_53]) ∧ gd (List.all [(.str x_42),(.int .u8 x_43),(ii x_44),(ii x_45),(ii x_46),(ii x_47),(ii x_48),(ii x_49),(ii x_50),(.bool x_51),x_52,x_53] okCell) ( onM (AW.putCells w' b22 0 [(.str x_42),(.int .u8 x_43),(ii x_44),(ii x_45),(ii x_46),(ii x_47),(ii x_48),(ii x_49),(ii x_50),(.bool x_51),x_52,x_53]) fun w_54 => ∃ res_55 : List UInt8,∃ res_56 : Int,∃ res_57 : Int,∃ res_58 : Int,∃ res_59 : Int,∃ res_60 : Int,∃ res_61 : Int,∃ res_62 : Int,∃ res_63 : Int,∃ res_64 : Bool,∃ res_65 : AV,∃ res_66 : AV,ldN 12 w_54 b22 0 = some (.agg [(.str res_55),(.int .u8 res_56),(ii res_57),(ii res_58),(ii res_59),(ii res_60),(ii res_61),(ii res_62),(ii res_63),(.bool res_64),res_65,res_66]) ∧ K (.agg [(.str res_55),(.int .u8 res_56),(ii res_57),(ii res_58),(ii res_59),(ii res_60),(ii res_61),(ii res_62),(ii res_63),(.bool res_64),res_65,res_66]) w_54) := by
  intro w' e sv st' hr
  obtain ⟨e',sv',he,r1,r2⟩ := hr
  have he' := he
  simp only [List.cons.injEq,and_true,true_and] at he'
  obtain ⟨rfl,rfl⟩ := he'
  have o1 := r1.ok1
  have o2 := r2.ok1
  refine ⟨_,_,_,_,_,_,_,_,_,_,_,_,st'.ldN 0 rfl rfl rfl,gd_t (by simp only [List.all_cons,o1,o2]; rfl) (st'.put 1 rfl (Nat.le_of_ble_eq_true rfl) fun w9 st9 x9 => ⟨_,_,_,_,_,_,_,_,_,_,_,_,st9.ldN 1 rfl rfl rfl,?_⟩)⟩
  exact hK _ _ w9 st9.fr ⟨e,sv,rfl,(r1.x x9).out,(r2.x x9).out⟩
 refine ifT_d (fun hc => ?_) fun hc => ?_
 ·have e : sentN n to = ⟨[],5,n.id,to,n.term,n.base,n.bt,0,n.round,false,[],n.snap⟩ := by unfold sentN; rw [if_pos hc]
  refine st2.put 0 rfl (Nat.le_of_ble_eq_true rfl) fun w3 st3 x3 => ⟨_,st3.ld 2 rfl rfl,st3.put 0 rfl (Nat.le_of_ble_eq_true rfl) fun w4 st4 x4 => ⟨_,st4.ld 2 rfl rfl,st4.put 0 rfl (Nat.le_of_ble_eq_true rfl) fun w5 st5 x5 => onM_s (v := s.snap) (st5.ld 2 rfl rfl) (gd_t h.snap.ok1 (st5.put 0 rfl (Nat.le_of_ble_eq_true rfl) fun w6 st6 x6 => ?_))⟩⟩
  rw [e] at fin
  exact fin w6 .nilslice s.snap st6 ⟨_,_,rfl,Rp.rd.nil,(h.ar hm st6).toF.snap⟩
 ·obtain ⟨k0,hk0⟩ : ∃ k0 : Nat,nextN n to - n.base - 1 = (k0 : Int) := Int.eq_ofNat_of_zero_le (by omega)
  have hkl : k0 ≤ n.log.length := by omega
  generalize hrest : n.log.drop k0 = rest
  have hrl : rest.length = n.log.length - k0 := by rw [← hrest,List.length_drop]
  have hrd : ∀ e ∈ rest,e.2.length ≤ 60000 := fun e he => c4 e (List.mem_of_mem_drop (hrest ▸ he))
  have hbatch : sentN n to = ⟨[],3,n.id,to,n.term,nextN n to - 1,(termAt n.base n.bt (n.log.map (·.1)) (nextN n to - 1)).1,n.commit,n.round,false,batch 0 0 rest,[]⟩ := by
   unfold sentN; rw [if_neg hc,hk0,Int.toNat_natCast,hrest]
  rw [wi_eq (x := nextN n to - 1) (by omega) (by omega)]
  refine st2.put 0 rfl (Nat.le_of_ble_eq_true rfl) fun w3 st3 x3 => st3.put 0 rfl (Nat.le_of_ble_eq_true rfl) fun w4 st4 x4 => ⟨_,_,_,_,_,_,_,_,_,_,_,_,_,_,_,_,_,_,_,st4.ldN 2 rfl rfl rfl,?_⟩
  refine s64 hh st4.mem (h.ar hm st4) c2.1 (by omega) (by omega) fun w5 f5 => ⟨_,_,rfl,?_⟩
  obtain ⟨st5,x5⟩ := st4.call f5
  refine st5.put 0 rfl (Nat.le_of_ble_eq_true rfl) fun w6 st6 x6 => ⟨_,st6.ld 2 rfl rfl,st6.put 0 rfl (Nat.le_of_ble_eq_true rfl) fun w7 st7 x7 => ?_⟩
  generalize hlt : (termAt n.base n.bt (n.log.map (·.1)) (nextN n to - 1)).1 = lt at hbatch st5 st6 st7
  have st7 : Ow TA [] w w7 [(b27,.row (mC ⟨[],3,n.id,to,n.term,nextN n to - 1,lt,n.commit,n.round,false,[],[]⟩ .nilslice .nilslice)),(b22,.row (mC zMs .nilslice .nilslice)),(b20,.row (ndC n s))] := st7
  rw [hbatch] at fin
  refine loopP_ind (fun m lv w9 => ∃ (i sz : Nat) (o : AV),m = rest.length - i ∧ i ≤ rest.length ∧ i ≤ 8 ∧ sz ≤ 60000 ∧ lv = [ii sz,ii (nextN n to + i)] ∧ Bt rest i sz ∧ Ow TA [] w w9 [(b27,.row (mC ⟨[],3,n.id,to,n.term,nextN n to - 1,lt,n.commit,n.round,false,[],[]⟩ o .nilslice)),(b22,.row (mC zMs .nilslice .nilslice)),(b20,.row (ndC n s))] ∧ Ga rE (fz (Fz B w) [b27,b22,b20]) w w9 o (rest.take i)) ?_ ⟨0,0,.nilslice,rfl,Nat.zero_le _,Nat.zero_le _,Nat.zero_le _,by simp,rfl,st7,by simpa using Ga.nil⟩
  rintro m lv w9 ⟨i,sz,o,rfl,hi,hi8,hsz,rfl,hbt,st9,g9⟩ R ih
  refine ⟨_,_,rfl,fun _ => ⟨_,_,_,_,_,_,_,_,_,_,_,_,_,_,_,_,_,_,_,st9.ldN 2 rfl rfl rfl,?_⟩⟩
  refine s58 hh st9.mem (h.ar hm st9) c2.1 (by omega) (by omega) fun w10 f10 => ⟨_,rfl,?_⟩
  obtain ⟨st10,x10⟩ := st9.call f10
  have g10 : Ga rE (fz (Fz B w) [b27,b22,b20]) w w10 o (rest.take i) := Ga.x' g9 x10 st9
  have r10 := g10.rd (by decide)
  have stop : ∀ w' ,Ow TA [] w w' [(b27,.row (mC ⟨[],3,n.id,to,n.term,nextN n to - 1,lt,n.commit,n.round,false,[],[]⟩ o .nilslice)),(b22,.row (mC zMs .nilslice .nilslice)),(b20,.row (ndC n s))] → (rL rE).rd (fz (Fz B w) [b27,b22,b20]) w' [o] (rest.take i) → batch 0 0 rest = rest.take i → ∃ x_42 : List UInt8,∃ x_43 : Int,∃ x_44 : Int,∃ x_45 : Int,∃ x_46 : Int,∃ x_47 : Int,∃ x_48 : Int,∃ x_49 : Int,∃ x_50 : Int,∃ x_51 : Bool,∃ x_52 : AV,∃ x_53 : AV,ldN 12 w' b27 0 = some (.agg [(.str x_42),(.int .u8 x_43),(ii x_44),(ii x_45),(ii x_46),(ii x_47),(ii x_48),(ii x_49),(ii x_50),(.bool x_51),x_52,x_53]) ∧ gd (List.all [(.str x_42),(.int .u8 x_43),(ii x_44),(ii x_45),(ii x_46),(ii x_47),(ii x_48),(ii x_49),(ii x_50),(.bool x_51),x_52,x_53] okCell) ( onM (AW.putCells w' b22 0 [(.str x_42),(.int .u8 x_43),(ii x_44),(ii x_45),(ii x_46),(ii x_47),(ii x_48),(ii x_49),(ii x_50),(.bool x_51),x_52,x_53]) fun w_54 => ∃ res_55 : List UInt8,∃ res_56 : Int,∃ res_57 : Int,∃ res_58 : Int,∃ res_59 : Int,∃ res_60 : Int,∃ res_61 : Int,∃ res_62 : Int,∃ res_63 : Int,∃ res_64 : Bool,∃ res_65 : AV,∃ res_66 : AV,ldN 12 w_54 b22 0 = some (.agg [(.str res_55),(.int .u8 res_56),(ii res_57),(ii res_58),(ii res_59),(ii res_60),(ii res_61),(ii res_62),(ii res_63),(.bool res_64),res_65,res_66]) ∧ K (.agg [(.str res_55),(.int .u8 res_56),(ii res_57),(ii res_58),(ii res_59),(ii res_60),(ii res_61),(ii res_62),(ii res_63),(.bool res_64),res_65,res_66]) w_54) := fun w' st' hr he => fin w' o .nilslice st' ⟨o,.nilslice,rfl,by rw [he]; exact hr,Rp.rd.nil⟩
  unfold lastN
  refine ifT_d (fun hc2 => ?_) fun hc2 => stop w10 st10 r10 (by have e := hbt.all (by omega); rw [List.take_of_length_le (by omega)]; exact e)
  have hil : i < rest.length := by omega
  have hdl := hrd _ (List.getElem_mem hil)
  refine onM_s (v := o) (st10.ld 0 rfl rfl) ⟨_,r10.len',ifT_d (fun hc3 => ?_) fun hc3 => stop w10 st10 r10 (hbt.stop hil (.inl (by rw [List.length_take] at hc3; omega)))⟩
  have hi8' : i ≠ 8 := by rw [List.length_take] at hc3; omega
  refine onM_s (v := s.log) (st10.ld 2 rfl rfl) ⟨_,st10.ld 2 rfl rfl,?_⟩
  have hl10 := (h.ar hm st10).log
  rw [wi_eq (x := nextN n to + i - n.base) (by omega) (by omega),wi_eq (x := nextN n to + i - n.base - 1) (by omega) (by omega),show nextN n to + (i : Int) - n.base - 1 = ((k0 + i : Nat) : Int) by omega]
  have hki : k0 + i < n.log.length := by omega
  have eg : n.log[k0 + i] = rest[i] := by subst hrest; rw [List.getElem_drop]
  refine ent_at hl10 hki fun b o' u hu _ _ hn => ⟨_,_,hn,st10.new' fun b30 w11 st11 x11 => gd_t (by simp only [List.all_cons,hu.ok1]; rfl) (st11.put 0 rfl (Nat.le_of_ble_eq_true rfl) fun w12 st12 x12 => onM_s (v := u) (st12.ld 0 rfl rfl) ?_)⟩
  have xx : Xt [b27,b22,b20] w10 [b30,b27,b22,b20] w12 := Xt.trans x11 x12
  have hu12 : (rL rU).rd (fz B [b30,b27,b22,b20]) w12 [u] n.log[k0 + i].2 := Rp.rd.x hu xx
  rw [eg] at hu12
  refine ⟨_,hu12.len',?_⟩
  rw [wi_eq (x := (sz : Int) + rest[i].2.length) (by omega) (by omega)]
  have g12 : Ga rE (fz (Fz B w) [b30,b27,b22,b20]) w w12 o (rest.take i) := Ga.x' g10 xx st10
  obtain ⟨st13,x13,_,hb30⟩ := st12.drop
  have g13 : Ga rE (fz (Fz B w) [b27,b22,b20]) w w12 o (rest.take i) := Ga.x' g12 x13 st12
  refine ifT_d (fun h9 => stop w12 st13 (g13.rd (by decide)) (hbt.stop hil (.inr (by omega)))) fun h9 => ?_
  refine onM_s (v := o) (st12.ld 1 rfl rfl) ⟨_,_,st12.ldN 0 rfl rfl rfl,gd_t (by simp only [List.all_cons,hu12.ok1]; rfl) (new_of st13.mem fun w14 f14 b14 z14 => ?_)⟩
  obtain ⟨st14,x14⟩ := st13.call f14
  have g14 : Ga rE (fz (Fz B w) [b27,b22,b20]) w w14 o (rest.take i) := Ga.x' g13 x14 st13
  have hu13 : (rL rU).rd (fz (Fz B w) [b27,b22,b20]) w12 [u] rest[i].2 := (rd_toF (B := B) (U := [b30,b27,b22,b20]) (w1 := w) hu12).xa x13.xw.xa
  have hu14 := hu13.xa x14.xw.xa
  have hx : (rL rE).rd (fz (Fz B w) [b27,b22,b20]) w14 [.slice w12.size 0 1 1 none] [rest[i]] := Box.rd1 b14 ⟨.inr st12.fr.size,(st13.P.new _ (Nat.le_refl _)).2⟩ ⟨u,by rw [eg],hu14⟩
  refine Ow.app (r := rE) st14 g14 hx (by decide) (fun c hc => .inr (by have := st14.fr.size; omega)) (by rw [List.length_take]; simp; omega) (by rw [List.length_take]; simp; omega) fun o15 w15 st15 x15 g15 => ?_
  have r15 := g15.rd (by decide)
  refine gd_t r15.ok1 (st15.put 0 rfl (Nat.le_of_ble_eq_true rfl) fun w16 st16 x16 => ?_)
  have g16 : Ga rE (fz (Fz B w) [b27,b22,b20]) w w16 o15 (rest.take i ++ [rest[i]]) := Ga.x' g15 x16 st15
  refine ih (rest.length - (i + 1)) (by omega) _ _ ⟨i + 1,sz + rest[i].2.length,o15,rfl,hil,by omega,by omega,?_,hbt.step hil hi8' (by omega),st16,by rw [List.take_succ_eq_append_getElem hil]; exact g16⟩
  rw [wi_eq (x := nextN n to + i + 1) (by omega) (by omega)]
  congr 3
  push_cast; omega
end
end Go.Proofs.YtghoifolghelnaaGreat
/-
 The reference: what is sent to all,an entry behind.
 No condition beyond those that each theorem names.
-/
set_option linter.unusedSimpArgs false
open Go.Sx
set_option linter.unusedVariables false
set_option linter.unusedSimpArgs false
namespace Go.Proofs.YtghoifolghelnaaGreat
section
variable {hk : Hook} {A A' B : Nat → Prop} {I : List Nat} {w0 w w' : AW} {K : AV → AW → Prop} {n : Nd} {s : Sl} {v out : AV} {W bs bm bn bv : Nat} {ms : List Msg} {dr : Int} {L : Obs} {U U' : List Nat}
theorem s59 (hh : HK hk) (hm : Mem w) (hpos : 0 < w.size) (h : NR B w n s) (sc : SC n)
  (hK : ∀ o w',Fr w.size w w' → (rL rM).rd (Fz B w) w' [o] (allTo n n.size.toNat) → K o w') : Cl Tryz.prog hk 59 [.agg (ndC n s)] w K := by
 refine in59 (hh.no _ _ _ (by decide) (by decide)) ?_
 unfold F59
 have hsz := sc.size
 have pv : Pv TA w := ⟨hm,hpos,fun _ _ => trivial⟩
 refine gd_t h.ok (pv.st.new' fun b20 w21 st21 x21 => ?_)
 refine loopP_ind (fun m lv w4 => ∃ (k : Nat) (o : AV),m = n.size.toNat - k ∧ k ≤ n.size.toNat ∧ lv = [o,ii ((k + 1 : Nat) : Int)] ∧ Ow TA [] w w4 [(b20,.row (ndC n s))] ∧ Ga rM (fz (Fz B w) [b20]) w w4 o (allTo n k)) ?_ ⟨0,.nilslice,rfl,Nat.zero_le _,rfl,st21,Ga.nil⟩
 rintro m lv w4 ⟨k,o,rfl,hk',rfl,st4,g4⟩ R ih
 refine ⟨_,_,rfl,fun _ => ⟨_,st4.ld 0 rfl rfl,ifT_d (fun hc => ?_) fun hc => ?_⟩⟩
 ·refine ⟨_,st4.ld 0 rfl rfl,?_⟩
  have hlen := allTo_len n k
  rw [wi_eq (by omega) (by omega)]
  refine ifT_nd (fun hid => ?_) fun hid => ?_
  ·refine ⟨_,_,_,_,_,_,_,_,_,_,_,_,_,_,_,_,_,_,_,st4.ldN 0 rfl rfl rfl,?_⟩
   refine s102 hh st4.mem st4.P0.pos (h.ar hm st4) sc (by omega) hc fun e sv w5 f5 hr => ⟨_,_,_,_,_,_,_,_,_,_,_,_,rfl,?_⟩
   obtain ⟨st5,x5⟩ := st4.call f5
   have g5 : Ga rM (fz (Fz B w) [b20]) w w5 o (allTo n k) := Ga.x' g4 x5 st4
   have hfr4 := st4.fr.size
   have hr5 : rM.rd (fz (Fz B w) [b20]) w5 (mC (sentN n (k + 1)) e sv) (sentN n (k + 1)) := hr.xa ⟨fun c f _ a b d => ⟨a.elim (fun a => ⟨.inl a.1,a.2⟩) fun a => ⟨.inr (by omega),(st4.P.new c a).2⟩,b.elim (fun a => ⟨.inl a.1,a.2⟩) fun a => ⟨.inr (by omega),(st4.P.new f a).2⟩,d⟩⟩
   refine gd_t (rM.ok hr5) (new_of st5.mem fun w6 f6 b6 z6 => ?_)
   obtain ⟨st6,x6⟩ := st5.call f6
   have g6 : Ga rM (fz (Fz B w) [b20]) w w6 o (allTo n k) := Ga.x' g5 x6 st5
   have hfr5 := st5.fr.size
   have hx : (rL rM).rd (fz (Fz B w) [b20]) w6 [.slice w5.size 0 1 1 none] [sentN n (k + 1)] := Box.rd1 b6 ⟨.inr hfr5,(st5.P.new _ (Nat.le_refl _)).2⟩ (hr5.xa x6.xw.xa)
   refine Ow.app (r := rM) st6 g6 hx (by decide) (fun c hc => .inr (by have := st6.fr.size; omega)) (by simp; omega) (by simp; omega) fun o7 w7 st7 x7 g7 => ?_
   exact ih (n.size.toNat - (k + 1)) (by omega) _ _ ⟨k + 1,o7,rfl,by omega,rfl,st7,by rw [allTo,if_neg hid]; exact g7⟩
  ·exact ih (n.size.toNat - (k + 1)) (by omega) _ _ ⟨k + 1,o,rfl,by omega,rfl,st4,by rw [allTo,if_pos hid,List.append_nil]; exact g4⟩
 ·have e : k = n.size.toNat := by omega
  subst e
  exact hK _ _ st4.fr (g4.rd (by decide)).out
set_option maxRecDepth 20000 in
theorem s57 {d : Byts} {dv : AV} (hh : HK hk) (hm : Mem w) (hpos : 0 < w.size) (h : NR B w n s) (pc : PC n) (hd : (rL rU).rd A w [dv] d) (hdl : d.length ≤ 60000)
  (hK : ∀ s' w',Fr w.size w w' → NR (Fz B w) w' (putN n d) s' → K (.agg (ndC (putN n d) s')) w') : Cl Tryz.prog hk 57 [.agg (ndC n s),dv] w K := by
 refine in57 (hh.no _ _ _ (by decide) (by decide)) ?_
 unfold F57
 obtain ⟨c1,c2,c3,c4,c5,c6,c7,c8,c9,c10,c11⟩ := id pc
 have c32 := c3.2
 unfold G40 at c32
 have hlast : lastN n = n.base + n.log.length := rfl
 have pv : Pv TA w := ⟨hm,hpos,fun _ _ => trivial⟩
 refine gd_t h.ok (pv.st.new' fun b20 w21 st21 x21 => st21.new' fun b22 w23 st23 x23 => ?_)
 have st23 : Ow TA [] w w23 [(b22,.row (ndC zNd zSl)),(b20,.row (ndC n s))] := st23
 refine onM_s (v := s.log) (st23.ld 1 rfl rfl) ⟨_,st23.ld 1 rfl rfl,s47 hh st23.mem st23.P0.pos (h.ar hm st23).log (by omega) (fun e he => by have := c6 e he; omega) fun v1 w1 f1 g1 => ?_⟩
 obtain ⟨st1,x1⟩ := st23.call f1
 refine ⟨st1.ld 1 rfl rfl,s46 hh st1.mem (st1.arg hm hd) (by omega) fun v2 w2 f2 h2 => ?_⟩
 obtain ⟨st2,x2⟩ := st1.call f2
 have r2 : (rL rU).rd (fz (Nw w) [b22,b20]) w2 [v2] d := h2.rd (fun c hc => ⟨Nat.le_trans st1.fr.size hc,(st1.P.new c hc).2⟩) Chk.flU
 have hs23 := st23.fr.size
 have g2 : Ga rE (fz (Nw w) [b22,b20]) w w2 v1 n.log := Ga.x' (g1.xa (B := fz (Nw w) [b22,b20]) (w1 := w) hs23 fun c hc => ⟨Nat.le_trans hs23 hc,(st23.P.new c hc).2⟩) x2 st1
 refine gd_t r2.ok1 (gd_t (by simp only [List.all_cons,r2.ok1]; rfl) (new_of st2.mem fun w3 f3 b3 z3 => ⟨(st2.call f3).1.ld 1 rfl rfl,?_⟩))
 obtain ⟨st3,x3⟩ := st2.call f3
 have g3 : Ga rE (fz (Nw w) [b22,b20]) w w3 v1 n.log := Ga.x' g2 x3 st2
 have hx : (rL rE).rd (fz (Nw w) [b22,b20]) w3 [.slice w2.size 0 1 1 none] [(n.term,d)] := Box.rd1 b3 ⟨st2.fr.size,(st2.P.new _ (Nat.le_refl _)).2⟩ ⟨v2,rfl,r2.x x3⟩
 refine Ow.app (r := rE) st3 g3 hx (by decide) (fun c hc => Nat.le_trans st3.fr.size hc) (by simp; omega) (by simp; omega) fun v4 w4 st4 x4 g4 => ?_
 have r4 := g4.rd (by decide)
 refine gd_t r4.ok1 (st4.put 1 rfl (Nat.le_of_ble_eq_true rfl) fun w5 st5 x5 => ?_)
 have st5 : Ow TA [] w w5 [(b22,.row (ndC zNd zSl)),(b20,.row (ndC n { s with log := v4 }))] := st5
 have r5 : (rL rE).rd (fz (Nw w) [b22,b20]) w5 [v4] (n.log ++ [(n.term,d)]) := r4.x x5
 refine onM_s (v := s.mtch) (st5.ld 1 rfl rfl) (s48 hh st5.mem (h.ar hm st5).mtch (by omega) fun v6 w6 f6 h6 => ?_)
 obtain ⟨bm,rfl,st6,x6⟩ := cln_own (f := AV.int .i64) st5 h6 (by omega) (fun _ h => Chk.ints.1 h) f6
 refine gd_t rfl (st6.put 2 rfl (Nat.le_of_ble_eq_true rfl) fun w7 st7 x7 => ?_)
 have st7 : Ow TA [] w w7 [(bm,.row (n.mtch.map (AV.int .i64))),(b22,.row (ndC zNd zSl)),(b20,.row (ndC n { s with log := v4,mtch := .slice bm 0 n.mtch.length n.mtch.length (some 1) }))] := st7
 refine onM_s (v := s.next) (st7.ld 2 rfl rfl) (s48 hh st7.mem (h.ar hm st7).next (by omega) fun v8 w8 f8 h8 => ?_)
 obtain ⟨bn,rfl,st8,x8⟩ := cln_own (f := AV.int .i64) st7 h8 (by omega) (fun _ h => Chk.ints.1 h) f8
 refine gd_t rfl (st8.put 3 rfl (Nat.le_of_ble_eq_true rfl) fun w9 st9 x9 => ?_)
 have st9 : Ow TA [] w w9 [(bn,.row (n.next.map (AV.int .i64))),(bm,.row (n.mtch.map (AV.int .i64))),(b22,.row (ndC zNd zSl)),(b20,.row (ndC { n with log := n.log ++ [(n.term,d)] } { s with log := v4,mtch := .slice bm 0 n.mtch.length n.mtch.length (some 1),next := .slice bn 0 n.next.length n.next.length (some 1) }))] := st9
 have x59 : Xt [b22,b20] w5 [bn,bm,b22,b20] w9 := (Xt.trans x6 x7).trans (Xt.trans x8 x9)
 have r9 := r5.x x59
 have lg : ∀ (m : Nd) (s' : Sl) w',Ow TA [] w w' [(bn,.row (m.next.map (AV.int .i64))),(bm,.row (m.mtch.map (AV.int .i64))),(b22,.row (ndC zNd zSl)),(b20,.row (ndC m s'))] → m.snap = n.snap ∧ m.votes = n.votes ∧ m.seen = n.seen ∧ m.reads = n.reads ∧ s'.snap = s.snap ∧ s'.votes = s.votes ∧ s'.seen = s.seen ∧ s'.reads = s.reads → s'.mtch = .slice bm 0 m.mtch.length m.mtch.length (some 1) → s'.next = .slice bn 0 m.next.length m.next.length (some 1) → (rL rE).rd (fz (Nw w) [bn,bm,b22,b20]) w' [s'.log] m.log → NR (fz (Fz B w) [b22,b20]) w' m s' := by
  intro m s' w' st' ⟨e1,e2,e3,e4,e5,e6,e7,e8⟩ e9 e10 hl
  have hh' := (h.ar hm st')
  have sub : ∀ {α : Type} {r : Rp α} {cs : List AV} {x : α},r.rd (fz B [bn,bm,b22,b20]) w' cs x → r.rd (fz (Fz B w) [b22,b20]) w' cs x := fun h => h.xa ⟨fun c f _ a a' d => ⟨⟨.inl a.1,fun hx => a.2 (List.mem_cons_of_mem _ (List.mem_cons_of_mem _ hx))⟩,⟨.inl a'.1,fun hx => a'.2 (List.mem_cons_of_mem _ (List.mem_cons_of_mem _ hx))⟩,d⟩⟩
  have nd := st'.nd
  have nb : bn ∉ [bm,b22,b20] := (List.nodup_cons.1 nd).1
  have nb2 : bm ∉ [b22,b20] := (List.nodup_cons.1 (List.nodup_cons.1 nd).2).1
  have q1 : Box w' bn _ := (st'.box _ List.mem_cons_self rfl).1
  have q1' := (st'.box _ List.mem_cons_self rfl).2.1.resolve_right (by simp)
  have q2 : Box w' bm _ := (st'.box _ (List.mem_cons_of_mem _ List.mem_cons_self) rfl).1
  have q2' := (st'.box _ (List.mem_cons_of_mem _ List.mem_cons_self) rfl).2.1.resolve_right (by simp)
  refine ⟨by rw [e1,e5]; exact sub hh'.snap,hl.xa ⟨fun c f _ a a' d => ⟨⟨.inr a.1,fun hx => a.2 (List.mem_cons_of_mem _ (List.mem_cons_of_mem _ hx))⟩,⟨.inr a'.1,fun hx => a'.2 (List.mem_cons_of_mem _ (List.mem_cons_of_mem _ hx))⟩,d⟩⟩,by rw [e2,e6]; exact sub hh'.votes,?_,?_,by rw [e3,e7]; exact sub hh'.seen,by rw [e4,e8]; exact sub hh'.reads⟩
  ·rw [e10]; exact Box.sl q1 ⟨.inr q1',fun hx => nb (List.mem_cons_of_mem _ hx)⟩ rfl (Chk.ints.2 rfl) (Nat.le_refl _) (by simp [okEx,rI])
  ·rw [e9]; exact Box.sl q2 ⟨.inr q2',nb2⟩ rfl (Chk.ints.2 rfl) (Nat.le_refl _) (by simp [okEx,rI])
 have hl2 : (n.log ++ [(n.term,d)]).length = n.log.length + 1 := by simp
 have nr9 := lg { n with log := n.log ++ [(n.term,d)] } { s with log := v4,mtch := .slice bm 0 n.mtch.length n.mtch.length (some 1),next := .slice bn 0 n.next.length n.next.length (some 1) } w9 st9 ⟨rfl,rfl,rfl,rfl,rfl,rfl,rfl,rfl⟩ rfl rfl r9
 refine onM_s (st9.ld 3 rfl rfl) ⟨_,st9.ld 3 rfl rfl,_,_,_,_,_,_,_,_,_,_,_,_,_,_,_,_,_,_,_,st9.ldN 3 rfl rfl rfl,?_⟩
 refine s58 hh st9.mem nr9 c3.1 (by show n.base < _; omega) (by show (n.log ++ [(n.term,d)]).length < _; omega) fun w10 f10 => ⟨_,rfl,?_⟩
 obtain ⟨st10,x10⟩ := st9.call f10
 refine ⟨st10.ld 3 rfl rfl,st10.ld 3 rfl rfl,?_⟩
 have hl3 : lastN { n with log := n.log ++ [(n.term,d)] } = lastN n + 1 := by show n.base + ((n.log ++ [(n.term,d)]).length : Int) = _; rw [hl2]; omega
 obtain ⟨k,hkk⟩ : ∃ k : Nat,n.id - 1 = (k : Int) := Int.eq_ofNat_of_zero_le (by omega)
 have hk1 : k < n.mtch.length := by omega
 have hk2 : k < n.next.length := by omega
 rw [hl3,wi_eq (x := n.id - 1) (by omega) (by omega),hkk]
 refine idx0 (by omega) (st10.put 1 rfl (by rw [List.length_map]; simp; omega) fun w11 st11 x11 => ?_)
 have st11 : Ow TA [] w w11 [(bn,.row (n.next.map (AV.int .i64))),(bm,.row ((n.mtch.set k (lastN n + 1)).map (AV.int .i64))),(b22,.row (ndC zNd zSl)),(b20,.row (ndC { n with log := n.log ++ [(n.term,d)],mtch := n.mtch.set k (lastN n + 1) } { s with log := v4,mtch := .slice bm 0 n.mtch.length n.mtch.length (some 1),next := .slice bn 0 n.next.length n.next.length (some 1) }))] := by
  have := st11
  simp only [stN] at this
  rw [put_set hk1] at this
  exact this
 have r11 := (r9.x x10).x x11
 have nr11 := lg { n with log := n.log ++ [(n.term,d)],mtch := n.mtch.set k (lastN n + 1) } { s with log := v4,mtch := .slice bm 0 n.mtch.length n.mtch.length (some 1),next := .slice bn 0 n.next.length n.next.length (some 1) } w11 st11 ⟨rfl,rfl,rfl,rfl,rfl,rfl,rfl,rfl⟩ (by rw [List.length_set]) rfl r11
 refine onM_s (st11.ld 3 rfl rfl) ⟨_,st11.ld 3 rfl rfl,_,_,_,_,_,_,_,_,_,_,_,_,_,_,_,_,_,_,_,st11.ldN 3 rfl rfl rfl,?_⟩
 refine s58 hh st11.mem nr11 c3.1 (by show n.base < _; omega) (by show (n.log ++ [(n.term,d)]).length < _; omega) fun w12 f12 => ⟨_,rfl,?_⟩
 obtain ⟨st12,x12⟩ := st11.call f12
 refine ⟨st12.ld 3 rfl rfl,st12.ld 3 rfl rfl,?_⟩
 have hl4 : lastN { n with log := n.log ++ [(n.term,d)],mtch := n.mtch.set k (lastN n + 1) } = lastN n + 1 := hl3
 rw [hl4,wi_eq (x := n.id - 1) (by omega) (by omega),wi_eq (x := lastN n + 1 + 1) (by omega) (by omega),hkk]
 refine idx0 (by omega) (st12.put 0 rfl (by rw [List.length_map]; simp; omega) fun w13 st13 x13 => ?_)
 have st13 : Ow TA [] w w13 [(bn,.row ((n.next.set k (lastN n + 1 + 1)).map (AV.int .i64))),(bm,.row ((n.mtch.set k (lastN n + 1)).map (AV.int .i64))),(b22,.row (ndC zNd zSl)),(b20,.row (ndC { n with log := n.log ++ [(n.term,d)],mtch := n.mtch.set k (lastN n + 1),next := n.next.set k (lastN n + 1 + 1) } { s with log := v4,mtch := .slice bm 0 n.mtch.length n.mtch.length (some 1),next := .slice bn 0 n.next.length n.next.length (some 1) }))] := by
  have := st13
  simp only [stN] at this
  rw [put_set hk2] at this
  exact this
 have r13 := (r11.x x12).x x13
 have nr13 := lg { n with log := n.log ++ [(n.term,d)],mtch := n.mtch.set k (lastN n + 1),next := n.next.set k (lastN n + 1 + 1) } { s with log := v4,mtch := .slice bm 0 n.mtch.length n.mtch.length (some 1),next := .slice bn 0 n.next.length n.next.length (some 1) } w13 st13 ⟨rfl,rfl,rfl,rfl,rfl,rfl,rfl,rfl⟩ (by rw [List.length_set]) (by rw [List.length_set]) r13
 have ek : k = (n.id - 1).toNat := by omega
 subst ek
 obtain ⟨st16,_,_⟩ := st13.drop
 obtain ⟨st17,_,_⟩ := st16.drop
 refine ⟨_,_,_,_,_,_,_,_,_,_,_,_,_,_,_,_,_,_,_,st17.ldN 1 rfl rfl rfl,?_⟩
 refine s101 hh st17.mem st17.P0.pos nr13 c3 (by show (n.log ++ [(n.term,d)]).length < _; omega) (by show (n.mtch.set _ _).length < _; rw [List.length_set]; omega) fun w14 f14 nr14 => ⟨_,_,_,_,_,_,_,_,_,_,_,_,_,_,_,_,_,_,_,rfl,?_⟩
 obtain ⟨st14,x14⟩ := st17.call f14
 refine gd_t nr14.ok (st14.put 0 rfl (Nat.le_of_ble_eq_true rfl) fun w15 st15 x15 => ⟨_,_,_,_,_,_,_,_,_,_,_,_,_,_,_,_,_,_,_,st15.ldN 0 rfl rfl rfl,?_⟩)
 have nr15 := NR.xa nr14 x15.xw.xa
 exact hK _ w15 st15.fr (nr15.xa ⟨fun _ _ _ a b d => ⟨a.1,b.1,d⟩⟩)
end
end Go.Proofs.YtghoifolghelnaaGreat
/-
 The reference: Propose,Sure and Compact.
 No condition beyond those that each theorem names.
-/
set_option linter.unusedSimpArgs false
open Go.Sx
set_option linter.unusedVariables false
set_option linter.unusedSimpArgs false
namespace Go.Proofs.YtghoifolghelnaaGreat
section
variable {hk : Hook} {A A' B : Nat → Prop} {I : List Nat} {w0 w w' : AW} {K : AV → AW → Prop} {n : Nd} {s : Sl} {v out : AV} {W bs bm bn bv : Nat} {ms : List Msg} {dr : Int} {L : Obs} {U U' : List Nat}
theorem none_of {b22 b20 : Nat} {r1 : List AV} (st : Ow TA [] w w' [(b22,.row (ndC zNd zSl)),(b20,.row (ndC n s))]) (hK : ∀ w',Fr w.size w w' → K (.tup (.agg (ndC zNd zSl) :: r1)) w') : onM (AW.putCells w' b22 0 (ndC zNd zSl)) fun w_46 =>
  ∃ res_47 res_48 res_49 res_50 res_51 res_52 res_53 res_54 : Int,∃ res_55 res_56 : AV,∃ res_57 : Int,∃ res_58 res_59 res_60 res_61 : AV,∃ res_62 res_63 res_64 : Int,∃ res_65 : AV,ldN 19 w_46 b22 0 = some (.agg [(ii res_47),(ii res_48),(.int .u8 res_49),(ii res_50),(ii res_51),(ii res_52),(ii res_53),(ii res_54),res_55,res_56,(ii res_57),res_58,res_59,res_60,res_61,(ii res_62),(ii res_63),(ii res_64),res_65]) ∧
  K (.tup ((.agg [(ii res_47),(ii res_48),(.int .u8 res_49),(ii res_50),(ii res_51),(ii res_52),(ii res_53),(ii res_54),res_55,res_56,(ii res_57),res_58,res_59,res_60,res_61,(ii res_62),(ii res_63),(ii res_64),res_65]) :: r1)) w_46 :=
 st.put 0 rfl (Nat.le_of_ble_eq_true rfl) fun w28 st28 x28 => ⟨_,_,_,_,_,_,_,_,_,_,_,_,_,_,_,_,_,_,_,st28.ldN 0 rfl rfl rfl,hK _ st28.fr⟩
set_option maxRecDepth 20000 in
theorem s16 {d : Byts} {dv : AV} (hh : HK hk) (hm : Mem w) (hpos : 0 < w.size) (h : NR TA w n s) (sm : Sm n) (hd : (rL rU).rd TA w [dv] d) (hK : ∀ r w', Fr w.size w w' → ProR n d w' r → K r w') : Cl Tryz.prog hk 16 [.agg (ndC n s), dv] w K := by
  refine in16 (hh.no _ _ _ (by decide) (by decide)) ?_
  unfold F16
  have pv : Pv TA w := ⟨hm, hpos, fun _ _ => trivial⟩
  refine gd_t h.ok (pv.st.new' fun b20 w21 st21 x21 => st21.new' fun b22 w23 st23 x23 => ?_)
  have st23 : Ow TA [] w w23 [(b22, .row (ndC zNd zSl)), (b20, .row (ndC n s))] := st23
  refine ⟨_, _, _, _, _, _, _, _, _, _, _, _, _, _, _, _, _, _, _, st23.ldN 1 rfl rfl rfl, ?_⟩
  refine s56 hh st23.mem (h.arg hm st23).outs sm fun c w5 f5 hc => ⟨_, rfl, ?_⟩
  obtain ⟨st5, x5⟩ := st23.call f5
  have nr5 := h.arg hm st5
  cases c with
  | false =>
    have hn : ¬ RightN n := fun hr => absurd (hc.2 hr) (by decide)
    have e : proE n d = 2 := by unfold proE; rw [if_pos hn]
    exact ifT_t (none_of st5 fun w' f => hK _ _ f (.inl ⟨by rw [e]; decide, by rw [e]⟩))
  | true =>
  have hr := hc.1 rfl
  refine ifT_f ⟨_, st5.ld 1 rfl rfl, ifT_nd (fun h2 => none_of st5 fun w' f => ?_) fun h2 => ⟨_, (st5.arg hm hd).len', ifT_d (fun h3 => none_of st5 fun w' f => ?_) fun h3 => onM_s (v := s.log) (st5.ld 1 rfl rfl) ⟨_, nr5.log.len', ifT_d (fun h4 => none_of st5 fun w' f => ?_) fun h4 => ?_⟩⟩⟩
  · have e : proE n d = 220 := by unfold proE; rw [if_neg (not_not_intro hr), if_pos h2]
    exact hK _ _ f (.inl ⟨by rw [e]; decide, by rw [e]⟩)
  · have e : proE n d = 3 := by unfold proE; rw [if_neg (not_not_intro hr), if_neg (not_not_intro h2), if_pos (by omega)]
    exact hK _ _ f (.inl ⟨by rw [e]; decide, by rw [e]⟩)
  · have e : proE n d = 5 := by unfold proE; rw [if_neg (not_not_intro hr), if_neg (not_not_intro h2), if_neg (by omega), if_pos (by omega)]
    exact hK _ _ f (.inl ⟨by rw [e]; decide, by rw [e]⟩)
  have h0 : proE n d = 0 := by unfold proE; rw [if_neg (not_not_intro hr), if_neg (not_not_intro h2), if_neg (by omega), if_neg (by omega)]
  have pc := hr.pc (by omega) h2
  have hdl : d.length ≤ 60000 := by omega
  refine ⟨_, _, _, _, _, _, _, _, _, _, _, _, _, _, _, _, _, _, _, st5.ldN 1 rfl rfl rfl, ?_⟩
  refine s57 hh st5.mem st5.P0.pos nr5 pc (st5.arg hm hd) hdl fun s6 w6 f6 nr6 => ⟨_, _, _, _, _, _, _, _, _, _, _, _, _, _, _, _, _, _, _, rfl, ?_⟩
  obtain ⟨st6, x6⟩ := st5.call f6
  have nr6 : NR (fz TA [b22, b20]) w6 (putN n d) s6 := NR.ou st5 nr6 fun _ _ => trivial
  refine gd_t nr6.ok (st6.put 1 rfl (Nat.le_of_ble_eq_true rfl) fun w7 st7 x7 => ?_)
  have st7 : Ow TA [] w w7 [(b22, .row (ndC zNd zSl)), (b20, .row (ndC (putN n d) s6))] := st7
  have nr7 : NR (fz TA [b22, b20]) w7 (putN n d) s6 := NR.xa nr6 x7.xw.xa
  refine ⟨_, _, _, _, _, _, _, _, _, _, _, _, _, _, _, _, _, _, _, st7.ldN 1 rfl rfl rfl, _, _, _, _, _, _, _, _, _, _, _, _, _, _, _, _, _, _, _, st7.ldN 1 rfl rfl rfl, _, _, _, _, _, _, _, _, _, _, _, _, _, _, _, _, _, _, _, st7.ldN 1 rfl rfl rfl, ?_⟩
  have hb := hr.base.2
  unfold G40 at hb
  have hlen : (putN n d).log.length < 2 ^ 40 := by show (n.log ++ [(n.term, d)]).length < _; simp; omega
  refine s58 hh st7.mem nr7 hr.base.1 (by show n.base < _; omega) hlen fun w8 f8 => ⟨_, rfl, ?_⟩
  obtain ⟨st8, x8⟩ := st7.call f8
  have nr8 : NR (fz TA [b22, b20]) w8 (putN n d) s6 := NR.xa nr7 x8.xw.xa
  refine ⟨st8.ldN 1 rfl rfl rfl, st8.ldN 1 rfl rfl rfl, ?_⟩
  refine s59 hh st8.mem st8.P0.pos nr8 (pc.sc hdl) fun o w9 f9 ro => ?_
  obtain ⟨st9, x9⟩ := st8.call f9
  have ro9 : (rL rM).rd (fz TA [b22, b20]) w9 [o] (allTo (putN n d) n.size.toNat) := Rp.rd.ou st8 ro fun _ _ => trivial
  have nr9 : NR (fz TA [b22, b20]) w9 (putN n d) s6 := NR.xa nr8 x9.xw.xa
  refine ⟨st9.ldN 1 rfl rfl rfl, gd_t nr9.ok (st9.put 0 rfl (Nat.le_of_ble_eq_true rfl) fun w10 st10 x10 => ⟨_, _, _, _, _, _, _, _, _, _, _, _, _, _, _, _, _, _, _, st10.ldN 0 rfl rfl rfl, ?_⟩)⟩
  exact hK _ w10 st10.fr (.inr ⟨hr, h0, s6, o, rfl, (NR.xa nr9 x10.xw.xa).outs, (ro9.x x10).out⟩)
set_option maxRecDepth 20000 in
theorem s22 (hh : HK hk) (hm : Mem w) (hpos : 0 < w.size) (h : NR TA w n s) (sm : Sm n) (hK : ∀ r w', Fr w.size w w' → SurR n w' r → K r w') : Cl Tryz.prog hk 22 [.agg (ndC n s)] w K := by
  refine in22 (hh.no _ _ _ (by decide) (by decide)) ?_
  unfold F22
  have pv : Pv TA w := ⟨hm, hpos, fun _ _ => trivial⟩
  refine gd_t h.ok (pv.st.new' fun b20 w21 st21 x21 => st21.new' fun b22 w23 st23 x23 => ?_)
  have st23 : Ow TA [] w w23 [(b22, .row (ndC zNd zSl)), (b20, .row (ndC n s))] := st23
  refine ⟨_, _, _, _, _, _, _, _, _, _, _, _, _, _, _, _, _, _, _, st23.ldN 1 rfl rfl rfl, ?_⟩
  refine s56 hh st23.mem (h.arg hm st23).outs sm fun c w5 f5 hc => ⟨_, rfl, ?_⟩
  obtain ⟨st5, x5⟩ := st23.call f5
  have nr5 := h.arg hm st5
  cases c with
  | false =>
    have hn : ¬ RightN n := fun hr => absurd (hc.2 hr) (by decide)
    exact ifT_t (none_of st5 fun w' f => hK _ _ f (.inl ⟨hn, rfl⟩))
  | true =>
  have hr := hc.1 rfl
  have hseen := hr.seen
  have hsz := hr.size
  have hrl := hr.reads.2
  have hkl := sureK_le n
  refine ifT_f (join_of (fun l w' => w' = w5 ∧ l = [ii (sureK n : Int)]) ?_ fun J hJ => ?_)
  · rintro l w14 ⟨rfl, rfl⟩
    obtain ⟨p1, hs1, hp1⟩ := nr5.reads.cut (i := 0) (j := sureK n) (Nat.zero_le _) hkl (.inr ⟨rfl, rfl⟩) (.inl rfl)
    rw [List.drop_zero] at hp1
    obtain ⟨p2, hs2, hp2⟩ := nr5.reads.cut (i := sureK n) (j := n.reads.length) hkl (Nat.le_refl _) (.inl rfl) (.inr ⟨rfl, rfl⟩)
    rw [List.take_length] at hp2
    refine ⟨_, rfl, fun _ => onM_s (v := s.reads) (st5.ld 1 rfl rfl) (onM_s hs1 (onM_s (v := s.reads) (st5.ld 1 rfl rfl) (onM_s hs2 (gd_t hp2.ok1 (st5.put 1 rfl (Nat.le_of_ble_eq_true rfl) fun w17 st17 x17 => ?_)))))⟩
    have st17 : Ow TA [] w w17 [(b22, .row (ndC zNd zSl)), (b20, .row (ndC (sureN n) { s with reads := p2 }))] := st17
    have nr17 : NR (fz TA [b22, b20]) w17 (sureN n) { s with reads := p2 } := ⟨(h.arg hm st17).snap, (h.arg hm st17).log, (h.arg hm st17).votes, (h.arg hm st17).next, (h.arg hm st17).mtch, (h.arg hm st17).seen, hp2.x x17⟩
    refine ⟨_, _, _, _, _, _, _, _, _, _, _, _, _, _, _, _, _, _, _, st17.ldN 1 rfl rfl rfl, gd_t nr17.ok (st17.put 0 rfl (Nat.le_of_ble_eq_true rfl) fun w18 st18 x18 => ⟨_, _, _, _, _, _, _, _, _, _, _, _, _, _, _, _, _, _, _, st18.ldN 0 rfl rfl rfl, ?_⟩)⟩
    exact hK _ _ st18.fr (.inr ⟨hr, { s with reads := p2 }, p1, rfl, (NR.xa nr17 x18.xw.xa).outs, ((hp1.x x17).x x18).out⟩)
  · refine loopP_ind (fun m lv w5' => ∃ i : Nat, w5' = w5 ∧ i ≤ n.reads.length ∧ m = n.reads.length - i ∧ lv = [ii i] ∧ ∀ j, (hj : j < n.reads.length) → j < i → decide (ruleF n.seen < n.reads[j].2.2) = false) ?_ ⟨0, rfl, Nat.zero_le _, rfl, rfl, fun j _ hj => by omega⟩
    rintro m lv w5' ⟨i, rfl, hi, rfl, rfl, hno⟩ R ih
    refine ⟨_, rfl, fun _ => onM_s (v := s.reads) (st5.ld 1 rfl rfl) ⟨_, nr5.reads.len', ifT_d (fun hcc => ?_) fun hcc => hJ _ _ ⟨rfl, ?_⟩⟩⟩
    · have hil : i < n.reads.length := by omega
      refine onM_s (v := s.reads) (st5.ld 1 rfl rfl) (rdg_at nr5.reads hil fun b o _ _ ho _ => ⟨_, ho, onM_s (v := s.seen) (st5.ld 1 rfl rfl) (s70 hh nr5.seen.rsI (by omega) fun r hrule => ⟨_, rfl, ho, st5.ld 1 rfl rfl, ?_⟩)⟩)
      have er := ruleF_eq hrule
      subst er
      refine ifT_d (fun hle => ?_) fun hle => hJ _ _ ⟨rfl, ?_⟩
      · refine ih (n.reads.length - (i + 1)) (by omega) _ _ ⟨i + 1, rfl, hil, rfl, by rw [wi_eq (by omega) (by omega)]; rfl, fun j hj hji => ?_⟩
        rcases (show j < i ∨ j = i by omega) with h | rfl
        · exact hno j hj h
        · rw [decide_eq_false_iff_not]; omega
      · have e : sureK n = i := (List.findIdx_eq hil).2 ⟨by rw [decide_eq_true_eq]; omega, fun j hj => by simpa using hno j (by omega) hj⟩
        rw [e]
    · have e : sureK n = n.reads.length := List.findIdx_eq_length.2 fun y hy => by
        obtain ⟨j, hj, e⟩ := List.getElem_of_mem hy
        rw [← e]; exact hno j hj (by omega)
      rw [e, show i = n.reads.length by omega]
set_option maxRecDepth 20000 in
theorem s24 {i : Int} {d : Byts} {dv : AV} (hh : HK hk) (hm : Mem w) (hpos : 0 < w.size) (h : NR TA w n s) (sm : Sm n) (hlog : n.log.length < 2 ^ 29) (hd : (rL rU).rd TA w [dv] d) (hK : ∀ r w', Fr w.size w w' → ComR n i d w' r → K r w') : Cl Tryz.prog hk 24 [.agg (ndC n s), ii i, dv] w K := by
  refine in24 (hh.no _ _ _ (by decide) (by decide)) ?_
  unfold F24
  have pv : Pv TA w := ⟨hm, hpos, fun _ _ => trivial⟩
  refine gd_t h.ok (pv.st.new' fun b20 w21 st21 x21 => st21.new' fun b22 w23 st23 x23 => ?_)
  have st23 : Ow TA [] w w23 [(b22, .row (ndC zNd zSl)), (b20, .row (ndC n s))] := st23
  refine ⟨_, _, _, _, _, _, _, _, _, _, _, _, _, _, _, _, _, _, _, st23.ldN 1 rfl rfl rfl, ?_⟩
  refine s56 hh st23.mem (h.arg hm st23).outs sm fun c w5 f5 hc => ⟨_, rfl, ?_⟩
  obtain ⟨st5, x5⟩ := st23.call f5
  have nr5 := h.arg hm st5
  cases c with
  | false =>
    have hn : ¬ RightN n := fun hr => absurd (hc.2 hr) (by decide)
    have e : comE n i d = 2 := by unfold comE; rw [if_pos hn]
    exact ifT_t (none_of st5 fun w' f => hK _ _ f (.inl ⟨by rw [e]; decide, by rw [e]⟩))
  | true =>
  have hr := hc.1 rfl
  have hb := hr.base.2
  have hcm := hr.commit
  unfold G40 at hb
  unfold lastN at hcm
  refine ifT_f ⟨_, st5.ld 1 rfl rfl, ifT_d (fun h1 => none_of st5 fun w' f => ?_) fun h1 => ⟨_, st5.ld 1 rfl rfl, ifT_d (fun h2 => none_of st5 fun w' f => ?_) fun h2 => ifT_d (fun h3 => none_of st5 fun w' f => ?_) fun h3 => ⟨_, (st5.arg hm hd).len', ifT_d (fun h4 => none_of st5 fun w' f => ?_) fun h4 => ?_⟩⟩⟩
  · have e : comE n i d = 2 := by unfold comE; rw [if_neg (not_not_intro hr), if_pos h1]
    exact hK _ _ f (.inl ⟨by rw [e]; decide, by rw [e]⟩)
  · have e : comE n i d = 2 := by unfold comE; rw [if_neg (not_not_intro hr), if_neg h1, if_pos h2]
    exact hK _ _ f (.inl ⟨by rw [e]; decide, by rw [e]⟩)
  · have e : comE n i d = 2 := by unfold comE; rw [if_neg (not_not_intro hr), if_neg h1, if_neg h2, if_pos h3]
    exact hK _ _ f (.inl ⟨by rw [e]; decide, by rw [e]⟩)
  · have e : comE n i d = 3 := by unfold comE; rw [if_neg (not_not_intro hr), if_neg h1, if_neg h2, if_neg h3, if_pos (by omega)]
    exact hK _ _ f (.inl ⟨by rw [e]; decide, by rw [e]⟩)
  have h0 : comE n i d = 0 := by unfold comE; rw [if_neg (not_not_intro hr), if_neg h1, if_neg h2, if_neg h3, if_neg (by omega)]
  refine ⟨_, _, _, _, _, _, _, _, _, _, _, _, _, _, _, _, _, _, _, st5.ldN 1 rfl rfl rfl, ?_⟩
  refine s64 hh st5.mem nr5 hr.base.1 (by omega) (by omega) fun w6 f6 => ⟨_, _, rfl, ?_⟩
  obtain ⟨st6, x6⟩ := st5.call f6
  have nr6 := h.arg hm st6
  obtain ⟨k, hkk⟩ : ∃ k : Nat, i - n.base = (k : Int) := Int.eq_ofNat_of_zero_le (by omega)
  refine onM_s (v := s.log) (st6.ld 1 rfl rfl) ⟨_, st6.ld 1 rfl rfl, ?_⟩
  rw [wi_eq (x := i - n.base) (by omega) (by omega), hkk]
  obtain ⟨p1, hs1, hp1⟩ := nr6.log.cut (i := k) (j := n.log.length) (by omega) (Nat.le_refl _) (.inl rfl) (.inr ⟨rfl, rfl⟩)
  rw [List.take_length] at hp1
  have hd1 := hd.ok1
  refine onM_s hs1 (gd_t hp1.ok1 (st6.put 1 rfl (Nat.le_of_ble_eq_true rfl) fun w7 st7 x7 => st7.put 1 rfl (Nat.le_of_ble_eq_true rfl) fun w8 st8 x8 => st8.put 1 rfl (Nat.le_of_ble_eq_true rfl) fun w9 st9 x9 => gd_t hd1 (st9.put 1 rfl (Nat.le_of_ble_eq_true rfl) fun w10 st10 x10 => ?_)))
  have ek : k = (i - n.base).toNat := by omega
  subst ek
  have st10 : Ow TA [] w w10 [(b22, .row (ndC zNd zSl)), (b20, .row (ndC (compN n i d) { s with log := p1, snap := dv }))] := st10
  have x610 : Xt [b22, b20] w6 [b22, b20] w10 := Xt.trans x7 (Xt.trans x8 (Xt.trans x9 x10))
  have q := h.arg hm st10
  have nr10 : NR (fz TA [b22, b20]) w10 (compN n i d) { s with log := p1, snap := dv } := ⟨st10.arg hm hd, hp1.x x610, q.votes, q.next, q.mtch, q.seen, q.reads⟩
  refine ⟨_, _, _, _, _, _, _, _, _, _, _, _, _, _, _, _, _, _, _, st10.ldN 1 rfl rfl rfl, gd_t nr10.ok (st10.put 0 rfl (Nat.le_of_ble_eq_true rfl) fun w11 st11 x11 => ⟨_, _, _, _, _, _, _, _, _, _, _, _, _, _, _, _, _, _, _, st11.ldN 0 rfl rfl rfl, ?_⟩)⟩
  exact hK _ w11 st11.fr (.inr ⟨hr, h0, { s with log := p1, snap := dv }, rfl, (NR.xa nr10 x11.xw.xa).outs⟩)
end
end Go.Proofs.YtghoifolghelnaaGreat
/-
 The reference: Read.
 No condition beyond those that each theorem names.
-/
set_option linter.unusedSimpArgs false
open Go.Sx
set_option linter.unusedVariables false
set_option linter.unusedSimpArgs false
namespace Go.Proofs.YtghoifolghelnaaGreat
section
variable {hk : Hook} {A A' B : Nat → Prop} {I : List Nat} {w0 w w' : AW} {K : AV → AW → Prop} {n : Nd} {s : Sl} {v out : AV} {W bs bm bn bv : Nat} {ms : List Msg} {dr : Int} {L L' : Obs} {U U' : List Nat}
theorem CN.base {b : Nat} {wb w1 : AW} (h : CN wb w n s b) (hs : w1.size ≤ wb.size) : CN w1 w n s b := by
 have e : ∀ {α : Type} {r : Rp α} {cs : List AV} {x : α},r.rd (fz (Nw wb) [b]) w cs x → r.rd (fz (Nw w1) [b]) w cs x := fun h => h.xa ⟨fun c f _ a a' d => ⟨⟨Nat.le_trans hs a.1,a.2⟩,⟨Nat.le_trans hs a'.1,a'.2⟩,d⟩⟩
 exact ⟨Nat.le_trans hs h.le,h.box,h.eq,e h.snap,e h.log,e h.votes,e h.next,e h.mtch,h.reads.xa hs fun c hc => ⟨Nat.le_trans hs hc.1,hc.2⟩⟩
theorem CN.keep {b : Nat} {wb : AW} (h : CN wb w n s b) (st : Ow A I w0 w L) (x : Xt (ids L) w (ids L') w') (hL : ∀ c,wb.size ≤ c → c ∉ ids L) : CN wb w' n s b := by
 have e : ∀ {α : Type} {r : Rp α} {cs : List AV} {y : α},r.rd (fz (Nw wb) [b]) w cs y → r.rd (fz (Nw wb) [b]) w' cs y := fun h => h.xa ⟨fun c f all a a' d => ⟨a,a',(x.xw.a c f all (hL c a.1) (hL f a'.1) d).2.2⟩⟩
 refine ⟨h.le,(x.g b (h.box.lt st.mem) (hL b h.le)).2.trans h.box,h.eq,e h.snap,e h.log,e h.votes,e h.next,e h.mtch,?_⟩
 have g : Ga rG (fz (fz (Nw wb) [b]) (ids L)) wb w s.reads n.reads := h.reads.xa (Nat.le_refl _) fun c hc => ⟨hc,hL c hc.1⟩
 have g' : Ga rG (fz (fz (Nw wb) [b]) (ids L')) wb w' s.reads n.reads := Ga.x' g x st
 exact g'.out
theorem CN.ok {b : Nat} {wb : AW} (h : CN wb w n s b) : (ndC n s).all okCell = true := by
 have o1 := h.snap.ok1
 have o2 := h.log.ok1
 have o3 := h.votes.ok1
 have o4 := h.next.ok1
 have o5 := h.mtch.ok1
 have o6 : okCell s.seen = true := by rw [h.eq]; rfl
 have o7 := (h.reads.rd (by decide)).ok1
 simp only [List.all_cons,o1,o2,o3,o4,o5,o6,o7]; rfl
set_option maxRecDepth 20000 in
theorem s65 (hh : HK hk) (hm : Mem w) (hpos : 0 < w.size) (h : NR B w n s) (sm : Sm n) (hd : ∀ e ∈ n.log,e.2.length ≤ 140737488351232) (hb : Bd n) (hse : 0 < n.seen.length) (hK : ∀ s' b w',Fr w.size w w' → CN w w' n s' b → K (.agg (ndC n s')) w') : Cl Tryz.prog hk 65 [.agg (ndC n s)] w K := by
 refine in65 (hh.no _ _ _ (by decide) (by decide)) ?_
 unfold F65
 have pv : Pv TA w := ⟨hm,hpos,fun _ _ => trivial⟩
 refine gd_t h.ok (pv.st.new' fun b20 w21 st21 x21 => st21.new' fun b22 w23 st23 x23 => ?_)
 have st23 : Ow TA [] w w23 [(b22,.row (ndC zNd zSl)),(b20,.row (ndC n s))] := st23
 refine ⟨_,_,_,_,_,_,_,_,_,_,_,_,_,_,_,_,_,_,_,st23.ldN 1 rfl rfl rfl,?_⟩
 refine s11 hh st23.mem st23.P0.pos (h.ar hm st23) sm hd hb fun s1 w1 f1 _ hcn => ⟨_,_,_,_,_,_,_,_,_,_,_,_,_,_,_,_,_,_,_,rfl,?_⟩
 obtain ⟨b,cn⟩ := hcn hse
 obtain ⟨st1,x1⟩ := st23.call f1
 refine gd_t cn.ok (st1.put 0 rfl (Nat.le_of_ble_eq_true rfl) fun w2 st2 x2 => ⟨_,_,_,_,_,_,_,_,_,_,_,_,_,_,_,_,_,_,_,st2.ldN 0 rfl rfl rfl,?_⟩)
 have cn2 := cn.keep st1 x2 fun c hc => (st23.P.new c hc).2
 exact hK _ b w2 st2.fr (cn2.base st23.fr.size)
set_option maxRecDepth 20000 in
theorem s20 {id : Int} (hh : HK hk) (hm : Mem w) (hpos : 0 < w.size) (h : NR TA w n s) (sm : Sm n) (hlog : n.log.length < 2 ^ 29) (hK : ∀ r w', Fr w.size w w' → ReaR n id w' r → K r w') : Cl Tryz.prog hk 20 [.agg (ndC n s), ii id] w K := by
  refine in20 (hh.no _ _ _ (by decide) (by decide)) ?_
  unfold F20
  have pv : Pv TA w := ⟨hm, hpos, fun _ _ => trivial⟩
  refine gd_t h.ok (pv.st.new' fun b20 w21 st21 x21 => st21.new' fun b22 w23 st23 x23 => ?_)
  have st23 : Ow TA [] w w23 [(b22, .row (ndC zNd zSl)), (b20, .row (ndC n s))] := st23
  refine ⟨_, _, _, _, _, _, _, _, _, _, _, _, _, _, _, _, _, _, _, st23.ldN 1 rfl rfl rfl, ?_⟩
  refine s56 hh st23.mem (h.arg hm st23).outs sm fun c w5 f5 hc => ⟨_, rfl, ?_⟩
  obtain ⟨st5, x5⟩ := st23.call f5
  have nr5 := h.arg hm st5
  cases c with
  | false =>
    have hn : ¬ RightN n := fun hr => absurd (hc.2 hr) (by decide)
    have e : reaE n = 2 := by unfold reaE; rw [if_pos hn]
    exact ifT_t (none_of st5 fun w' f => hK _ _ f (.inl ⟨by rw [e]; decide, by rw [e]⟩))
  | true =>
  have hr := hc.1 rfl
  have hb := hr.base.2
  unfold G40 at hb
  refine ifT_f ⟨_, _, _, _, _, _, _, _, _, _, _, _, _, _, _, _, _, _, _, st5.ldN 1 rfl rfl rfl, _, st5.ld 1 rfl rfl, ?_⟩
  refine s64 hh st5.mem nr5 hr.base.1 (by omega) sm.log fun w6 f6 => ⟨_, _, rfl, ?_⟩
  obtain ⟨st6, x6⟩ := st5.call f6
  have nr6 := h.arg hm st6
  refine ⟨_, st6.ld 1 rfl rfl, ifT_nd (fun h2 => none_of st6 fun w' f => ?_) fun h2 => ⟨_, st6.ld 1 rfl rfl, ifT_nd (fun h3 => none_of st6 fun w' f => ?_) fun h3 => onM_s (v := s.reads) (st6.ld 1 rfl rfl) ⟨_, nr6.reads.len', ifT_d (fun h4 => none_of st6 fun w' f => ?_) fun h4 => ⟨_, st6.ld 1 rfl rfl, ifT_d (fun h5 => none_of st6 fun w' f => ?_) fun h5 => ?_⟩⟩⟩⟩
  · have e : reaE n = 220 := by unfold reaE; rw [if_neg (not_not_intro hr), if_pos (show notLed n from .inl h2)]
    exact hK _ _ f (.inl ⟨by rw [e]; decide, by rw [e]⟩)
  · have e : reaE n = 220 := by unfold reaE; rw [if_neg (not_not_intro hr), if_pos (show notLed n from .inr h3)]
    exact hK _ _ f (.inl ⟨by rw [e]; decide, by rw [e]⟩)
  all_goals have hnl : ¬ notLed n := fun hx => hx.elim (fun a => a h2) fun a => a h3
  · have e : reaE n = 5 := by unfold reaE; rw [if_neg (not_not_intro hr), if_neg hnl, if_pos (by omega)]
    exact hK _ _ f (.inl ⟨by rw [e]; decide, by rw [e]⟩)
  · have e : reaE n = 5 := by unfold reaE; rw [if_neg (not_not_intro hr), if_neg hnl, if_neg (by omega), if_pos h5]
    exact hK _ _ f (.inl ⟨by rw [e]; decide, by rw [e]⟩)
  have h0 : reaE n = 0 := by unfold reaE; rw [if_neg (not_not_intro hr), if_neg hnl, if_neg (by omega), if_neg h5]
  have hro := hr.round
  have hro2 := hro.2
  unfold G40 at hro2
  have hg5 : n.round ≠ 1099511627776 := h5
  have hid := hr.id
  have hsz := hr.size
  have hseen := hr.seen
  have hvl := hr.votes
  have hnl2 := hr.next
  have hml := hr.mtch
  have hrl := hr.reads.2
  have hsn := hr.snap
  refine ⟨_, _, _, _, _, _, _, _, _, _, _, _, _, _, _, _, _, _, _, st6.ldN 1 rfl rfl rfl, ?_⟩
  refine s65 hh st6.mem st6.P0.pos nr6 sm (fun e he => by have := risP_data hr.log e he; omega) ⟨by omega, by omega, by omega, by omega, by omega, by omega, by omega⟩ (by omega) fun s1 bs w7 f7 cn => ⟨_, _, _, _, _, _, _, _, _, _, _, _, _, _, _, _, _, _, _, rfl, ?_⟩
  obtain ⟨st7, x7⟩ := st6.push (p := (bs, .row (n.seen.map (AV.int .i64)))) rfl f7 cn.le cn.box
  have cv : ∀ {α : Type} {r : Rp α} {cs : List AV} {y : α}, r.rd (fz (Nw w6) [bs]) w7 cs y → r.rd (fz (Nw w6) [bs, b22, b20]) w7 cs y := fun h => h.xa ⟨fun c f all a a' d => ⟨⟨a.1, fun hx => by
    rcases List.mem_cons.1 hx with hx | hx
    · exact a.2 (by rw [hx]; exact List.mem_cons_self)
    · exact (st6.P.new c a.1).2 hx⟩, ⟨a'.1, fun hx => by
    rcases List.mem_cons.1 hx with hx | hx
    · exact a'.2 (by rw [hx]; exact List.mem_cons_self)
    · exact (st6.P.new f a'.1).2 hx⟩, d⟩⟩
  have k1 := cv cn.snap
  have k2 := cv cn.log
  have k3 := cv cn.votes
  have k4 := cv cn.next
  have k5 := cv cn.mtch
  have k6 : Ga rG (fz (Nw w6) [bs, b22, b20]) w6 w7 s1.reads n.reads := cn.reads.xa (Nat.le_refl _) fun c hc => ⟨hc.1, fun hx => by
    rcases List.mem_cons.1 hx with hx | hx
    · exact hc.2 (by rw [hx]; exact List.mem_cons_self)
    · exact (st6.P.new c hc.1).2 hx⟩
  refine gd_t cn.ok (st7.put 2 rfl (Nat.le_of_ble_eq_true rfl) fun w8 st8 x8 => ?_)
  have st8 : Ow TA [] w w8 [(bs, .row (n.seen.map (AV.int .i64))), (b22, .row (ndC zNd zSl)), (b20, .row (ndC n s1))] := st8
  refine ⟨_, st8.ld 2 rfl rfl, ?_⟩
  rw [wi_eq (x := n.round + 1) (by omega) (by omega)]
  refine st8.put 2 rfl (Nat.le_of_ble_eq_true rfl) fun w9 st9 x9 => ?_
  have st9 : Ow TA [] w w9 [(bs, .row (n.seen.map (AV.int .i64))), (b22, .row (ndC zNd zSl)), (b20, .row (ndC { n with round := n.round + 1 } s1))] := st9
  refine onM_s (v := s1.seen) (st9.ld 2 rfl rfl) ⟨_, st9.ld 2 rfl rfl, _, st9.ld 2 rfl rfl, ?_⟩
  obtain ⟨k, hkk⟩ : ∃ k : Nat, n.id - 1 = (k : Int) := Int.eq_ofNat_of_zero_le (by omega)
  have hk1 : k < n.seen.length := by omega
  rw [cn.eq, wi_eq (x := n.id - 1) (by omega) (by omega), hkk]
  refine idx0 hk1 (st9.put 0 rfl (by rw [List.length_map]; simp; omega) fun w10 st10 x10 => ?_)
  have st10 : Ow TA [] w w10 [(bs, .row ((n.seen.set k (n.round + 1)).map (AV.int .i64))), (b22, .row (ndC zNd zSl)), (b20, .row (ndC { n with round := n.round + 1, seen := n.seen.set k (n.round + 1) } s1))] := by
    have := st10
    simp only [stN] at this
    rw [put_set hk1] at this
    exact this
  have x710 : Xt [bs, b22, b20] w7 [bs, b22, b20] w10 := Xt.trans x8 (Xt.trans x9 x10)
  have g10 : Ga rG (fz (Nw w6) [bs, b22, b20]) w6 w10 s1.reads n.reads := Ga.x' k6 x710 st7
  refine onM_s (v := s1.reads) (st10.ld 2 rfl rfl) ⟨_, st10.ld 2 rfl rfl, _, st10.ld 2 rfl rfl, new_of st10.mem fun w11 f11 b11 z11 => ?_⟩
  obtain ⟨st11, x11⟩ := st10.call f11
  have hs6 : w6.size ≤ w10.size := Nat.le_trans x7.s x710.s
  have hs11 := f11.size
  have g11 : Ga rG (fz (Nw w6) [bs, b22, b20]) w w11 s1.reads n.reads := (Ga.x' g10 x11 st10).xa st6.fr.size fun _ h => h
  have hx : (rL rG).rd (fz (Nw w6) [bs, b22, b20]) w11 [.slice w10.size 0 1 1 none] [(id, n.commit, n.round + 1)] := Box.rd1 b11 ⟨hs6, (st10.P.new _ (Nat.le_refl _)).2⟩ rfl
  refine Ow.app (r := rG) st11 g11 hx (by decide) (fun c hc => by show w6.size ≤ c; omega) (by simp; omega) (by simp; omega) fun v12 w12 st12 x12 g12 => ?_
  have r12 := g12.rd (by decide)
  refine gd_t r12.ok1 (st12.put 2 rfl (Nat.le_of_ble_eq_true rfl) fun w13 st13 x13 => ?_)
  have ek : k = (n.id - 1).toNat := by omega
  subst ek
  have st13 : Ow TA [] w w13 [(bs, .row ((n.seen.set (n.id - 1).toNat (n.round + 1)).map (AV.int .i64))), (b22, .row (ndC zNd zSl)), (b20, .row (ndC (readN n id) { s1 with reads := v12 }))] := st13
  obtain ⟨st14, _, _⟩ := st13.drop
  have up : ∀ {α : Type} {r : Rp α} {cs : List AV} {y : α}, r.rd (fz (Nw w6) [bs, b22, b20]) w7 cs y → r.rd (fz TA [b22, b20]) w13 cs y := fun h => ((((Rp.rd.x h x710).x x11).y x12).x x13).xa ⟨fun c f all a a' d => ⟨⟨trivial, fun hx => a.2 (List.mem_cons_of_mem _ hx)⟩, ⟨trivial, fun hx => a'.2 (List.mem_cons_of_mem _ hx)⟩, d⟩⟩
  have hbs : Box w13 bs _ := (st13.box _ List.mem_cons_self rfl).1
  have hnb : bs ∉ [b22, b20] := (List.nodup_cons.1 st13.nd).1
  have nr13 : NR (fz TA [b22, b20]) w13 (readN n id) { s1 with reads := v12 } := ⟨up k1, up k2, up k3, up k4, up k5, by
    show (rL rI).rd _ _ [s1.seen] (n.seen.set _ _)
    rw [cn.eq]
    exact Box.sl hbs ⟨trivial, hnb⟩ (by rw [List.length_set]) (Chk.ints.2 rfl) (Nat.le_refl _) (by simp [okEx, rI]), (r12.x x13).xa ⟨fun c f all a a' d => ⟨⟨trivial, fun hx => a.2 (List.mem_cons_of_mem _ hx)⟩, ⟨trivial, fun hx => a'.2 (List.mem_cons_of_mem _ hx)⟩, d⟩⟩⟩
  have sc := hr.sc hlog h2
  refine ⟨_, _, _, _, _, _, _, _, _, _, _, _, _, _, _, _, _, _, _, st14.ldN 1 rfl rfl rfl, _, _, _, _, _, _, _, _, _, _, _, _, _, _, _, _, _, _, _, st14.ldN 1 rfl rfl rfl, ?_⟩
  refine s59 hh st14.mem st14.P0.pos nr13 ⟨sc.size, sc.base, sc.log, sc.data, sc.snap, sc.len, sc.next⟩ fun o w15 f15 ro => ?_
  obtain ⟨st15, x15⟩ := st14.call f15
  have ro15 : (rL rM).rd (fz TA [b22, b20]) w15 [o] (allTo (readN n id) n.size.toNat) := Rp.rd.ou st14 ro fun _ _ => trivial
  have nr15 : NR (fz TA [b22, b20]) w15 (readN n id) { s1 with reads := v12 } := NR.xa nr13 x15.xw.xa
  refine ⟨st15.ldN 1 rfl rfl rfl, gd_t nr15.ok (st15.put 0 rfl (Nat.le_of_ble_eq_true rfl) fun w16 st16 x16 => ⟨_, _, _, _, _, _, _, _, _, _, _, _, _, _, _, _, _, _, _, st16.ldN 0 rfl rfl rfl, ?_⟩)⟩
  exact hK _ w16 st16.fr (.inr ⟨hr, h0, _, o, rfl, (NR.xa nr15 x16.xw.xa).outs, (ro15.x x16).out⟩)
end
end Go.Proofs.YtghoifolghelnaaGreat
/-
 What the functions of this chapter do.
 No condition beyond those that each theorem names.
-/
set_option linter.unusedSimpArgs false
open Go.Sx
set_option linter.unusedVariables false
namespace Go.Proofs.YtghoifolghelnaaGreat
def F17 (hk : Hook) (a0 b1 : AV) (w : AW) (K : AV → AW → Prop) : Prop :=
 ∃ x2 : Int,lenS a0 = some (ii x2) ∧
 ∃ x3 : Int,lenS b1 = some (ii x3) ∧
 ifT (!decide (x2 = x3)) (K (.bool false) w)
 (loopP [(ii 0)] w fun R4 l_5 w6 => ∃ i7 : Int,l_5 = [(ii i7)] ∧ ∀ _ : Nat → AV,
  ∃ x8 : Int,lenS a0 = some (ii x8) ∧
  ifT (decide (i7 < x8)) (atP (idxS 12 a0 (ii i7)) fun b9 o10 =>
  ∃ x11 : List UInt8,∃ x12 x13 x14 x15 x16 x17 x18 x19 : Int,∃ x20 : Bool,∃ x21 x22 : AV,ldN 12 w6 b9 o10 = some (.agg [(.str x11),(.int .u8 x12),(ii x13),(ii x14),(ii x15),(ii x16),(ii x17),(ii x18),(ii x19),(.bool x20),x21,x22]) ∧
  atP (idxS 12 b1 (ii i7)) fun b23 o24 =>
  ∃ x25 : List UInt8,∃ x26 x27 x28 x29 x30 x31 x32 x33 : Int,∃ x34 : Bool,∃ x35 x36 : AV,ldN 12 w6 b23 o24 = some (.agg [(.str x25),(.int .u8 x26),(ii x27),(ii x28),(ii x29),(ii x30),(ii x31),(ii x32),(ii x33),(.bool x34),x35,x36]) ∧
  Cl Tryz.prog hk 60 [(.agg [(.str x11),(.int .u8 x12),(ii x13),(ii x14),(ii x15),(ii x16),(ii x17),(ii x18),(ii x19),(.bool x20),x21,x22]),(.agg [(.str x25),(.int .u8 x26),(ii x27),(ii x28),(ii x29),(ii x30),(ii x31),(ii x32),(ii x33),(.bool x34),x35,x36])] w6 fun r37 w38 =>
  ∃ x39 : Bool,r37 = (.bool x39) ∧
  ifT (!x39) (K (.bool false) w38)
  (R4 [(ii (wi (i7 + 1)))] w38))
  (K (.bool true) w6))
def adv17 : Adv := (.sq .lf (.sq (.sq .lf (.cd (.sq .lf .lf) .lf)) (.sq (.sq .lf (.bl (.lp [(5,.sc (.int .i64))] (.sq (.sq .lf (.cd .lf .lf)) (.sq (.bl (.sq .lf (.cd (.sq .lf .lf) .lf))) .lf))))) (.sq .lf .lf))))
set_option maxRecDepth 100000 in
theorem in17 {hk : Hook} {a0 b1 : AV} {w : AW} {K : AV → AW → Prop} (hn : hk 17 [a0,b1] w = none) (h : F17 hk a0 b1 w K) : Cl Tryz.prog hk 17 [a0,b1] w K :=
 fnS_ok (adv := adv17) Tryz.func17 hn (Eq.mpr (by kernel_rfl) h)
set_option maxRecDepth 100000 in
def F18 (hk : Hook) (a0 a1 a2 a3 a4 a5 a6 a7 : Int) (a8 a9 : AV) (a10 : Int) (a11 a12 a13 a14 : AV) (a15 a16 a17 : Int) (a18 : AV) (b19 b20 b21 b22 b23 b24 b25 b26 : Int) (b27 b28 : AV) (b29 : Int) (b30 b31 b32 b33 : AV) (b34 b35 b36 : Int) (b37 : AV) (w : AW) (K : AV → AW → Prop) : Prop :=
 gd (List.all [(ii a0),(ii a1),(.int .u8 a2),(ii a3),(ii a4),(ii a5),(ii a6),(ii a7),a8,a9,(ii a10),a11,a12,a13,a14,(ii a15),(ii a16),(ii a17),a18] okCell) (
 new w [(ii a0),(ii a1),(.int .u8 a2),(ii a3),(ii a4),(ii a5),(ii a6),(ii a7),a8,a9,(ii a10),a11,a12,a13,a14,(ii a15),(ii a16),(ii a17),a18] fun b38 w39 =>
 gd (List.all [(ii b19),(ii b20),(.int .u8 b21),(ii b22),(ii b23),(ii b24),(ii b25),(ii b26),b27,b28,(ii b29),b30,b31,b32,b33,(ii b34),(ii b35),(ii b36),b37] okCell) (
 new w39 [(ii b19),(ii b20),(.int .u8 b21),(ii b22),(ii b23),(ii b24),(ii b25),(ii b26),b27,b28,(ii b29),b30,b31,b32,b33,(ii b34),(ii b35),(ii b36),b37] fun b40 w41 =>
 ∃ x42 : Int,ld w41 b38 (0 + 0) = some (ii x42) ∧
 ∃ x43 : Int,ld w41 b40 (0 + 0) = some (ii x43) ∧
 ifT (!decide (x42 = x43)) (K (.bool false) w41)
 (∃ x44 : Int,ld w41 b38 (0 + 1) = some (ii x44) ∧
 ∃ x45 : Int,ld w41 b40 (0 + 1) = some (ii x45) ∧
 ifT (!decide (x44 = x45)) (K (.bool false) w41)
 (∃ x46 : Int,ld w41 b38 (0 + 2) = some (.int .u8 x46) ∧
 ∃ x47 : Int,ld w41 b40 (0 + 2) = some (.int .u8 x47) ∧
 ifT (!decide (x46 = x47)) (K (.bool false) w41)
 (∃ x48 : Int,ld w41 b38 (0 + 3) = some (ii x48) ∧
 ∃ x49 : Int,ld w41 b40 (0 + 3) = some (ii x49) ∧
 ifT (!decide (x48 = x49)) (K (.bool false) w41)
 (∃ x50 : Int,ld w41 b38 (0 + 4) = some (ii x50) ∧
 ∃ x51 : Int,ld w41 b40 (0 + 4) = some (ii x51) ∧
 ifT (!decide (x50 = x51)) (K (.bool false) w41)
 (∃ x52 : Int,ld w41 b38 (0 + 5) = some (ii x52) ∧
 ∃ x53 : Int,ld w41 b40 (0 + 5) = some (ii x53) ∧
 ifT (!decide (x52 = x53)) (K (.bool false) w41)
 (∃ x54 : Int,ld w41 b38 (0 + 6) = some (ii x54) ∧
 ∃ x55 : Int,ld w41 b40 (0 + 6) = some (ii x55) ∧
 ifT (!decide (x54 = x55)) (K (.bool false) w41)
 (∃ x56 : Int,ld w41 b38 (0 + 7) = some (ii x56) ∧
 ∃ x57 : Int,ld w41 b40 (0 + 7) = some (ii x57) ∧
 ifT (!decide (x56 = x57)) (K (.bool false) w41)
 (∃ x58 : Int,ld w41 b38 (0 + 10) = some (ii x58) ∧
 ∃ x59 : Int,ld w41 b40 (0 + 10) = some (ii x59) ∧
 ifT (!decide (x58 = x59)) (K (.bool false) w41)
 (∃ x60 : Int,ld w41 b38 (0 + 15) = some (ii x60) ∧
 ∃ x61 : Int,ld w41 b40 (0 + 15) = some (ii x61) ∧
 ifT (!decide (x60 = x61)) (K (.bool false) w41)
 (∃ x62 : Int,ld w41 b38 (0 + 16) = some (ii x62) ∧
 ∃ x63 : Int,ld w41 b40 (0 + 16) = some (ii x63) ∧
 ifT (!decide (x62 = x63)) (K (.bool false) w41)
 (∃ x64 : Int,ld w41 b38 (0 + 17) = some (ii x64) ∧
 ∃ x65 : Int,ld w41 b40 (0 + 17) = some (ii x65) ∧
 ifT (!decide (x64 = x65)) (K (.bool false) w41)
 (onM (ld w41 b38 (0 + 11)) fun x66 =>
 ∃ x67 : Int,lenS x66 = some (ii x67) ∧
 onM (ld w41 b40 (0 + 11)) fun x68 =>
 ∃ x69 : Int,lenS x68 = some (ii x69) ∧
 ifT (!decide (x67 = x69)) (K (.bool false) w41)
 (loopP [(ii 0)] w41 fun R70 l_71 w72 => ∃ i73 : Int,l_71 = [(ii i73)] ∧ ∀ _ : Nat → AV,
  onM (ld w72 b38 (0 + 11)) fun x74 =>
  ∃ x75 : Int,lenS x74 = some (ii x75) ∧
  ifT (decide (i73 < x75)) (onM (ld w72 b38 (0 + 11)) fun x76 =>
  atP (idxS 1 x76 (ii i73)) fun b77 o78 =>
  ∃ x79 : Bool,ld w72 b77 o78 = some (.bool x79) ∧
  onM (ld w72 b40 (0 + 11)) fun x80 =>
  atP (idxS 1 x80 (ii i73)) fun b81 o82 =>
  ∃ x83 : Bool,ld w72 b81 o82 = some (.bool x83) ∧
  ifT (!(x79 == x83)) (K (.bool false) w72)
  (R70 [(ii (wi (i73 + 1)))] w72))
  (onM (ld w72 b38 (0 + 8)) fun x84 =>
 onM (ld w72 b40 (0 + 8)) fun x85 =>
 Cl Tryz.prog hk 61 [x84,x85] w72 fun r86 w87 =>
 ∃ x88 : Bool,r86 = (.bool x88) ∧
 ifT x88 (onM (ld w87 b38 (0 + 9)) fun x89 =>
 onM (ld w87 b40 (0 + 9)) fun x90 =>
 Cl Tryz.prog hk 62 [x89,x90] w87 fun r91 w92 =>
 ∃ x93 : Bool,r91 = (.bool x93) ∧
 ifT x93 (onM (ld w92 b38 (0 + 12)) fun x94 =>
 onM (ld w92 b40 (0 + 12)) fun x95 =>
 Cl Tryz.prog hk 63 [x94,x95] w92 fun r96 w97 =>
 ∃ x98 : Bool,r96 = (.bool x98) ∧
 ifT x98 (onM (ld w97 b38 (0 + 13)) fun x99 =>
 onM (ld w97 b40 (0 + 13)) fun x100 =>
 Cl Tryz.prog hk 63 [x99,x100] w97 fun r101 w102 =>
 ∃ x103 : Bool,r101 = (.bool x103) ∧
 ifT x103 (onM (ld w102 b38 (0 + 14)) fun x104 =>
 onM (ld w102 b40 (0 + 14)) fun x105 =>
 Cl Tryz.prog hk 63 [x104,x105] w102 fun r106 w107 =>
 ∃ x108 : Bool,r106 = (.bool x108) ∧
 ifT x108 (onM (ld w107 b38 (0 + 18)) fun x109 =>
 onM (ld w107 b40 (0 + 18)) fun x110 =>
 Cl Tryz.prog hk 23 [x109,x110] w107 fun r111 w112 =>
 ∃ x113 : Bool,r111 = (.bool x113) ∧
 K (.bool x113) w112)
 (K (.bool false) w107))
 (K (.bool false) w102))
 (K (.bool false) w97))
 (K (.bool false) w92))
 (K (.bool false) w87)))))))))))))))))
def adv18 : Adv := (.sq .lf (.sq (.sq .lf (.cd (.sq .lf .lf) .lf)) (.sq (.sq .lf (.cd (.sq .lf .lf) .lf)) (.sq (.sq .lf (.bl (.lp [(5,.sc (.int .i64))] (.sq (.sq .lf (.cd .lf .lf)) (.sq (.bl (.sq .lf (.cd (.sq .lf .lf) .lf))) .lf))))) (.sq .lf .lf)))))
set_option maxRecDepth 100000 in
theorem in18 {hk : Hook} {a0 a1 a2 a3 a4 a5 a6 a7 : Int} {a8 a9 : AV} {a10 : Int} {a11 a12 a13 a14 : AV} {a15 a16 a17 : Int} {a18 : AV} {b19 b20 b21 b22 b23 b24 b25 b26 : Int} {b27 b28 : AV} {b29 : Int} {b30 b31 b32 b33 : AV} {b34 b35 b36 : Int} {b37 : AV} {w : AW} {K : AV → AW → Prop} (hn : hk 18 [(.agg [(ii a0),(ii a1),(.int .u8 a2),(ii a3),(ii a4),(ii a5),(ii a6),(ii a7),a8,a9,(ii a10),a11,a12,a13,a14,(ii a15),(ii a16),(ii a17),a18]),(.agg [(ii b19),(ii b20),(.int .u8 b21),(ii b22),(ii b23),(ii b24),(ii b25),(ii b26),b27,b28,(ii b29),b30,b31,b32,b33,(ii b34),(ii b35),(ii b36),b37])] w = none) (h : F18 hk a0 a1 a2 a3 a4 a5 a6 a7 a8 a9 a10 a11 a12 a13 a14 a15 a16 a17 a18 b19 b20 b21 b22 b23 b24 b25 b26 b27 b28 b29 b30 b31 b32 b33 b34 b35 b36 b37 w K) : Cl Tryz.prog hk 18 [(.agg [(ii a0),(ii a1),(.int .u8 a2),(ii a3),(ii a4),(ii a5),(ii a6),(ii a7),a8,a9,(ii a10),a11,a12,a13,a14,(ii a15),(ii a16),(ii a17),a18]),(.agg [(ii b19),(ii b20),(.int .u8 b21),(ii b22),(ii b23),(ii b24),(ii b25),(ii b26),b27,b28,(ii b29),b30,b31,b32,b33,(ii b34),(ii b35),(ii b36),b37])] w K :=
 fnS_ok (adv := adv18) Tryz.func18 hn (Eq.mpr (by kernel_rfl) h)
def F19 (hk : Hook) (n0 n1 n2 n3 n4 n5 n6 n7 : Int) (n8 n9 : AV) (n10 : Int) (n11 n12 n13 n14 : AV) (n15 n16 n17 : Int) (n18 out19 : AV) (w : AW) (K : AV → AW → Prop) : Prop :=
 gd (List.all [(ii n0),(ii n1),(.int .u8 n2),(ii n3),(ii n4),(ii n5),(ii n6),(ii n7),n8,n9,(ii n10),n11,n12,n13,n14,(ii n15),(ii n16),(ii n17),n18] okCell) (
 new w [(ii n0),(ii n1),(.int .u8 n2),(ii n3),(ii n4),(ii n5),(ii n6),(ii n7),n8,n9,(ii n10),n11,n12,n13,n14,(ii n15),(ii n16),(ii n17),n18] fun b20 w21 =>
 ∃ x22 : Int,ld w21 b20 (0 + 0) = some (ii x22) ∧
 ifT (decide (x22 = 0)) (∃ x23 : Int,ld w21 b20 (0 + 1) = some (ii x23) ∧
 ifT (decide (x23 = 0)) (onM (ld w21 b20 (0 + 9)) fun x24 =>
 ∃ x25 : Int,lenS x24 = some (ii x25) ∧
 ifT (decide (x25 = 0)) (onM (ld w21 b20 (0 + 11)) fun x26 =>
 ∃ x27 : Int,lenS x26 = some (ii x27) ∧
 ifT (decide (x27 = 0)) (∃ x28 : Int,lenS out19 = some (ii x28) ∧
 K (.bool (decide (x28 = 0))) w21)
 (K (.bool false) w21))
 (K (.bool false) w21))
 (K (.bool false) w21))
 (K (.bool false) w21))
def adv19 : Adv := (.sq .lf (.sq .lf .lf))
set_option maxRecDepth 100000 in
theorem in19 {hk : Hook} {n0 n1 n2 n3 n4 n5 n6 n7 : Int} {n8 n9 : AV} {n10 : Int} {n11 n12 n13 n14 : AV} {n15 n16 n17 : Int} {n18 out19 : AV} {w : AW} {K : AV → AW → Prop} (hn : hk 19 [(.agg [(ii n0),(ii n1),(.int .u8 n2),(ii n3),(ii n4),(ii n5),(ii n6),(ii n7),n8,n9,(ii n10),n11,n12,n13,n14,(ii n15),(ii n16),(ii n17),n18]),out19] w = none) (h : F19 hk n0 n1 n2 n3 n4 n5 n6 n7 n8 n9 n10 n11 n12 n13 n14 n15 n16 n17 n18 out19 w K) : Cl Tryz.prog hk 19 [(.agg [(ii n0),(ii n1),(.int .u8 n2),(ii n3),(ii n4),(ii n5),(ii n6),(ii n7),n8,n9,(ii n10),n11,n12,n13,n14,(ii n15),(ii n16),(ii n17),n18]),out19] w K :=
 fnS_ok (adv := adv19) Tryz.func19 hn (Eq.mpr (by kernel_rfl) h)
def F23 (hk : Hook) (a0 b1 : AV) (w : AW) (K : AV → AW → Prop) : Prop :=
 ∃ x2 : Int,lenS a0 = some (ii x2) ∧
 ∃ x3 : Int,lenS b1 = some (ii x3) ∧
 ifT (!decide (x2 = x3)) (K (.bool false) w)
 (loopP [(ii 0)] w fun R4 l_5 w6 => ∃ i7 : Int,l_5 = [(ii i7)] ∧ ∀ _ : Nat → AV,
  ∃ x8 : Int,lenS a0 = some (ii x8) ∧
  ifT (decide (i7 < x8)) (atP (idxS 3 a0 (ii i7)) fun b9 o10 =>
  ∃ x11 x12 x13 : Int,ldN 3 w6 b9 o10 = some (.agg [(ii x11),(ii x12),(ii x13)]) ∧
  atP (idxS 3 b1 (ii i7)) fun b14 o15 =>
  ∃ x16 x17 x18 : Int,ldN 3 w6 b14 o15 = some (.agg [(ii x16),(ii x17),(ii x18)]) ∧
  ∃ x19 : Bool,binOpA Tryz.prog .neq 74 false (.agg [(ii x11),(ii x12),(ii x13)]) (.agg [(ii x16),(ii x17),(ii x18)]) = some (.bool x19) ∧
  ifT x19 (K (.bool false) w6)
  (R4 [(ii (wi (i7 + 1)))] w6))
  (K (.bool true) w6))
def adv23 : Adv := (.sq .lf (.sq (.sq .lf (.cd (.sq .lf .lf) .lf)) (.sq (.sq .lf (.bl (.lp [(5,.sc (.int .i64))] (.sq (.sq .lf (.cd .lf .lf)) (.sq (.bl (.sq .lf (.cd (.sq .lf .lf) .lf))) .lf))))) (.sq .lf .lf))))
set_option maxRecDepth 100000 in
theorem in23 {hk : Hook} {a0 b1 : AV} {w : AW} {K : AV → AW → Prop} (hn : hk 23 [a0,b1] w = none) (h : F23 hk a0 b1 w K) : Cl Tryz.prog hk 23 [a0,b1] w K :=
 fnS_ok (adv := adv23) Tryz.func23 hn (Eq.mpr (by kernel_rfl) h)
def F60 (hk : Hook) (a0 : List UInt8) (a1 a2 a3 a4 a5 a6 a7 a8 : Int) (a9 : Bool) (a10 a11 : AV) (b12 : List UInt8) (b13 b14 b15 b16 b17 b18 b19 b20 : Int) (b21 : Bool) (b22 b23 : AV) (w : AW) (K : AV → AW → Prop) : Prop :=
 gd (List.all [(.str a0),(.int .u8 a1),(ii a2),(ii a3),(ii a4),(ii a5),(ii a6),(ii a7),(ii a8),(.bool a9),a10,a11] okCell) (
 new w [(.str a0),(.int .u8 a1),(ii a2),(ii a3),(ii a4),(ii a5),(ii a6),(ii a7),(ii a8),(.bool a9),a10,a11] fun b24 w25 =>
 gd (List.all [(.str b12),(.int .u8 b13),(ii b14),(ii b15),(ii b16),(ii b17),(ii b18),(ii b19),(ii b20),(.bool b21),b22,b23] okCell) (
 new w25 [(.str b12),(.int .u8 b13),(ii b14),(ii b15),(ii b16),(ii b17),(ii b18),(ii b19),(ii b20),(.bool b21),b22,b23] fun b26 w27 =>
 ∃ x28 : List UInt8,ld w27 b24 (0 + 0) = some (.str x28) ∧
 ∃ x29 : List UInt8,ld w27 b26 (0 + 0) = some (.str x29) ∧
 ifT (x28 == x29) (∃ x30 : Int,ld w27 b24 (0 + 1) = some (.int .u8 x30) ∧
 ∃ x31 : Int,ld w27 b26 (0 + 1) = some (.int .u8 x31) ∧
 ifT (decide (x30 = x31)) (∃ x32 : Int,ld w27 b24 (0 + 2) = some (ii x32) ∧
 ∃ x33 : Int,ld w27 b26 (0 + 2) = some (ii x33) ∧
 ifT (decide (x32 = x33)) (∃ x34 : Int,ld w27 b24 (0 + 3) = some (ii x34) ∧
 ∃ x35 : Int,ld w27 b26 (0 + 3) = some (ii x35) ∧
 ifT (decide (x34 = x35)) (∃ x36 : Int,ld w27 b24 (0 + 4) = some (ii x36) ∧
 ∃ x37 : Int,ld w27 b26 (0 + 4) = some (ii x37) ∧
 ifT (decide (x36 = x37)) (∃ x38 : Int,ld w27 b24 (0 + 5) = some (ii x38) ∧
 ∃ x39 : Int,ld w27 b26 (0 + 5) = some (ii x39) ∧
 ifT (decide (x38 = x39)) (∃ x40 : Int,ld w27 b24 (0 + 6) = some (ii x40) ∧
 ∃ x41 : Int,ld w27 b26 (0 + 6) = some (ii x41) ∧
 ifT (decide (x40 = x41)) (∃ x42 : Int,ld w27 b24 (0 + 7) = some (ii x42) ∧
 ∃ x43 : Int,ld w27 b26 (0 + 7) = some (ii x43) ∧
 ifT (decide (x42 = x43)) (∃ x44 : Int,ld w27 b24 (0 + 8) = some (ii x44) ∧
 ∃ x45 : Int,ld w27 b26 (0 + 8) = some (ii x45) ∧
 ifT (decide (x44 = x45)) (∃ x46 : Bool,ld w27 b24 (0 + 9) = some (.bool x46) ∧
 ∃ x47 : Bool,ld w27 b26 (0 + 9) = some (.bool x47) ∧
 ifT (x46 == x47) (onM (ld w27 b24 (0 + 10)) fun x48 =>
 onM (ld w27 b26 (0 + 10)) fun x49 =>
 Cl Tryz.prog hk 62 [x48,x49] w27 fun r50 w51 =>
 ∃ x52 : Bool,r50 = (.bool x52) ∧
 ifT x52 (onM (ld w51 b24 (0 + 11)) fun x53 =>
 onM (ld w51 b26 (0 + 11)) fun x54 =>
 Cl Tryz.prog hk 61 [x53,x54] w51 fun r55 w56 =>
 ∃ x57 : Bool,r55 = (.bool x57) ∧
 K (.bool x57) w56)
 (K (.bool false) w51))
 (K (.bool false) w27))
 (K (.bool false) w27))
 (K (.bool false) w27))
 (K (.bool false) w27))
 (K (.bool false) w27))
 (K (.bool false) w27))
 (K (.bool false) w27))
 (K (.bool false) w27))
 (K (.bool false) w27))
 (K (.bool false) w27)))
def adv60 : Adv := (.sq .lf (.sq .lf .lf))
set_option maxRecDepth 100000 in
theorem in60 {hk : Hook} {a0 : List UInt8} {a1 a2 a3 a4 a5 a6 a7 a8 : Int} {a9 : Bool} {a10 a11 : AV} {b12 : List UInt8} {b13 b14 b15 b16 b17 b18 b19 b20 : Int} {b21 : Bool} {b22 b23 : AV} {w : AW} {K : AV → AW → Prop} (hn : hk 60 [(.agg [(.str a0),(.int .u8 a1),(ii a2),(ii a3),(ii a4),(ii a5),(ii a6),(ii a7),(ii a8),(.bool a9),a10,a11]),(.agg [(.str b12),(.int .u8 b13),(ii b14),(ii b15),(ii b16),(ii b17),(ii b18),(ii b19),(ii b20),(.bool b21),b22,b23])] w = none) (h : F60 hk a0 a1 a2 a3 a4 a5 a6 a7 a8 a9 a10 a11 b12 b13 b14 b15 b16 b17 b18 b19 b20 b21 b22 b23 w K) : Cl Tryz.prog hk 60 [(.agg [(.str a0),(.int .u8 a1),(ii a2),(ii a3),(ii a4),(ii a5),(ii a6),(ii a7),(ii a8),(.bool a9),a10,a11]),(.agg [(.str b12),(.int .u8 b13),(ii b14),(ii b15),(ii b16),(ii b17),(ii b18),(ii b19),(ii b20),(.bool b21),b22,b23])] w K :=
 fnS_ok (adv := adv60) Tryz.func60 hn (Eq.mpr (by kernel_rfl) h)
def F61 (hk : Hook) (a0 b1 : AV) (w : AW) (K : AV → AW → Prop) : Prop :=
 ∃ x2 : List UInt8,b2s w a0 = some (.str x2) ∧
 ∃ x3 : List UInt8,b2s w b1 = some (.str x3) ∧
 K (.bool (x2 == x3)) w
def adv61 : Adv := (.sq .lf (.sq .lf .lf))
set_option maxRecDepth 100000 in
theorem in61 {hk : Hook} {a0 b1 : AV} {w : AW} {K : AV → AW → Prop} (hn : hk 61 [a0,b1] w = none) (h : F61 hk a0 b1 w K) : Cl Tryz.prog hk 61 [a0,b1] w K :=
 fnS_ok (adv := adv61) Tryz.func61 hn (Eq.mpr (by kernel_rfl) h)
def F62 (hk : Hook) (a0 b1 : AV) (w : AW) (K : AV → AW → Prop) : Prop :=
 ∃ x2 : Int,lenS a0 = some (ii x2) ∧
 ∃ x3 : Int,lenS b1 = some (ii x3) ∧
 ifT (!decide (x2 = x3)) (K (.bool false) w)
 (loopP [(ii 0)] w fun R4 l_5 w6 => ∃ i7 : Int,l_5 = [(ii i7)] ∧ ∀ _ : Nat → AV,
  ∃ x8 : Int,lenS a0 = some (ii x8) ∧
  ifT (decide (i7 < x8)) (atP (idxS 2 a0 (ii i7)) fun b9 o10 =>
  ∃ x11 : Int,ld w6 b9 (o10 + 0) = some (ii x11) ∧
  atP (idxS 2 b1 (ii i7)) fun b12 o13 =>
  ∃ x14 : Int,ld w6 b12 (o13 + 0) = some (ii x14) ∧
  ifT (!decide (x11 = x14)) (K (.bool false) w6)
  (atP (idxS 2 a0 (ii i7)) fun b15 o16 =>
  onM (ld w6 b15 (o16 + 1)) fun x17 =>
  atP (idxS 2 b1 (ii i7)) fun b18 o19 =>
  onM (ld w6 b18 (o19 + 1)) fun x20 =>
  Cl Tryz.prog hk 61 [x17,x20] w6 fun r21 w22 =>
  ∃ x23 : Bool,r21 = (.bool x23) ∧
  ifT (!x23) (K (.bool false) w22)
  (R4 [(ii (wi (i7 + 1)))] w22)))
  (K (.bool true) w6))
def adv62 : Adv := (.sq .lf (.sq (.sq .lf (.cd (.sq .lf .lf) .lf)) (.sq (.sq .lf (.bl (.lp [(5,.sc (.int .i64))] (.sq (.sq .lf (.cd .lf .lf)) (.sq (.bl (.sq .lf (.cd (.sq .lf .lf) .lf))) .lf))))) (.sq .lf .lf))))
set_option maxRecDepth 100000 in
theorem in62 {hk : Hook} {a0 b1 : AV} {w : AW} {K : AV → AW → Prop} (hn : hk 62 [a0,b1] w = none) (h : F62 hk a0 b1 w K) : Cl Tryz.prog hk 62 [a0,b1] w K :=
 fnS_ok (adv := adv62) Tryz.func62 hn (Eq.mpr (by kernel_rfl) h)
def F63 (hk : Hook) (a0 b1 : AV) (w : AW) (K : AV → AW → Prop) : Prop :=
 ∃ x2 : Int,lenS a0 = some (ii x2) ∧
 ∃ x3 : Int,lenS b1 = some (ii x3) ∧
 ifT (!decide (x2 = x3)) (K (.bool false) w)
 (loopP [(ii 0)] w fun R4 l_5 w6 => ∃ i7 : Int,l_5 = [(ii i7)] ∧ ∀ _ : Nat → AV,
  ∃ x8 : Int,lenS a0 = some (ii x8) ∧
  ifT (decide (i7 < x8)) (atP (idxS 1 a0 (ii i7)) fun b9 o10 =>
  ∃ x11 : Int,ld w6 b9 o10 = some (ii x11) ∧
  atP (idxS 1 b1 (ii i7)) fun b12 o13 =>
  ∃ x14 : Int,ld w6 b12 o13 = some (ii x14) ∧
  ifT (!decide (x11 = x14)) (K (.bool false) w6)
  (R4 [(ii (wi (i7 + 1)))] w6))
  (K (.bool true) w6))
def adv63 : Adv := (.sq .lf (.sq (.sq .lf (.cd (.sq .lf .lf) .lf)) (.sq (.sq .lf (.bl (.lp [(5,.sc (.int .i64))] (.sq (.sq .lf (.cd .lf .lf)) (.sq (.bl (.sq .lf (.cd (.sq .lf .lf) .lf))) .lf))))) (.sq .lf .lf))))
set_option maxRecDepth 100000 in
theorem in63 {hk : Hook} {a0 b1 : AV} {w : AW} {K : AV → AW → Prop} (hn : hk 63 [a0,b1] w = none) (h : F63 hk a0 b1 w K) : Cl Tryz.prog hk 63 [a0,b1] w K :=
 fnS_ok (adv := adv63) Tryz.func63 hn (Eq.mpr (by kernel_rfl) h)
end Go.Proofs.YtghoifolghelnaaGreat
/-
 What is the same is told to be the same.
 No condition beyond those that each theorem names.
-/
set_option linter.unusedSimpArgs false
open Go.Sx
set_option linter.unusedVariables false
set_option linter.unusedSimpArgs false
namespace Go.Proofs.YtghoifolghelnaaGreat
section
variable {hk : Hook} {A A' B : Nat → Prop} {I : List Nat} {w0 w w' : AW} {K : AV → AW → Prop} {n : Nd} {s s' : Sl} {v v' out : AV} {W bs bm bn bv : Nat} {ms : List Msg} {dr : Int} {L L' : Obs} {U U' : List Nat}
theorem s61 {l : Byts} (hh : HK hk) (h : (rL rU).rd A w [v] l) (h' : (rL rU).rd A' w [v'] l) (hK : K (.bool true) w) : Cl Tryz.prog hk 61 [v,v'] w K := by
 refine in61 (hh.no _ _ _ (by decide) (by decide)) ?_
 unfold F61
 refine ⟨_,h.rsB.str,_,h'.rsB.str,?_⟩
 rw [beq_self_eq_true]; exact hK
theorem s63 {l : List Int} (hh : HK hk) (h : (rL rI).rd A w [v] l) (h' : (rL rI).rd A' w [v'] l) (hl : l.length < 2 ^ 60) (hK : K (.bool true) w) : Cl Tryz.prog hk 63 [v,v'] w K := by
 refine in63 (hh.no _ _ _ (by decide) (by decide)) ?_
 unfold F63
 refine ⟨_,h.len',_,h'.len',ifT_nd (fun hc => absurd rfl hc) fun _ => ?_⟩
 refine loopP_ind (fun m lv w5 => w5 = w ∧ ∃ i : Nat,i ≤ l.length ∧ m = l.length - i ∧ lv = [ii i]) ?_ ⟨rfl,0,Nat.zero_le _,rfl,rfl⟩
 rintro m lv w5 ⟨rfl,i,hi,rfl,rfl⟩ R ih
 refine ⟨_,rfl,fun _ => ⟨_,h.len',ifT_d (fun hc => ?_) fun hc => hK⟩⟩
 refine at_int h (by omega) (by omega) fun b o hld => ⟨_,hld,at_int h' (by omega) (by omega) fun b o hld => ⟨_,hld,ifT_nd (fun hc => absurd rfl hc) fun _ => ?_⟩⟩
 exact ih (l.length - (i + 1)) (by omega) _ _ ⟨rfl,i + 1,by omega,rfl,by rw [wi_eq (by omega) (by omega)]; rfl⟩
theorem s62 {l : List Ent} (hh : HK hk) (h : (rL rE).rd A w [v] l) (h' : (rL rE).rd A' w [v'] l) (hl : l.length < 2 ^ 60) (hK : K (.bool true) w) : Cl Tryz.prog hk 62 [v,v'] w K := by
 refine in62 (hh.no _ _ _ (by decide) (by decide)) ?_
 unfold F62
 refine ⟨_,h.len',_,h'.len',ifT_nd (fun hc => absurd rfl hc) fun _ => ?_⟩
 refine loopP_ind (fun m lv w5 => w5 = w ∧ ∃ i : Nat,i ≤ l.length ∧ m = l.length - i ∧ lv = [ii i]) ?_ ⟨rfl,0,Nat.zero_le _,rfl,rfl⟩
 rintro m lv w5 ⟨rfl,i,hi,rfl,rfl⟩ R ih
 refine ⟨_,rfl,fun _ => ⟨_,h.len',ifT_d (fun hc => ?_) fun hc => hK⟩⟩
 have hil : i < l.length := by omega
 refine ent_at h hil fun b o u _ ho _ _ => ⟨_,ho,ent_at h' hil fun b o u _ ho _ _ => ⟨_,ho,ifT_nd (fun hc => absurd rfl hc) fun _ => ?_⟩⟩
 refine ent_at h hil fun b o u hu _ ho _ => onM_s ho (ent_at h' hil fun b o u' hu' _ ho _ => onM_s ho (s61 hh hu hu' ⟨_,rfl,ifT_f ?_⟩))
 exact ih (l.length - (i + 1)) (by omega) _ _ ⟨rfl,i + 1,by omega,rfl,by rw [wi_eq (by omega) (by omega)]; rfl⟩
theorem eq1I (a : Int) : eq1 Tryz.prog 3 (ii a) (ii a) = some true := by
 have h : ∀ b : Int,eq1 Tryz.prog 3 (ii a) (ii b) = some (decide (a = b)) := fun b => by kernel_rfl
 rw [h,decide_eq_true rfl]
theorem neqG (a b c : Int) : binOpA Tryz.prog .neq 74 false (.agg [ii a,ii b,ii c]) (.agg [ii a,ii b,ii c]) = some (.bool false) := by
 have h : binOpA Tryz.prog .neq 74 false (.agg [ii a,ii b,ii c]) (.agg [ii a,ii b,ii c]) =
  (((eq1 Tryz.prog 3 (ii a) (ii a)).bind fun r => bif r then ((eq1 Tryz.prog 3 (ii b) (ii b)).bind fun r => bif r then ((eq1 Tryz.prog 3 (ii c) (ii c)).bind fun r => bif r then some true else some false) else some false) else some false).map fun b => AV.bool (!b)) := by kernel_rfl
 rw [h,eq1I,eq1I,eq1I]; rfl
theorem s23 {l : List Rdg} (hh : HK hk) (h : (rL rG).rd A w [v] l) (h' : (rL rG).rd A' w [v'] l) (hl : l.length < 2 ^ 60) (hK : K (.bool true) w) : Cl Tryz.prog hk 23 [v,v'] w K := by
 refine in23 (hh.no _ _ _ (by decide) (by decide)) ?_
 unfold F23
 refine ⟨_,h.len',_,h'.len',ifT_nd (fun hc => absurd rfl hc) fun _ => ?_⟩
 refine loopP_ind (fun m lv w5 => w5 = w ∧ ∃ i : Nat,i ≤ l.length ∧ m = l.length - i ∧ lv = [ii i]) ?_ ⟨rfl,0,Nat.zero_le _,rfl,rfl⟩
 rintro m lv w5 ⟨rfl,i,hi,rfl,rfl⟩ R ih
 refine ⟨_,rfl,fun _ => ⟨_,h.len',ifT_d (fun hc => ?_) fun hc => hK⟩⟩
 have hil : i < l.length := by omega
 refine rdg_at h hil fun b o _ _ _ hn => ⟨_,_,_,hn,rdg_at h' hil fun b o _ _ _ hn => ⟨_,_,_,hn,false,?_,ifT_f ?_⟩⟩
 ·generalize l[i].1 = a
  generalize l[i].2.1 = b
  generalize l[i].2.2 = c
  exact neqG a b c
 ·exact ih (l.length - (i + 1)) (by omega) _ _ ⟨rfl,i + 1,by omega,rfl,by rw [wi_eq (by omega) (by omega)]; rfl⟩
theorem s60 {m : Msg} {e sv e' sv' : AV} (hh : HK hk) (hm : Mem w) (h1 : (rL rE).rd A w [e] m.ents) (h2 : (rL rU).rd A w [sv] m.snap) (h1' : (rL rE).rd A' w [e'] m.ents) (h2' : (rL rU).rd A' w [sv'] m.snap) (hl : m.ents.length < 2 ^ 60) (hK : ∀ w',Fr w.size w w' → K (.bool true) w') : Cl Tryz.prog hk 60 [.agg (mC m e sv),.agg (mC m e' sv')] w K := by
 refine in60 (hh.no _ _ _ (by decide) (by decide)) ?_
 unfold F60
 refine gd_t (by simp only [List.all_cons,h1.ok1,h2.ok1]; rfl) (new_of hm fun w1 f1 b1 z1 => gd_t (by simp only [List.all_cons,h1'.ok1,h2'.ok1]; rfl) (new_of f1.mem fun w2 f2 b2 z2 => ?_))
 have b1' := (show Box w1 _ _ from b1).fr f2 (by omega)
 have f := f1.trans' f2 (Nat.le_refl _)
 have x := xa_fr (A := A) hm f
 have x' := xa_fr (A := A') hm f
 have l1 : ∀ {o : Nat} {u : AV},(mC m e sv)[o]? = some u → Sx.ld w2 w.size o = some u := fun h => by rw [b1'.ld]; exact h
 have l2 : ∀ {o : Nat} {u : AV},(mC m e' sv')[o]? = some u → Sx.ld w2 w1.size o = some u := fun h => by rw [b2.ld]; exact h
 have bt : ∀ {X Y : Prop} {b : Bool},X → ifT (b == b) X Y := fun h => by rw [beq_self_eq_true]; exact h
 refine ⟨_,l1 rfl,_,l2 rfl,?_⟩
 rw [beq_self_eq_true]
 refine ifT_t ⟨_,l1 rfl,_,l2 rfl,ifT_d (fun _ => ?_) fun hc => absurd rfl hc⟩
 refine ⟨_,l1 rfl,_,l2 rfl,ifT_d (fun _ => ?_) fun hc => absurd rfl hc⟩
 refine ⟨_,l1 rfl,_,l2 rfl,ifT_d (fun _ => ?_) fun hc => absurd rfl hc⟩
 refine ⟨_,l1 rfl,_,l2 rfl,ifT_d (fun _ => ?_) fun hc => absurd rfl hc⟩
 refine ⟨_,l1 rfl,_,l2 rfl,ifT_d (fun _ => ?_) fun hc => absurd rfl hc⟩
 refine ⟨_,l1 rfl,_,l2 rfl,ifT_d (fun _ => ?_) fun hc => absurd rfl hc⟩
 refine ⟨_,l1 rfl,_,l2 rfl,ifT_d (fun _ => ?_) fun hc => absurd rfl hc⟩
 refine ⟨_,l1 rfl,_,l2 rfl,ifT_d (fun _ => ?_) fun hc => absurd rfl hc⟩
 refine ⟨_,l1 rfl,_,l2 rfl,bt ?_⟩
 exact onM_s (l1 rfl) (onM_s (l2 rfl) (s62 hh (h1.xa x) (h1'.xa x') hl ⟨_,rfl,ifT_t (onM_s (l1 rfl) (onM_s (l2 rfl) (s61 hh (h2.xa x) (h2'.xa x') ⟨_,rfl,hK _ f⟩)))⟩))
theorem s17 {l : List Msg} (hh : HK hk) (hm : Mem w) (h : (rL rM).rd A w [v] l) (h' : (rL rM).rd A' w [v'] l) (hl : l.length < 2 ^ 60) (hd : ∀ m ∈ l,m.ents.length < 2 ^ 60) (hK : ∀ w',Fr w.size w w' → K (.bool true) w') : Cl Tryz.prog hk 17 [v,v'] w K := by
 refine in17 (hh.no _ _ _ (by decide) (by decide)) ?_
 unfold F17
 refine ⟨_,h.len',_,h'.len',ifT_nd (fun hc => absurd rfl hc) fun _ => ?_⟩
 refine loopP_ind (fun m lv w5 => Fr w.size w w5 ∧ ∃ i : Nat,i ≤ l.length ∧ m = l.length - i ∧ lv = [ii i]) ?_ ⟨Fr.refl hm,0,Nat.zero_le _,rfl,rfl⟩
 rintro m lv w5 ⟨f5,i,hi,rfl,rfl⟩ R ih
 have h5 := h.xa (xa_fr hm f5)
 have h5' := h'.xa (xa_fr hm f5)
 refine ⟨_,rfl,fun _ => ⟨_,h5.len',ifT_d (fun hc => ?_) fun hc => hK _ f5⟩⟩
 have hil : i < l.length := by omega
 refine h5.at hil fun b o cs hr hf hn => ?_
 obtain ⟨e,sv,rfl,r1,r2⟩ := hr
 refine ⟨_,_,_,_,_,_,_,_,_,_,_,_,hn,h5'.at hil fun b o cs hr hf hn => ?_⟩
 obtain ⟨e',sv',rfl,r1',r2'⟩ := hr
 refine ⟨_,_,_,_,_,_,_,_,_,_,_,_,hn,s60 hh f5.mem r1 r2 r1' r2' (hd _ (List.getElem_mem hil)) fun w6 f6 => ⟨_,rfl,ifT_f ?_⟩⟩
 exact ih (l.length - (i + 1)) (by omega) _ _ ⟨f5.trans' f6 (Nat.le_refl _),i + 1,by omega,rfl,by rw [wi_eq (by omega) (by omega)]; rfl⟩
set_option maxRecDepth 20000 in
theorem s18 (hh : HK hk) (hm : Mem w) (h : NR A w n s) (h' : NR A' w n s') (hl : n.log.length < 2 ^ 60 ∧ n.votes.length < 2 ^ 60 ∧ n.next.length < 2 ^ 60 ∧ n.mtch.length < 2 ^ 60 ∧ n.seen.length < 2 ^ 60 ∧ n.reads.length < 2 ^ 60) (hK : ∀ w',Fr w.size w w' → K (.bool true) w') : Cl Tryz.prog hk 18 [.agg (ndC n s),.agg (ndC n s')] w K := by
 refine in18 (hh.no _ _ _ (by decide) (by decide)) ?_
 unfold F18
 obtain ⟨l1,l2,l3,l4,l5,l6⟩ := hl
 refine gd_t h.ok (new_of hm fun w1 f1 b1 z1 => gd_t h'.ok (new_of f1.mem fun w2 f2 b2 z2 => ?_))
 have b1' := (show Box w1 _ _ from b1).fr f2 (by omega)
 have f := f1.trans' f2 (Nat.le_refl _)
 have q := h.fr hm f
 have q' := h'.fr hm f
 have g1 : ∀ {o : Nat} {u : AV},(ndC n s)[o]? = some u → Sx.ld w2 w.size o = some u := fun h => by rw [b1'.ld]; exact h
 have g2 : ∀ {o : Nat} {u : AV},(ndC n s')[o]? = some u → Sx.ld w2 w1.size o = some u := fun h => by rw [b2.ld]; exact h
 refine ⟨_,g1 rfl,_,g2 rfl,ifT_nd (fun hc => absurd rfl hc) fun _ => ?_⟩
 refine ⟨_,g1 rfl,_,g2 rfl,ifT_nd (fun hc => absurd rfl hc) fun _ => ?_⟩
 refine ⟨_,g1 rfl,_,g2 rfl,ifT_nd (fun hc => absurd rfl hc) fun _ => ?_⟩
 refine ⟨_,g1 rfl,_,g2 rfl,ifT_nd (fun hc => absurd rfl hc) fun _ => ?_⟩
 refine ⟨_,g1 rfl,_,g2 rfl,ifT_nd (fun hc => absurd rfl hc) fun _ => ?_⟩
 refine ⟨_,g1 rfl,_,g2 rfl,ifT_nd (fun hc => absurd rfl hc) fun _ => ?_⟩
 refine ⟨_,g1 rfl,_,g2 rfl,ifT_nd (fun hc => absurd rfl hc) fun _ => ?_⟩
 refine ⟨_,g1 rfl,_,g2 rfl,ifT_nd (fun hc => absurd rfl hc) fun _ => ?_⟩
 refine ⟨_,g1 rfl,_,g2 rfl,ifT_nd (fun hc => absurd rfl hc) fun _ => ?_⟩
 refine ⟨_,g1 rfl,_,g2 rfl,ifT_nd (fun hc => absurd rfl hc) fun _ => ?_⟩
 refine ⟨_,g1 rfl,_,g2 rfl,ifT_nd (fun hc => absurd rfl hc) fun _ => ?_⟩
 refine ⟨_,g1 rfl,_,g2 rfl,ifT_nd (fun hc => absurd rfl hc) fun _ => ?_⟩
 refine onM_s (g1 rfl) ⟨_,q.votes.len',onM_s (g2 rfl) ⟨_,q'.votes.len',ifT_nd (fun hc => absurd rfl hc) fun _ => ?_⟩⟩
 refine loopP_ind (fun m lv w5 => w5 = w2 ∧ ∃ i : Nat,i ≤ n.votes.length ∧ m = n.votes.length - i ∧ lv = [ii i]) ?_ ⟨rfl,0,Nat.zero_le _,rfl,rfl⟩
 rintro m lv w5 ⟨rfl,i,hi,rfl,rfl⟩ R ih
 refine ⟨_,rfl,fun _ => onM_s (g1 rfl) ⟨_,q.votes.len',ifT_d (fun hc => ?_) fun hc => ?_⟩⟩
 ·refine onM_s (g1 rfl) (at_bool q.votes (by omega) (by omega) fun b o hld => ⟨_,hld,onM_s (g2 rfl) (at_bool q'.votes (by omega) (by omega) fun b o hld => ⟨_,hld,?_⟩)⟩)
  rw [beq_self_eq_true]
  exact ifT_f (ih (n.votes.length - (i + 1)) (by omega) _ _ ⟨rfl,i + 1,by omega,rfl,by rw [wi_eq (by omega) (by omega)]; rfl⟩)
 ·refine onM_s (g1 rfl) (onM_s (g2 rfl) (s61 hh q.snap q'.snap ⟨_,rfl,ifT_t ?_⟩))
  refine onM_s (g1 rfl) (onM_s (g2 rfl) (s62 hh q.log q'.log l1 ⟨_,rfl,ifT_t ?_⟩))
  refine onM_s (g1 rfl) (onM_s (g2 rfl) (s63 hh q.next q'.next l3 ⟨_,rfl,ifT_t ?_⟩))
  refine onM_s (g1 rfl) (onM_s (g2 rfl) (s63 hh q.mtch q'.mtch l4 ⟨_,rfl,ifT_t ?_⟩))
  refine onM_s (g1 rfl) (onM_s (g2 rfl) (s63 hh q.seen q'.seen l5 ⟨_,rfl,ifT_t ?_⟩))
  exact onM_s (g1 rfl) (onM_s (g2 rfl) (s23 hh q.reads q'.reads l6 ⟨_,rfl,hK _ f⟩))
theorem s19 (hh : HK hk) (hm : Mem w) (hK : ∀ w',Fr w.size w w' → K (.bool true) w') : Cl Tryz.prog hk 19 [.agg (ndC zNd zSl),.nilslice] w K := by
 refine in19 (hh.no _ _ _ (by decide) (by decide)) ?_
 unfold F19
 refine gd_t rfl (new_of hm fun w1 f1 b1 z1 => ?_)
 have g1 : ∀ {o : Nat} {u : AV},(ndC zNd zSl)[o]? = some u → Sx.ld w1 w.size o = some u := fun h => by rw [b1.ld]; exact h
 exact ⟨0,g1 rfl,ifT_t ⟨0,g1 rfl,ifT_t (onM_s (g1 rfl) ⟨0,rfl,ifT_t (onM_s (g1 rfl) ⟨0,rfl,ifT_t ⟨0,rfl,hK _ f1⟩⟩)⟩)⟩⟩
theorem s7 {m : List AV} (hh : HK hk) (hm : Mem w) (h : NR A w n s) (hK : ∀ (c : Bool) w',Fr w.size w w' → (c = false → n.log.length ≤ 300 ∧ n.reads.length ≤ 100) → K (.bool c) w') : Cl Tryz.prog hk 7 [.agg (ndC n s),.agg (mC zMs .nilslice .nilslice)] w K := by
 refine in7 (hh.no _ _ _ (by decide) (by decide)) ?_
 unfold F7
 refine gd_t h.ok (new_of hm fun w1 f1 b1 z1 => gd_t rfl (new_of f1.mem fun w2 f2 b2 z2 => ?_))
 have b1' := (show Box w1 _ _ from b1).fr f2 (by omega)
 have f := f1.trans' f2 (Nat.le_refl _)
 have q := h.fr hm f
 have g1 : ∀ {o : Nat} {u : AV},(ndC n s)[o]? = some u → Sx.ld w2 w.size o = some u := fun h => by rw [b1'.ld]; exact h
 have g2 : ∀ {o : Nat} {u : AV},(mC zMs .nilslice .nilslice)[o]? = some u → Sx.ld w2 w1.size o = some u := fun h => by rw [b2.ld]; exact h
 refine onM_s (g1 rfl) ⟨_,q.log.len',ifT_d (fun hc => hK _ _ f fun e => by cases e) fun hc => onM_s (g2 rfl) ⟨0,rfl,ifT_f (onM_s (g1 rfl) ⟨_,q.reads.len',hK _ _ f fun e => ?_⟩)⟩⟩
 rw [decide_eq_false_iff_not] at e
 exact ⟨by omega,by omega⟩
end
end Go.Proofs.YtghoifolghelnaaGreat
/-
 What the functions of this chapter do.
 No condition beyond those that each theorem names.
-/
set_option linter.unusedSimpArgs false
open Go.Sx
set_option linter.unusedVariables false
namespace Go.Proofs.YtghoifolghelnaaGreat
noncomputable def b4_0 : Code := match Tryz.f4.body with
 | some c => c
 | none => .skip
def F4_0 (hk : Hook) (n0 data1 : AV) (index2 id3 : Int) (snap4 : AV) (w : AW) (K : AV → AW → Prop) (J : List AV → AW → Prop) : Prop :=
 onA n0 fun cs5 => gd (List.all cs5 okCell) (
 new w cs5 fun b6 w7 =>
 onM (ldN 19 w7 b6 0) fun x8 =>
 Cl Tryz.prog hk 7 [x8,(.agg [(.str []),(.int .u8 0),(ii 0),(ii 0),(ii 0),(ii 0),(ii 0),(ii 0),(ii 0),(.bool false),.nilslice,.nilslice])] w7 fun r9 w10 =>
 ∃ x11 : Bool,r9 = (.bool x11) ∧
 ifT x11 (Cl Tryz.prog hk 9 [] w10 fun r12 w13 =>
  ∃ x14 : Bool,r12 = (.bool x14) ∧
  K (.bool x14) w13)
 (onM (ldN 19 w10 b6 0) fun x15 =>
 Cl Tryz.prog hk 11 [x15] w10 fun r16 w17 =>
 new w17 [(ii 0),(ii 0),(.int .u8 0),(ii 0),(ii 0),(ii 0),(ii 0),(ii 0),.nilslice,.nilslice,(ii 0),.nilslice,.nilslice,.nilslice,.nilslice,(ii 0),(ii 0),(ii 0),.nilslice] fun b18 w19 =>
 onA r16 fun cs20 => gd (List.all cs20 okCell) (
 gd (Nat.beq cs20.length 19) (onM (AW.putCells w19 b18 0 cs20) fun w21 =>
 onM (ldN 19 w21 b18 0) fun x22 =>
 Cl Tryz.prog hk 13 [x22,data1] w21 fun r23 w24 =>
 ∃ x25 : AV,∃ x26 : Int,∃ x27 : AV,∃ x28 : Int,r23 = .tup [x25,(ii x26),x27,(ii x28)] ∧
 new w24 [(ii 0),(ii 0),(.int .u8 0),(ii 0),(ii 0),(ii 0),(ii 0),(ii 0),.nilslice,.nilslice,(ii 0),.nilslice,.nilslice,.nilslice,.nilslice,(ii 0),(ii 0),(ii 0),.nilslice] fun b29 w30 =>
 onA x25 fun cs31 => gd (List.all cs31 okCell) (
 gd (Nat.beq cs31.length 19) (onM (AW.putCells w30 b29 0 cs31) fun w32 =>
 onM (ldN 19 w32 b6 0) fun x33 =>
 Cl Tryz.prog hk 11 [x33] w32 fun r34 w35 =>
 Cl Tryz.prog hk 16 [r34,data1] w35 fun r36 w37 =>
 ∃ x38 : AV,∃ x39 : Int,∃ x40 : AV,∃ x41 : Int,r36 = .tup [x38,(ii x39),x40,(ii x41)] ∧
 new w37 [(ii 0),(ii 0),(.int .u8 0),(ii 0),(ii 0),(ii 0),(ii 0),(ii 0),.nilslice,.nilslice,(ii 0),.nilslice,.nilslice,.nilslice,.nilslice,(ii 0),(ii 0),(ii 0),.nilslice] fun b42 w43 =>
 onA x38 fun cs44 => gd (List.all cs44 okCell) (
 gd (Nat.beq cs44.length 19) (onM (AW.putCells w43 b42 0 cs44) fun w45 =>
 gd (!(!decide (x28 = x41))) (
 gd (!(!decide (x26 = x39))) (
 Cl Tryz.prog hk 17 [x27,x40] w45 fun r46 w47 =>
 ∃ x48 : Bool,r46 = (.bool x48) ∧
 gd (!(!x48)) (
 ifT (decide (x28 = 0)) (onM (ldN 19 w47 b29 0) fun x49 =>
 onM (ldN 19 w47 b42 0) fun x50 =>
 Cl Tryz.prog hk 18 [x49,x50] w47 fun r51 w52 =>
 ∃ x53 : Bool,r51 = (.bool x53) ∧
 gd (!(!x53)) (
 ifT (!decide (x28 = 0)) (onM (ldN 19 w52 b29 0) fun x54 =>
 Cl Tryz.prog hk 19 [x54,x27] w52 fun r55 w56 =>
 ∃ x57 : Bool,r55 = (.bool x57) ∧
 ifT (!x57) (K (.bool false) w56)
 (J [(ii index2),(ii id3),snap4,(.ptr b6 0),(.ptr b18 0)] w56))
 (J [(ii index2),(ii id3),snap4,(.ptr b6 0),(.ptr b18 0)] w52)))
 (ifT (!decide (x28 = 0)) (onM (ldN 19 w47 b29 0) fun x58 =>
 Cl Tryz.prog hk 19 [x58,x27] w47 fun r59 w60 =>
 ∃ x61 : Bool,r59 = (.bool x61) ∧
 ifT (!x61) (K (.bool false) w60)
 (J [(ii index2),(ii id3),snap4,(.ptr b6 0),(.ptr b18 0)] w60))
 (J [(ii index2),(ii id3),snap4,(.ptr b6 0),(.ptr b18 0)] w47)))))))))))))
def adv4_0 : Adv := (.sq .lv (.sq (.sq .lv (.cd (.sq .lv .lf) .lf)) (.sq .lv (.sq .lv (.sq .lv (.sq .fv (.cd (.sq .lv .lf) .lf)))))))
def l4_0 : List (Tmp × Sh) := [(2,.sc (.int .i64)),(3,.sc (.int .i64)),(4,.sc (.opq)),(5,.sc (.ptr)),(11,.sc (.ptr))]
noncomputable def b4_1 : Code := dropS 5 b4_0
set_option maxRecDepth 100000 in
theorem eq4_0 (hk : Hook) (n0 data1 : AV) (index2 id3 : Int) (snap4 : AV) (w : AW) (K : AV → AW → Prop) (J : List AV → AW → Prop) : codeS Tryz.prog hk true 236 adv4_0 (takeS 5 b4_0) ([n0,data1,(ii index2),(ii id3),snap4] ++ List.replicate (Tryz.f4.ntmps - List.length [n0,data1,(ii index2),(ii id3),snap4]) Go.Sx.undef) w (segK 236 l4_0 J (fun e t w => leaveS Tryz.prog true Tryz.f4 e t w K)) = F4_0 hk n0 data1 index2 id3 snap4 w K J := by kernel_rfl
def G4_1 (hk : Hook) (K : AV → AW → Prop) (vs : List AV) (w : AW) : Prop := ∃ x0 x1 : Int,∃ x2 : AV,∃ b3 o4 b5 o6 : Nat,vs = [(ii x0),(ii x1),x2,(.ptr b3 o4),(.ptr b5 o6)] ∧ ∀ j : Nat → AV,codeL Tryz.prog hk none b4_1 (fillJ 236 l4_0 [(ii x0),(ii x1),x2,(.ptr b3 o4),(.ptr b5 o6)] j) [] w (fun e t w => leaveS Tryz.prog true Tryz.f4 e t w K)
theorem in4 {hk : Hook} {n0 data1 : AV} {index2 id3 : Int} {snap4 : AV} {w : AW} {K : AV → AW → Prop} (hn : hk 4 [n0,data1,(ii index2),(ii id3),snap4] w = none) (J : List AV → AW → Prop) (h : F4_0 hk n0 data1 index2 id3 snap4 w K J) (hJ : ∀ vs w,J vs w → G4_1 hk K vs w) : Cl Tryz.prog hk 4 [n0,data1,(ii index2),(ii id3),snap4] w K :=
 fnL_ok (big := true) (c := b4_0) Tryz.func4 hn (by kernel_rfl) (seg_ok (big := true) (n := 236) (m := 5) (adv := adv4_0) (l := l4_0) (J := J) (by kernel_rfl) (by rw [eq4_0]; exact h) hJ)
def F4_1 (hk : Hook) (x0 x1 : Int) (x2 : AV) (b3 o4 b5 o6 : Nat) (w : AW) (K : AV → AW → Prop) (J : List AV → AW → Prop) : Prop :=
 onM (ldN 19 w b5 o6) fun x7 =>
 Cl Tryz.prog hk 14 [x7,(ii x1)] w fun r8 w9 =>
 ∃ x10 x11 : AV,∃ x12 : Int,r8 = .tup [x10,x11,(ii x12)] ∧
 new w9 [(ii 0),(ii 0),(.int .u8 0),(ii 0),(ii 0),(ii 0),(ii 0),(ii 0),.nilslice,.nilslice,(ii 0),.nilslice,.nilslice,.nilslice,.nilslice,(ii 0),(ii 0),(ii 0),.nilslice] fun b13 w14 =>
 onA x10 fun cs15 => gd (List.all cs15 okCell) (
 gd (Nat.beq cs15.length 19) (onM (AW.putCells w14 b13 0 cs15) fun w16 =>
 onM (ldN 19 w16 b3 o4) fun x17 =>
 Cl Tryz.prog hk 11 [x17] w16 fun r18 w19 =>
 Cl Tryz.prog hk 20 [r18,(ii x1)] w19 fun r20 w21 =>
 ∃ x22 x23 : AV,∃ x24 : Int,r20 = .tup [x22,x23,(ii x24)] ∧
 new w21 [(ii 0),(ii 0),(.int .u8 0),(ii 0),(ii 0),(ii 0),(ii 0),(ii 0),.nilslice,.nilslice,(ii 0),.nilslice,.nilslice,.nilslice,.nilslice,(ii 0),(ii 0),(ii 0),.nilslice] fun b25 w26 =>
 onA x22 fun cs27 => gd (List.all cs27 okCell) (
 gd (Nat.beq cs27.length 19) (onM (AW.putCells w26 b25 0 cs27) fun w28 =>
 gd (!(!decide (x12 = x24))) (
 Cl Tryz.prog hk 17 [x11,x23] w28 fun r29 w30 =>
 ∃ x31 : Bool,r29 = (.bool x31) ∧
 gd (!(!x31)) (
 ifT (decide (x12 = 0)) (onM (ldN 19 w30 b13 0) fun x32 =>
 onM (ldN 19 w30 b25 0) fun x33 =>
 Cl Tryz.prog hk 18 [x32,x33] w30 fun r34 w35 =>
 ∃ x36 : Bool,r34 = (.bool x36) ∧
 gd (!(!x36)) (
 ifT (!decide (x12 = 0)) (onM (ldN 19 w35 b13 0) fun x37 =>
 Cl Tryz.prog hk 19 [x37,x11] w35 fun r38 w39 =>
 ∃ x40 : Bool,r38 = (.bool x40) ∧
 ifT (!x40) (K (.bool false) w39)
 (J [(ii x0),(ii x1),x2,(.ptr b3 o4),(.ptr b5 o6)] w39))
 (J [(ii x0),(ii x1),x2,(.ptr b3 o4),(.ptr b5 o6)] w35)))
 (ifT (!decide (x12 = 0)) (onM (ldN 19 w30 b13 0) fun x41 =>
 Cl Tryz.prog hk 19 [x41,x11] w30 fun r42 w43 =>
 ∃ x44 : Bool,r42 = (.bool x44) ∧
 ifT (!x44) (K (.bool false) w43)
 (J [(ii x0),(ii x1),x2,(.ptr b3 o4),(.ptr b5 o6)] w43))
 (J [(ii x0),(ii x1),x2,(.ptr b3 o4),(.ptr b5 o6)] w30))))))))
def adv4_1 : Adv := (.sq .lv (.sq .lv (.sq .fv (.cd (.sq .lv .lf) .lf))))
def l4_1 : List (Tmp × Sh) := [(2,.sc (.int .i64)),(3,.sc (.int .i64)),(4,.sc (.opq)),(5,.sc (.ptr)),(11,.sc (.ptr))]
noncomputable def b4_2 : Code := dropS 2 b4_1
set_option maxRecDepth 100000 in
theorem eq4_1 (hk : Hook) (x0 x1 : Int) (x2 : AV) (b3 o4 b5 o6 : Nat) (w : AW) (K : AV → AW → Prop) (J : List AV → AW → Prop) (j : Nat → AV) : codeS Tryz.prog hk true 236 adv4_1 (takeS 2 b4_1) (fillJ 236 l4_0 [(ii x0),(ii x1),x2,(.ptr b3 o4),(.ptr b5 o6)] j) w (segK 236 l4_1 J (fun e t w => leaveS Tryz.prog true Tryz.f4 e t w K)) = F4_1 hk x0 x1 x2 b3 o4 b5 o6 w K J := by kernel_rfl
def G4_2 (hk : Hook) (K : AV → AW → Prop) (vs : List AV) (w : AW) : Prop := ∃ x0 x1 : Int,∃ x2 : AV,∃ b3 o4 b5 o6 : Nat,vs = [(ii x0),(ii x1),x2,(.ptr b3 o4),(.ptr b5 o6)] ∧ ∀ j : Nat → AV,codeL Tryz.prog hk none b4_2 (fillJ 236 l4_1 [(ii x0),(ii x1),x2,(.ptr b3 o4),(.ptr b5 o6)] j) [] w (fun e t w => leaveS Tryz.prog true Tryz.f4 e t w K)
theorem go4_1 {hk : Hook} {x0 x1 : Int} {x2 : AV} {b3 o4 b5 o6 : Nat} {w : AW} {K : AV → AW → Prop} (J : List AV → AW → Prop) (h : F4_1 hk x0 x1 x2 b3 o4 b5 o6 w K J) (hJ : ∀ vs w,J vs w → G4_2 hk K vs w) : G4_1 hk K [(ii x0),(ii x1),x2,(.ptr b3 o4),(.ptr b5 o6)] w :=
 ⟨x0,x1,x2,b3,o4,b5,o6,rfl,fun j => seg_ok (big := true) (n := 236) (m := 2) (adv := adv4_1) (l := l4_1) (J := J) (by kernel_rfl) (by rw [eq4_1]; exact h) hJ⟩
def F4_2 (hk : Hook) (x0 x1 : Int) (x2 : AV) (b3 o4 b5 o6 : Nat) (w : AW) (K : AV → AW → Prop) (J : List AV → AW → Prop) : Prop :=
 onM (ldN 19 w b5 o6) fun x7 =>
 Cl Tryz.prog hk 21 [x7] w fun r8 w9 =>
 ∃ x10 x11 : AV,∃ x12 : Int,r8 = .tup [x10,x11,(ii x12)] ∧
 new w9 [(ii 0),(ii 0),(.int .u8 0),(ii 0),(ii 0),(ii 0),(ii 0),(ii 0),.nilslice,.nilslice,(ii 0),.nilslice,.nilslice,.nilslice,.nilslice,(ii 0),(ii 0),(ii 0),.nilslice] fun b13 w14 =>
 onA x10 fun cs15 => gd (List.all cs15 okCell) (
 gd (Nat.beq cs15.length 19) (onM (AW.putCells w14 b13 0 cs15) fun w16 =>
 onM (ldN 19 w16 b3 o4) fun x17 =>
 Cl Tryz.prog hk 11 [x17] w16 fun r18 w19 =>
 Cl Tryz.prog hk 22 [r18] w19 fun r20 w21 =>
 ∃ x22 x23 : AV,∃ x24 : Int,r20 = .tup [x22,x23,(ii x24)] ∧
 new w21 [(ii 0),(ii 0),(.int .u8 0),(ii 0),(ii 0),(ii 0),(ii 0),(ii 0),.nilslice,.nilslice,(ii 0),.nilslice,.nilslice,.nilslice,.nilslice,(ii 0),(ii 0),(ii 0),.nilslice] fun b25 w26 =>
 onA x22 fun cs27 => gd (List.all cs27 okCell) (
 gd (Nat.beq cs27.length 19) (onM (AW.putCells w26 b25 0 cs27) fun w28 =>
 gd (!(!decide (x12 = x24))) (
 Cl Tryz.prog hk 23 [x11,x23] w28 fun r29 w30 =>
 ∃ x31 : Bool,r29 = (.bool x31) ∧
 gd (!(!x31)) (
 ifT (decide (x12 = 0)) (onM (ldN 19 w30 b13 0) fun x32 =>
 onM (ldN 19 w30 b25 0) fun x33 =>
 Cl Tryz.prog hk 18 [x32,x33] w30 fun r34 w35 =>
 ∃ x36 : Bool,r34 = (.bool x36) ∧
 ifT (!x36) (K (.bool false) w35)
 (J [(ii x0),(ii x1),x2,(.ptr b3 o4),(.ptr b5 o6)] w35))
 (J [(ii x0),(ii x1),x2,(.ptr b3 o4),(.ptr b5 o6)] w30)))))))
def adv4_2 : Adv := (.sq .lv (.sq .lv (.sq .fv (.cd (.sq .lv .lf) .lf))))
def l4_2 : List (Tmp × Sh) := [(2,.sc (.int .i64)),(3,.sc (.int .i64)),(4,.sc (.opq)),(5,.sc (.ptr)),(11,.sc (.ptr))]
noncomputable def b4_3 : Code := dropS 2 b4_2
set_option maxRecDepth 100000 in
theorem eq4_2 (hk : Hook) (x0 x1 : Int) (x2 : AV) (b3 o4 b5 o6 : Nat) (w : AW) (K : AV → AW → Prop) (J : List AV → AW → Prop) (j : Nat → AV) : codeS Tryz.prog hk true 236 adv4_2 (takeS 2 b4_2) (fillJ 236 l4_1 [(ii x0),(ii x1),x2,(.ptr b3 o4),(.ptr b5 o6)] j) w (segK 236 l4_2 J (fun e t w => leaveS Tryz.prog true Tryz.f4 e t w K)) = F4_2 hk x0 x1 x2 b3 o4 b5 o6 w K J := by kernel_rfl
def G4_3 (hk : Hook) (K : AV → AW → Prop) (vs : List AV) (w : AW) : Prop := ∃ x0 x1 : Int,∃ x2 : AV,∃ b3 o4 b5 o6 : Nat,vs = [(ii x0),(ii x1),x2,(.ptr b3 o4),(.ptr b5 o6)] ∧ ∀ j : Nat → AV,codeL Tryz.prog hk none b4_3 (fillJ 236 l4_2 [(ii x0),(ii x1),x2,(.ptr b3 o4),(.ptr b5 o6)] j) [] w (fun e t w => leaveS Tryz.prog true Tryz.f4 e t w K)
theorem go4_2 {hk : Hook} {x0 x1 : Int} {x2 : AV} {b3 o4 b5 o6 : Nat} {w : AW} {K : AV → AW → Prop} (J : List AV → AW → Prop) (h : F4_2 hk x0 x1 x2 b3 o4 b5 o6 w K J) (hJ : ∀ vs w,J vs w → G4_3 hk K vs w) : G4_2 hk K [(ii x0),(ii x1),x2,(.ptr b3 o4),(.ptr b5 o6)] w :=
 ⟨x0,x1,x2,b3,o4,b5,o6,rfl,fun j => seg_ok (big := true) (n := 236) (m := 2) (adv := adv4_2) (l := l4_2) (J := J) (by kernel_rfl) (by rw [eq4_2]; exact h) hJ⟩
def F4_3 (hk : Hook) (x0 x1 : Int) (x2 : AV) (b3 o4 b5 o6 : Nat) (w : AW) (K : AV → AW → Prop) (J : List AV → AW → Prop) : Prop :=
 onM (ldN 19 w b5 o6) fun x7 =>
 Cl Tryz.prog hk 15 [x7,(ii x0),x2] w fun r8 w9 =>
 ∃ x10 : AV,∃ x11 : Int,r8 = .tup [x10,(ii x11)] ∧
 new w9 [(ii 0),(ii 0),(.int .u8 0),(ii 0),(ii 0),(ii 0),(ii 0),(ii 0),.nilslice,.nilslice,(ii 0),.nilslice,.nilslice,.nilslice,.nilslice,(ii 0),(ii 0),(ii 0),.nilslice] fun b12 w13 =>
 onA x10 fun cs14 => gd (List.all cs14 okCell) (
 gd (Nat.beq cs14.length 19) (onM (AW.putCells w13 b12 0 cs14) fun w15 =>
 onM (ldN 19 w15 b3 o4) fun x16 =>
 Cl Tryz.prog hk 11 [x16] w15 fun r17 w18 =>
 Cl Tryz.prog hk 24 [r17,(ii x0),x2] w18 fun r19 w20 =>
 ∃ x21 : AV,∃ x22 : Int,r19 = .tup [x21,(ii x22)] ∧
 new w20 [(ii 0),(ii 0),(.int .u8 0),(ii 0),(ii 0),(ii 0),(ii 0),(ii 0),.nilslice,.nilslice,(ii 0),.nilslice,.nilslice,.nilslice,.nilslice,(ii 0),(ii 0),(ii 0),.nilslice] fun b23 w24 =>
 onA x21 fun cs25 => gd (List.all cs25 okCell) (
 gd (Nat.beq cs25.length 19) (onM (AW.putCells w24 b23 0 cs25) fun w26 =>
 gd (!(!decide (x11 = x22))) (
 ifT (decide (x11 = 0)) (onM (ldN 19 w26 b12 0) fun x27 =>
 onM (ldN 19 w26 b23 0) fun x28 =>
 Cl Tryz.prog hk 18 [x27,x28] w26 fun r29 w30 =>
 ∃ x31 : Bool,r29 = (.bool x31) ∧
 gd (!(!x31)) (
 ifT (!decide (x11 = 0)) (onM (ldN 19 w30 b12 0) fun x32 =>
 Cl Tryz.prog hk 19 [x32,.nilslice] w30 fun r33 w34 =>
 ∃ x35 : Bool,r33 = (.bool x35) ∧
 ifT (!x35) (K (.bool false) w34)
 (J [(ii x0),(ii x1),(.ptr b3 o4),(.ptr b5 o6)] w34))
 (J [(ii x0),(ii x1),(.ptr b3 o4),(.ptr b5 o6)] w30)))
 (ifT (!decide (x11 = 0)) (onM (ldN 19 w26 b12 0) fun x36 =>
 Cl Tryz.prog hk 19 [x36,.nilslice] w26 fun r37 w38 =>
 ∃ x39 : Bool,r37 = (.bool x39) ∧
 ifT (!x39) (K (.bool false) w38)
 (J [(ii x0),(ii x1),(.ptr b3 o4),(.ptr b5 o6)] w38))
 (J [(ii x0),(ii x1),(.ptr b3 o4),(.ptr b5 o6)] w26)))))))
def adv4_3 : Adv := (.sq .lv (.sq .lv (.sq .fv (.cd (.sq .lv .lf) .lf))))
def l4_3 : List (Tmp × Sh) := [(2,.sc (.int .i64)),(3,.sc (.int .i64)),(5,.sc (.ptr)),(11,.sc (.ptr))]
noncomputable def b4_4 : Code := dropS 2 b4_3
set_option maxRecDepth 100000 in
theorem eq4_3 (hk : Hook) (x0 x1 : Int) (x2 : AV) (b3 o4 b5 o6 : Nat) (w : AW) (K : AV → AW → Prop) (J : List AV → AW → Prop) (j : Nat → AV) : codeS Tryz.prog hk true 236 adv4_3 (takeS 2 b4_3) (fillJ 236 l4_2 [(ii x0),(ii x1),x2,(.ptr b3 o4),(.ptr b5 o6)] j) w (segK 236 l4_3 J (fun e t w => leaveS Tryz.prog true Tryz.f4 e t w K)) = F4_3 hk x0 x1 x2 b3 o4 b5 o6 w K J := by kernel_rfl
def G4_4 (hk : Hook) (K : AV → AW → Prop) (vs : List AV) (w : AW) : Prop := ∃ x0 x1 : Int,∃ b2 o3 b4 o5 : Nat,vs = [(ii x0),(ii x1),(.ptr b2 o3),(.ptr b4 o5)] ∧ ∀ j : Nat → AV,codeL Tryz.prog hk none b4_4 (fillJ 236 l4_3 [(ii x0),(ii x1),(.ptr b2 o3),(.ptr b4 o5)] j) [] w (fun e t w => leaveS Tryz.prog true Tryz.f4 e t w K)
theorem go4_3 {hk : Hook} {x0 x1 : Int} {x2 : AV} {b3 o4 b5 o6 : Nat} {w : AW} {K : AV → AW → Prop} (J : List AV → AW → Prop) (h : F4_3 hk x0 x1 x2 b3 o4 b5 o6 w K J) (hJ : ∀ vs w,J vs w → G4_4 hk K vs w) : G4_3 hk K [(ii x0),(ii x1),x2,(.ptr b3 o4),(.ptr b5 o6)] w :=
 ⟨x0,x1,x2,b3,o4,b5,o6,rfl,fun j => seg_ok (big := true) (n := 236) (m := 2) (adv := adv4_3) (l := l4_3) (J := J) (by kernel_rfl) (by rw [eq4_3]; exact h) hJ⟩
def F4_4 (hk : Hook) (x0 x1 : Int) (b2 o3 b4 o5 : Nat) (w : AW) (K : AV → AW → Prop) : Prop :=
 ∃ x6 : Int,ld w b2 (o3 + 3) = some (ii x6) ∧
 Cl Tryz.prog hk 25 [(ii x1),(ii x0),(ii x6)] w fun r7 w8 =>
 ∃ x9 : AV,∃ x10 : Int,r7 = .tup [x9,(ii x10)] ∧
 new w8 [(ii 0),(ii 0),(.int .u8 0),(ii 0),(ii 0),(ii 0),(ii 0),(ii 0),.nilslice,.nilslice,(ii 0),.nilslice,.nilslice,.nilslice,.nilslice,(ii 0),(ii 0),(ii 0),.nilslice] fun b11 w12 =>
 onA x9 fun cs13 => gd (List.all cs13 okCell) (
 gd (Nat.beq cs13.length 19) (onM (AW.putCells w12 b11 0 cs13) fun w14 =>
 ∃ x15 : Int,ld w14 b2 (o3 + 3) = some (ii x15) ∧
 Cl Tryz.prog hk 26 [(ii x1),(ii x0),(ii x15)] w14 fun r16 w17 =>
 ∃ x18 : AV,∃ x19 : Int,r16 = .tup [x18,(ii x19)] ∧
 new w17 [(ii 0),(ii 0),(.int .u8 0),(ii 0),(ii 0),(ii 0),(ii 0),(ii 0),.nilslice,.nilslice,(ii 0),.nilslice,.nilslice,.nilslice,.nilslice,(ii 0),(ii 0),(ii 0),.nilslice] fun b20 w21 =>
 onA x18 fun cs22 => gd (List.all cs22 okCell) (
 gd (Nat.beq cs22.length 19) (onM (AW.putCells w21 b20 0 cs22) fun w23 =>
 ifT (decide (x10 = x19)) (ifT (!decide (x10 = 0)) (onM (ldN 19 w23 b4 o5) fun x24 =>
 onM (ldN 19 w23 b2 o3) fun x25 =>
 Cl Tryz.prog hk 18 [x24,x25] w23 fun r26 w27 =>
 ∃ x28 : Bool,r26 = (.bool x28) ∧
 ifT x28 (Cl Tryz.prog hk 9 [] w27 fun r29 w30 =>
 ∃ x31 : Bool,r29 = (.bool x31) ∧
 K (.bool x31) w30)
 (K (.bool false) w27))
 (onM (ldN 19 w23 b11 0) fun x32 =>
 onM (ldN 19 w23 b20 0) fun x33 =>
 Cl Tryz.prog hk 18 [x32,x33] w23 fun r34 w35 =>
 ∃ x36 : Bool,r34 = (.bool x36) ∧
 ifT x36 (onM (ldN 19 w35 b4 o5) fun x37 =>
 onM (ldN 19 w35 b2 o3) fun x38 =>
 Cl Tryz.prog hk 18 [x37,x38] w35 fun r39 w40 =>
 ∃ x41 : Bool,r39 = (.bool x41) ∧
 ifT x41 (Cl Tryz.prog hk 9 [] w40 fun r42 w43 =>
 ∃ x44 : Bool,r42 = (.bool x44) ∧
 K (.bool x44) w43)
 (K (.bool false) w40))
 (K (.bool false) w35)))
 (K (.bool false) w23)))))
def adv4_4 : Adv := (.sq .lv (.sq .lv (.sq .lv .lf)))
set_option maxRecDepth 100000 in
theorem eq4_4 (hk : Hook) (x0 x1 : Int) (b2 o3 b4 o5 : Nat) (w : AW) (K : AV → AW → Prop) (j : Nat → AV) : codeS Tryz.prog hk true 236 adv4_4 b4_4 (fillJ 236 l4_3 [(ii x0),(ii x1),(.ptr b2 o3),(.ptr b4 o5)] j) w (fun e t w => leaveS Tryz.prog true Tryz.f4 e t w K) = F4_4 hk x0 x1 b2 o3 b4 o5 w K := by kernel_rfl
theorem go4_4 {hk : Hook} {x0 x1 : Int} {b2 o3 b4 o5 : Nat} {w : AW} {K : AV → AW → Prop} (h : F4_4 hk x0 x1 b2 o3 b4 o5 w K) : G4_4 hk K [(ii x0),(ii x1),(.ptr b2 o3),(.ptr b4 o5)] w :=
 ⟨x0,x1,b2,o3,b4,o5,rfl,fun j => last_ok (big := true) (n := 236) (adv := adv4_4) (by rw [eq4_4]; exact h)⟩
end Go.Proofs.YtghoifolghelnaaGreat
