/-
 A node at work: begun,all that is sent,an entry put.
 No condition beyond those that each theorem names.
-/
import Derived.Test.YtghoifolghelnaaGreatMb
import Derived.Test.YtghoifolghelnaaGreatMa
import Derived.Test.YtghoifolghelnaaGreatSxu
import Derived.Test.YtghoifolghelnaaGreatProg
import Derived.KernelRfl
set_option linter.unusedSimpArgs false
open Go.Sx
set_option linter.unusedVariables false
set_option linter.unusedSimpArgs false
namespace Go.Proofs.YtghoifolghelnaaGreat
section
variable {hk : Hook} {T A A' B : Nat → Prop} {I : List Nat} {w0 w w' : AW} {K : AV → AW → Prop} {n : Nd} {s : Sl} {v out : AV} {W bs bm bn bv : Nat} {ms : List Msg} {dr : Int} {L : Obs} {U U' : List Nat}
theorem s49 (hh : HK hk) (wk : Wk T I w0 w W bs bm bn bv n s out ms dr L) (sc : SC n) (hl : ms.length < 2 ^ 19)
  (hK : ∀ out' w',Wk T I w0 w' W bs bm bn bv n s out' (ms ++ allTo n n.size.toNat) dr L → Xt (W :: bs :: bm :: bn :: bv :: ids L) w (W :: bs :: bm :: bn :: bv :: ids L) w' → K (.tup []) w') : Cl Tryz.prog hk 49 [.ptr W 0,.func 50 [.ptr W 0] []] w K := by
 refine in49 (hh.no _ _ _ (by decide) (by decide)) ?_
 unfold F49
 have hsz := sc.size
 refine loopP_ind (fun m lv w4 => ∃ (k : Nat) (out' : AV),m = n.size.toNat - k ∧ k ≤ n.size.toNat ∧ lv = [.int .i64 ((k + 1 : Nat) : Int)] ∧ Wk T I w0 w4 W bs bm bn bv n s out' (ms ++ allTo n k) dr L ∧ Xt (W :: bs :: bm :: bn :: bv :: ids L) w (W :: bs :: bm :: bn :: bv :: ids L) w4) ?_ ⟨0,out,rfl,Nat.zero_le _,rfl,by simpa [allTo] using wk,Xt.refl⟩
 rintro m lv w4 ⟨k,out',rfl,hk',rfl,wk4,x4⟩ R ih
 refine ⟨_,rfl,fun _ => ?_⟩
 simp only [onP]
 refine ⟨_,wk4.st.ld 0 rfl rfl,ifT_d (fun hc => ?_) fun hc => ?_⟩
 ·refine ⟨_,wk4.st.ld 0 rfl rfl,?_⟩
  have hlen := allTo_len n k
  rw [wi_eq (by omega) (by omega)]
  refine ifT_nd (fun hid => ?_) fun hid => ?_
  ·show Cl Tryz.prog hk 50 [.ptr W 0,.int .i64 ((k + 1 : Nat) : Int)] w4 _
   refine s50 hh wk4 sc (by omega) hc (by rw [List.length_append]; omega) fun out2 w5 wk5 x5 => ⟨rfl,ih (n.size.toNat - (k + 1)) (by omega) _ _ ⟨k + 1,out2,rfl,by omega,rfl,?_,x4.trans x5⟩⟩
   rw [allTo,if_neg hid,← List.append_assoc]; exact wk5
  ·exact ih (n.size.toNat - (k + 1)) (by omega) _ _ ⟨k + 1,out',rfl,by omega,rfl,by rw [allTo,if_pos hid,List.append_nil]; exact wk4,x4⟩
 ·have e : k = n.size.toNat := by omega
  subst e
  exact hK _ _ wk4 x4
theorem put_set {α : Type} {f : α → AV} {l : List α} {k : Nat} {x : α} (h : k < l.length) : listPut (l.map f) k [f x] = (l.set k x).map f := by
 simp only [listPut,List.length_singleton]
 rw [List.set_eq_take_append_cons_drop,if_pos h,List.map_append,List.map_cons,List.map_take,List.map_drop,List.append_assoc]; rfl
noncomputable def settledN (n : Nd) : Nd := { n with commit := advF n.commit n.term n.base n.bt (n.log.map (·.1)) n.mtch }
theorem s96 (hh : HK hk) (wk : Wk T I w0 w W bs bm bn bv n s out ms dr L) (hb : 0 ≤ n.base ∧ n.base ≤ G40) (hl : n.log.length < 2 ^ 31) (hc : 0 ≤ n.commit) (hm : ∀ x ∈ n.mtch,0 ≤ x ∧ x ≤ 2 ^ 50) (hml : n.mtch.length < 2 ^ 30)
  (hK : ∀ w',Wk T I w0 w' W bs bm bn bv (settledN n) s out ms dr L → Xt (W :: bs :: bm :: bn :: bv :: ids L) w (W :: bs :: bm :: bn :: bv :: ids L) w' → K (.tup []) w') : Cl Tryz.prog hk 96 [.ptr W 0] w K := by
 refine in96 (hh.no _ _ _ (by decide) (by decide)) ?_
 unfold F96
 obtain ⟨st,wr,we⟩ := id wk
 have hb2 := hb.2
 unfold G40 at hb2
 have nr := wk.nr
 simp only [onP]
 refine ⟨_,st.ld 0 rfl rfl,_,st.ld 0 rfl rfl,_,st.ld 0 rfl rfl,_,st.ld 0 rfl rfl,onM_s (v := s.log) (st.ld 0 rfl rfl) (onM_s (v := s.mtch) (st.ld 0 rfl rfl) ?_)⟩
 refine s119 hh st.mem (log_rse nr.log) nr.mtch.rsI hb.1 (by omega) (by rw [List.length_map]; omega) (by omega) (by omega) (fun x hx => by have := hm x hx; omega) fun r x w9 hr hx f9 => ⟨_,rfl,?_⟩
 obtain ⟨st9,x9⟩ := st.call f9
 refine st9.put 0 rfl (Nat.le_of_ble_eq_true rfl) fun w12 st12 x12 => ?_
 have xx : Xt (W :: bs :: bm :: bn :: bv :: ids L) w (W :: bs :: bm :: bn :: bv :: ids L) w12 := Xt.trans x9 x12
 have e := advF_eq hr hx
 subst e
 have wr' := wr.x xx
 exact hK w12 ⟨st12,⟨wr'.snap,wr'.log,wr'.reads,wr'.out⟩,⟨we.seen,we.mtch,we.next,we.votes⟩⟩ xx
noncomputable def putN (n : Nd) (d : Byts) : Nd :=
 settledN { n with log := n.log ++ [(n.term,d)],mtch := n.mtch.set (n.id - 1).toNat (lastN n + 1),next := n.next.set (n.id - 1).toNat (lastN n + 1 + 1) }
structure PC (n : Nd) : Prop where
 size : n.size ≤ 9
 id : 1 ≤ n.id ∧ n.id ≤ n.size
 base : 0 ≤ n.base ∧ n.base ≤ G40
 commit : 0 ≤ n.commit
 log : n.log.length < 2 ^ 29
 data : ∀ e ∈ n.log,e.2.length ≤ 60000
 snap : n.snap.length ≤ 60000
 next : (n.next.length : Int) = n.size
 mtch : (n.mtch.length : Int) = n.size
 nx : ∀ x ∈ n.next,1 ≤ x ∧ x ≤ lastN n + 1
 mt : ∀ x ∈ n.mtch,0 ≤ x ∧ x ≤ lastN n
theorem PC.sc {n : Nd} {d : Byts} (h : PC n) (hd : d.length ≤ 60000) : SC (putN n d) := by
 obtain ⟨h1,h2,h3,h4,h5,h6,h7,h8,h9,h10,h11⟩ := h
 refine ⟨h1,h3,by show (n.log ++ [(n.term,d)]).length < _; simp; omega,fun e he => ?_,h7,by show ((n.next.set _ _).length : Int) = _; rw [List.length_set]; exact h8,fun to t1 t2 => ?_⟩
 ·rcases List.mem_append.1 (show e ∈ n.log ++ [(n.term,d)] from he) with he | he
  ·exact h6 e he
  ·simp at he; rw [he]; exact hd
 ·show 1 ≤ (n.next.set (n.id - 1).toNat (lastN n + 1 + 1)).getD (to - 1) 0 ∧ (n.next.set (n.id - 1).toNat (lastN n + 1 + 1)).getD (to - 1) 0 ≤ n.base + ((n.log ++ [(n.term,d)]).length : Int) + 1
  have t2 : (to : Int) ≤ n.size := t2
  have hlast : lastN n = n.base + n.log.length := rfl
  have hm : (n.next.set (n.id - 1).toNat (lastN n + 1 + 1)).getD (to - 1) 0 ∈ n.next.set (n.id - 1).toNat (lastN n + 1 + 1) := by
   rw [List.getD_eq_getElem?_getD,List.getElem?_eq_getElem (by rw [List.length_set]; omega)]; exact List.getElem_mem _
  generalize (n.next.set (n.id - 1).toNat (lastN n + 1 + 1)).getD (to - 1) 0 = z at hm ⊢
  rw [List.length_append,List.length_singleton]
  rcases List.mem_or_eq_of_mem_set hm with h | h
  ·have := h10 _ h
   omega
  ·omega
set_option maxRecDepth 20000 in
theorem s52 {d : Byts} {dv : AV} (hh : HK hk) (wk : Wk T I w0 w W bs bm bn bv n s out ms dr L) (pc : PC n) (hd : (rL rU).rd A w [dv] d) (hdl : d.length ≤ 60000) (hms : ms.length < 2 ^ 18)
  (hK : ∀ s' out' w',Wk T I w0 w' W bs bm bn bv (putN n d) s' out' (ms ++ allTo (putN n d) n.size.toNat) dr L → Xt (W :: bs :: bm :: bn :: bv :: ids L) w (W :: bs :: bm :: bn :: bv :: ids L) w' → K (.tup []) w') : Cl Tryz.prog hk 52 [.ptr W 0,dv] w K := by
 refine in52 (hh.no _ _ _ (by decide) (by decide)) ?_
 unfold F52
 obtain ⟨st,wr,we⟩ := id wk
 obtain ⟨c1,c2,c3,c4,c5,c6,c7,c8,c9,c10,c11⟩ := id pc
 have c32 := c3.2
 unfold G40 at c32
 have hlast : lastN n = n.base + n.log.length := rfl
 simp only [onP]
 refine onM_s (v := s.log) (st.ld 0 rfl rfl) ⟨_,st.ld 0 rfl rfl,s55 hh st.mem hd (by omega) fun v7 w7 f7 h7 => ?_⟩
 obtain ⟨st7,x7⟩ := st.call f7
 have hr7 : (rL rU).rd (fz T (W :: bs :: bm :: bn :: bv :: ids L)) w7 [v7] d := h7.rd (fun c hc => st.P.new c hc) Chk.flU
 have wr7 := wr.x x7
 refine gd_t hr7.ok1 (gd_t (by simp only [List.all_cons,hr7.ok1]; rfl) (st7.new' fun b8 w9 st9 x9 => gd_t wr7.log.ok1 (st9.new' fun b10 w11 st11 x11 => ⟨st11.ld 2 rfl rfl,st11.ld 2 rfl rfl,?_⟩)))
 obtain ⟨st12,x12,_,hb10⟩ := st11.drop
 obtain ⟨st13,x13,hA8,hb8⟩ := st12.drop
 have xx : Xt (W :: bs :: bm :: bn :: bv :: ids L) w7 (W :: bs :: bm :: bn :: bv :: ids L) w11 := (x9.trans x11).trans (x12.trans x13)
 have wr11 := wr7.x xx
 have he : rE.rd (fz T (W :: bs :: bm :: bn :: bv :: ids L)) w11 [.int .i64 n.term,v7] (n.term,d) := ⟨v7,rfl,hr7.x xx⟩
 refine s95 hh st13.mem st13.P0.pos hb10 wr11.log (Box.rd1 hb8 hA8 he) (by simp) (by simp; omega) fun v14 w14 f14 hv14 => ?_
 obtain ⟨st14,x14⟩ := st13.call f14
 have hl14 : (rL rE).rd (fz T (W :: bs :: bm :: bn :: bv :: ids L)) w14 [v14] (n.log ++ [(n.term,d)]) := hv14 _ (fun b hb => st13.P.new b hb) fun _ _ h => h.xa Xa.refl
 refine gd_t hl14.ok1 (st14.put 0 rfl (Nat.le_of_ble_eq_true rfl) fun w15 st15 x15 => ?_)
 have x015 : Xt (W :: bs :: bm :: bn :: bv :: ids L) w (W :: bs :: bm :: bn :: bv :: ids L) w15 := ((x7.trans xx).trans x14).trans x15
 have hl15 := hl14.x x15
 have wr15a := wr.x x015
 have wk15 : Wk T I w0 w15 W bs bm bn bv { n with log := n.log ++ [(n.term,d)] } { s with log := v14 } out ms dr L := ⟨st15,⟨wr15a.snap,hl15,wr15a.reads,wr15a.out⟩,⟨we.seen,we.mtch,we.next,we.votes⟩⟩
 refine onM_s (v := s.mtch) (st15.ld 0 rfl rfl) ⟨_,st15.ld 0 rfl rfl,onM_s (v := s.next) (st15.ld 0 rfl rfl) ⟨_,st15.ld 0 rfl rfl,?_⟩⟩
 refine ⟨_,_,_,_,_,_,_,_,_,_,_,_,_,_,_,_,_,_,_,st15.ldN 0 rfl rfl rfl,_,_,_,_,_,_,_,_,_,_,_,_,_,_,_,_,_,_,_,st15.ldN 0 rfl rfl rfl,?_⟩
 have hl2 : (n.log ++ [(n.term,d)]).length = n.log.length + 1 := by simp
 refine s36 hh st15.mem wk15.nr c3.1 (by show n.base < _; omega) (by show (n.log ++ [(n.term,d)]).length < _; omega) fun w16 f16 => ⟨_,rfl,?_⟩
 obtain ⟨st16,x16⟩ := st15.call f16
 have wk16 : Wk T I w0 w16 W bs bm bn bv { n with log := n.log ++ [(n.term,d)] } { s with log := v14 } out ms dr L := ⟨st16,wk15.wr.x x16,wk15.we⟩
 refine ⟨st16.ldN 0 rfl rfl rfl,st16.ld 0 rfl rfl,st16.ld 0 rfl rfl,st16.ld 0 rfl rfl,st16.ld 0 rfl rfl,?_⟩
 refine s36 hh st16.mem wk16.nr c3.1 (by show n.base < _; omega) (by show (n.log ++ [(n.term,d)]).length < _; omega) fun w17 f17 => ⟨_,rfl,?_⟩
 obtain ⟨st17,x17⟩ := st16.call f17
 refine ⟨st17.ld 0 rfl rfl,st17.ld 0 rfl rfl,st17.ld 0 rfl rfl,st17.ld 0 rfl rfl,?_⟩
 have hl3 : lastN { n with log := n.log ++ [(n.term,d)] } = lastN n + 1 := by show n.base + ((n.log ++ [(n.term,d)]).length : Int) = _; rw [hl2]; omega
 obtain ⟨k,hkk⟩ : ∃ k : Nat,n.id - 1 = (k : Int) := Int.eq_ofNat_of_zero_le (by omega)
 rw [hl3,we.mtch,we.next,wi_eq (x := n.id - 1) (by omega) (by omega),wi_eq (x := lastN n + 1 + 1) (by omega) (by omega),hkk]
 refine idx0 (by omega) (st17.put 2 rfl (by rw [List.length_map]; simp; omega) fun w18 st18 x18 => idx0 (by omega) (st18.put 3 rfl (by rw [List.length_map]; simp; omega) fun w19 st19 x19 => ?_))
 have hk1 : k < n.mtch.length := by omega
 have hk2 : k < n.next.length := by omega
 have x019 : Xt (W :: bs :: bm :: bn :: bv :: ids L) w (W :: bs :: bm :: bn :: bv :: ids L) w19 := (((x015.trans x16).trans x17).trans x18).trans x19
 have st19 : Ow T I w0 w19 (wkL W bs bm bn bv { n with log := n.log ++ [(n.term,d)],mtch := n.mtch.set k (lastN n + 1),next := n.next.set k (lastN n + 1 + 1) } { s with log := v14 } out dr L) := by
  have := st19
  simp only [stN] at this
  rw [put_set hk1,put_set hk2] at this
  exact this
 have wr19 := wk15.wr.x (((x16.trans x17).trans x18).trans x19)
 have ek : k = (n.id - 1).toNat := by omega
 subst ek
 have wk19 : Wk T I w0 w19 W bs bm bn bv { n with log := n.log ++ [(n.term,d)],mtch := n.mtch.set (n.id - 1).toNat (lastN n + 1),next := n.next.set (n.id - 1).toNat (lastN n + 1 + 1) } { s with log := v14 } out ms dr L :=
  ⟨st19,⟨wr19.snap,wr19.log,wr19.reads,wr19.out⟩,⟨we.seen,by rw [List.length_set]; exact we.mtch,by rw [List.length_set]; exact we.next,we.votes⟩⟩
 refine s96 hh wk19 c3 (by show (n.log ++ [(n.term,d)]).length < _; omega) c4 (fun x hx => ?_) (by rw [List.length_set]; omega) fun w20 wk20 x20 => ⟨rfl,?_⟩
 ·rcases List.mem_or_eq_of_mem_set hx with h | h
  ·have := c11 _ h; omega
  ·omega
 ·refine s49 hh wk20 (pc.sc hdl) (by omega) fun out' w21 wk21 x21 => ⟨rfl,hK _ out' w21 wk21 ((x019.trans x20).trans x21)⟩
structure BC (n : Nd) : Prop where
 size : 1 ≤ n.size ∧ n.size ≤ 9
 log : n.log.length < 2 ^ 30
 data : ∀ e ∈ n.log,e.2.length ≤ 60000
 snap : n.snap.length ≤ 60000
 reads : n.reads.length ≤ 64
 ln : Ln n
set_option maxRecDepth 20000 in
theorem s43 {draw : Int} (hh : HK hk) (st : Ow T I w0 w L) (h : NR (fz B (ids L)) w n s) (bc : BC n)
  (hK : ∀ W bs bm bn bv s' w',Wk T I w0 w' W bs bm bn bv n s' .nilslice [] draw L → Xt (ids L) w (W :: bs :: bm :: bn :: bv :: ids L) w' → K (.ptr W 0) w') : Cl Tryz.prog hk 43 [.agg (ndC n s),.int .i64 draw] w K := by
 refine in43 (hh.no _ _ _ (by decide) (by decide)) ?_
 unfold F43
 obtain ⟨c1,c2,c3,c4,c5,l1,l2,l3,l4⟩ := bc
 refine gd_t h.ok (st.new' fun b20 w21 st21 x21 => onM_s (v := s.log) (st21.ld 0 rfl rfl) (onM_s (v := s.snap) (st21.ld 0 rfl rfl) ?_))
 refine s83 hh st21.mem st21.P0.pos (h.log.x x21) (by omega) (fun e he => by have := c3 e he; omega) fun v9 w25 f25 h25 => ⟨(st21.call f25).1.ld 0 rfl rfl,?_⟩
 obtain ⟨st25,x25⟩ := st21.call f25
 have hl25 : (rL rE).rd (fz T (b20 :: ids L)) w25 [v9] n.log := h25.le (fun c _ hc => st21.P.new c hc) st25.mem
 refine s55 hh st25.mem (h.snap.x (x21.trans x25)) (by omega) fun v8 w27 f27 h27 => gd_t hl25.ok1 ?_
 obtain ⟨st27,x27⟩ := st25.call f27
 have hs27 : (rL rU).rd (fz T (b20 :: ids L)) w27 [v8] n.snap := h27.rd (fun c hc => st25.P.new c hc) Chk.flU
 refine st27.put 0 rfl (Nat.le_of_ble_eq_true rfl) fun w28 st28 x28 => gd_t hs27.ok1 ?_
 have st28 : Ow T I w0 w28 ((b20,.row (ndC n { s with log := v9 })) :: L) := st28
 refine st28.put 0 rfl (Nat.le_of_ble_eq_true rfl) fun w29 st29 x29 => ?_
 have st29 : Ow T I w0 w29 ((b20,.row (ndC n { s with log := v9,snap := v8 })) :: L) := st29
 have x029 : Xt (ids L) w (b20 :: ids L) w29 := ((((x21.trans x25).trans x27)).trans x28).trans x29
 refine onM_s (v := s.votes) (st29.ld 0 rfl rfl) (onM_s (v := s.next) (st29.ld 0 rfl rfl) (onM_s (v := s.mtch) (st29.ld 0 rfl rfl) (onM_s (v := s.seen) (st29.ld 0 rfl rfl) (onM_s (v := s.reads) (st29.ld 0 rfl rfl) ?_))))
 refine s84 hh st29.mem (h.votes.x x029) (by omega) fun v11 w36 f36 h36 => ?_
 obtain ⟨bv,rfl,st36,x36⟩ := cln_own (f := AV.bool) st29 h36 (by omega) (fun _ h => Chk.bools.1 h) f36
 refine ⟨st36.ld 1 rfl rfl,st36.ld 1 rfl rfl,st36.ld 1 rfl rfl,st36.ld 1 rfl rfl,?_⟩
 have x036 : Xt (ids L) w (bv :: b20 :: ids L) w36 := x029.trans x36
 refine s85 hh st36.mem (h.next.x x036) (by omega) fun v12 w38 f38 h38 => ?_
 obtain ⟨bn,rfl,st38,x38⟩ := cln_own (f := AV.int .i64) st36 h38 (by omega) (fun _ h => Chk.ints.1 h) f38
 refine ⟨st38.ld 2 rfl rfl,st38.ld 2 rfl rfl,st38.ld 2 rfl rfl,?_⟩
 have x038 : Xt (ids L) w (bn :: bv :: b20 :: ids L) w38 := x036.trans x38
 refine s85 hh st38.mem (h.mtch.x x038) (by omega) fun v13 w40 f40 h40 => ?_
 obtain ⟨bm,rfl,st40,x40⟩ := cln_own (f := AV.int .i64) st38 h40 (by omega) (fun _ h => Chk.ints.1 h) f40
 refine ⟨st40.ld 3 rfl rfl,st40.ld 3 rfl rfl,?_⟩
 have x040 : Xt (ids L) w (bm :: bn :: bv :: b20 :: ids L) w40 := x038.trans x40
 refine s85 hh st40.mem (h.seen.x x040) (by omega) fun v14 w42 f42 h42 => ?_
 obtain ⟨bs,rfl,st42,x42⟩ := cln_own (f := AV.int .i64) st40 h42 (by omega) (fun _ h => Chk.ints.1 h) f42
 refine ⟨st42.ld 4 rfl rfl,?_⟩
 have x042 : Xt (ids L) w (bs :: bm :: bn :: bv :: b20 :: ids L) w42 := x040.trans x42
 refine s69 hh st42.mem (h.reads.x x042) (by omega) fun v18 w44 f44 h44 => ?_
 obtain ⟨st44,x44⟩ := st42.call f44
 have hg44 : (rL rG).rd (fz T (bs :: bm :: bn :: bv :: b20 :: ids L)) w44 [v18] n.reads := h44.rd (fun c hc => st42.P.new c hc) Chk.flG
 have hs : ∀ {s1 : Sl} {w' : AW} (o : Nat) (v : AV) (s2 : Sl),Ow T I w0 w' ((bs,.row (n.seen.map (AV.int .i64))) :: (bm,.row (n.mtch.map (AV.int .i64))) :: (bn,.row (n.next.map (AV.int .i64))) :: (bv,.row (n.votes.map AV.bool)) :: (b20,.row (ndC n s1)) :: L) → Nat.ble (o + [v].length) (ndC n s1).length = true → listPut (ndC n s1) o [v] = ndC n s2 → ∀ {G : AW → Prop},okCell v = true → (∀ w'',Ow T I w0 w'' ((bs,.row (n.seen.map (AV.int .i64))) :: (bm,.row (n.mtch.map (AV.int .i64))) :: (bn,.row (n.next.map (AV.int .i64))) :: (bv,.row (n.votes.map AV.bool)) :: (b20,.row (ndC n s2)) :: L) → Xt (bs :: bm :: bn :: bv :: b20 :: ids L) w' (bs :: bm :: bn :: bv :: b20 :: ids L) w'' → G w'') → gd (okCell v) (onM (w'.putCells b20 o [v]) G) := by
  intro s1 w' o v s2 st' hl he G hv hG
  refine gd_t hv (st'.put 4 rfl (Nat.le_of_ble_eq_true hl) fun w'' st'' x'' => hG w'' ?_ x'')
  rw [← he]; exact st''
 have st44 : Ow T I w0 w44 ((bs,.row (n.seen.map (AV.int .i64))) :: (bm,.row (n.mtch.map (AV.int .i64))) :: (bn,.row (n.next.map (AV.int .i64))) :: (bv,.row (n.votes.map AV.bool)) :: (b20,.row (ndC n { s with log := v9,snap := v8 })) :: L) := st44
 refine hs (0 + 11) (.slice bv 0 n.votes.length n.votes.length (some 1)) ⟨v8,v9,.slice bv 0 n.votes.length n.votes.length (some 1),s.next,s.mtch,s.seen,s.reads⟩ st44 rfl rfl rfl fun w45 st45 x45 => ?_
 refine hs (0 + 12) (.slice bn 0 n.next.length n.next.length (some 1)) ⟨v8,v9,.slice bv 0 n.votes.length n.votes.length (some 1),.slice bn 0 n.next.length n.next.length (some 1),s.mtch,s.seen,s.reads⟩ st45 rfl rfl rfl fun w46 st46 x46 => ?_
 refine hs (0 + 13) (.slice bm 0 n.mtch.length n.mtch.length (some 1)) ⟨v8,v9,.slice bv 0 n.votes.length n.votes.length (some 1),.slice bn 0 n.next.length n.next.length (some 1),.slice bm 0 n.mtch.length n.mtch.length (some 1),s.seen,s.reads⟩ st46 rfl rfl rfl fun w47 st47 x47 => ?_
 refine hs (0 + 14) (.slice bs 0 n.seen.length n.seen.length (some 1)) ⟨v8,v9,.slice bv 0 n.votes.length n.votes.length (some 1),.slice bn 0 n.next.length n.next.length (some 1),.slice bm 0 n.mtch.length n.mtch.length (some 1),.slice bs 0 n.seen.length n.seen.length (some 1),s.reads⟩ st47 rfl rfl rfl fun w48 st48 x48 => ?_
 refine hs (0 + 18) v18 ⟨v8,v9,.slice bv 0 n.votes.length n.votes.length (some 1),.slice bn 0 n.next.length n.next.length (some 1),.slice bm 0 n.mtch.length n.mtch.length (some 1),.slice bs 0 n.seen.length n.seen.length (some 1),v18⟩ st48 rfl rfl hg44.ok1 fun w49 st49 x49 => ?_
 refine ⟨_,_,_,_,_,_,_,_,_,_,_,_,_,_,_,_,_,_,_,st49.ldN 4 rfl rfl rfl,?_⟩
 have hl45 : okCell v9 = true := hl25.ok1
 have hs45 : okCell v8 = true := hs27.ok1
 have hg45 : okCell v18 = true := hg44.ok1
 refine gd_t (by simp only [List.all_cons,hl45,hs45,hg45]; rfl) (st49.new' fun W w70 st70 x70 => ?_)
 obtain ⟨st71,x71⟩ := st70.front 5 rfl
 obtain ⟨st72,x72,_⟩ := st71.drop
 have x4 : Xt (bs :: bm :: bn :: bv :: b20 :: ids L) w44 (W :: bs :: bm :: bn :: bv :: ids L) w70 := ((((((x45.trans x46).trans x47).trans x48).trans x49).trans x70).trans x71).trans x72
 have x6 : Xt (b20 :: ids L) w27 (W :: bs :: bm :: bn :: bv :: ids L) w70 := Xt.trans x28 (x29.trans (x36.trans (x38.trans (x40.trans (x42.trans (x44.trans x4))))))
 exact hK W bs bm bn bv ⟨v8,v9,.slice bv 0 n.votes.length n.votes.length (some 1),.slice bn 0 n.next.length n.next.length (some 1),.slice bm 0 n.mtch.length n.mtch.length (some 1),.slice bs 0 n.seen.length n.seen.length (some 1),v18⟩ w70 ⟨st72,⟨hs27.x x6,hl25.x (Xt.trans x27 x6),hg44.x x4,Rp.rd.nil⟩,⟨rfl,rfl,rfl,rfl⟩⟩ (x042.trans (x44.trans x4))
end
end Go.Proofs.YtghoifolghelnaaGreat
/-
 What the functions of this chapter do.
 No condition beyond those that each theorem names.
-/
set_option linter.unusedSimpArgs false
open Go.Sx
set_option linter.unusedVariables false
namespace Go.Proofs.YtghoifolghelnaaGreat
def F11 (hk : Hook) (n0 n1 n2 n3 n4 n5 n6 n7 : Int) (n8 n9 : AV) (n10 : Int) (n11 n12 n13 n14 : AV) (n15 n16 n17 : Int) (n18 : AV) (w : AW) (K : AV → AW → Prop) : Prop :=
 gd (List.all [(ii n0),(ii n1),(.int .u8 n2),(ii n3),(ii n4),(ii n5),(ii n6),(ii n7),n8,n9,(ii n10),n11,n12,n13,n14,(ii n15),(ii n16),(ii n17),n18] okCell) (
 new w [(ii n0),(ii n1),(.int .u8 n2),(ii n3),(ii n4),(ii n5),(ii n6),(ii n7),n8,n9,(ii n10),n11,n12,n13,n14,(ii n15),(ii n16),(ii n17),n18] fun b19 w20 =>
 new w20 [(ii 0),(ii 0),(.int .u8 0),(ii 0),(ii 0),(ii 0),(ii 0),(ii 0),.nilslice,.nilslice,(ii 0),.nilslice,.nilslice,.nilslice,.nilslice,(ii 0),(ii 0),(ii 0),.nilslice] fun b21 w22 =>
 onM (ld w22 b19 (0 + 8)) fun x23 =>
 Cl Tryz.prog hk 46 [x23] w22 fun r24 w25 =>
 gd (okCell r24) (
 onM (AW.putCells w25 b19 (0 + 8) [r24]) fun w26 =>
 onM (ld w26 b19 (0 + 9)) fun x27 =>
 Cl Tryz.prog hk 47 [x27] w26 fun r28 w29 =>
 gd (okCell r28) (
 onM (AW.putCells w29 b19 (0 + 9) [r28]) fun w30 =>
 onM (ld w30 b19 (0 + 11)) fun x31 =>
 onE (appS 1 1 w30 .nilslice x31) fun x32 w33 =>
 gd (okCell x32) (
 onM (AW.putCells w33 b19 (0 + 11) [x32]) fun w34 =>
 onM (ld w34 b19 (0 + 12)) fun x35 =>
 Cl Tryz.prog hk 48 [x35] w34 fun r36 w37 =>
 gd (okCell r36) (
 onM (AW.putCells w37 b19 (0 + 12) [r36]) fun w38 =>
 onM (ld w38 b19 (0 + 13)) fun x39 =>
 Cl Tryz.prog hk 48 [x39] w38 fun r40 w41 =>
 gd (okCell r40) (
 onM (AW.putCells w41 b19 (0 + 13) [r40]) fun w42 =>
 onM (ld w42 b19 (0 + 14)) fun x43 =>
 Cl Tryz.prog hk 48 [x43] w42 fun r44 w45 =>
 gd (okCell r44) (
 onM (AW.putCells w45 b19 (0 + 14) [r44]) fun w46 =>
 onM (ld w46 b19 (0 + 18)) fun x47 =>
 onE (appS 3 24 w46 .nilslice x47) fun x48 w49 =>
 gd (okCell x48) (
 onM (AW.putCells w49 b19 (0 + 18) [x48]) fun w50 =>
 ∃ x51 x52 x53 x54 x55 x56 x57 x58 : Int,∃ x59 x60 : AV,∃ x61 : Int,∃ x62 x63 x64 x65 : AV,∃ x66 x67 x68 : Int,∃ x69 : AV,ldN 19 w50 b19 0 = some (.agg [(ii x51),(ii x52),(.int .u8 x53),(ii x54),(ii x55),(ii x56),(ii x57),(ii x58),x59,x60,(ii x61),x62,x63,x64,x65,(ii x66),(ii x67),(ii x68),x69]) ∧
 gd (List.all [(ii x51),(ii x52),(.int .u8 x53),(ii x54),(ii x55),(ii x56),(ii x57),(ii x58),x59,x60,(ii x61),x62,x63,x64,x65,(ii x66),(ii x67),(ii x68),x69] okCell) (
 onM (AW.putCells w50 b21 0 [(ii x51),(ii x52),(.int .u8 x53),(ii x54),(ii x55),(ii x56),(ii x57),(ii x58),x59,x60,(ii x61),x62,x63,x64,x65,(ii x66),(ii x67),(ii x68),x69]) fun w70 =>
 ∃ res71 res72 res73 res74 res75 res76 res77 res78 : Int,∃ res79 res80 : AV,∃ res81 : Int,∃ res82 res83 res84 res85 : AV,∃ res86 res87 res88 : Int,∃ res89 : AV,ldN 19 w70 b21 0 = some (.agg [(ii res71),(ii res72),(.int .u8 res73),(ii res74),(ii res75),(ii res76),(ii res77),(ii res78),res79,res80,(ii res81),res82,res83,res84,res85,(ii res86),(ii res87),(ii res88),res89]) ∧
 K (.agg [(ii res71),(ii res72),(.int .u8 res73),(ii res74),(ii res75),(ii res76),(ii res77),(ii res78),res79,res80,(ii res81),res82,res83,res84,res85,(ii res86),(ii res87),(ii res88),res89]) w70)))))))))
def adv11 : Adv := (.sq .lf (.sq .lf (.sq .lf (.sq .lf (.sq .lf (.sq .lf (.sq .lf (.sq .lf (.sq .lf (.sq .lf (.sq .lf .lf)))))))))))
set_option maxRecDepth 100000 in
theorem in11 {hk : Hook} {n0 n1 n2 n3 n4 n5 n6 n7 : Int} {n8 n9 : AV} {n10 : Int} {n11 n12 n13 n14 : AV} {n15 n16 n17 : Int} {n18 : AV} {w : AW} {K : AV → AW → Prop} (hn : hk 11 [(.agg [(ii n0),(ii n1),(.int .u8 n2),(ii n3),(ii n4),(ii n5),(ii n6),(ii n7),n8,n9,(ii n10),n11,n12,n13,n14,(ii n15),(ii n16),(ii n17),n18])] w = none) (h : F11 hk n0 n1 n2 n3 n4 n5 n6 n7 n8 n9 n10 n11 n12 n13 n14 n15 n16 n17 n18 w K) : Cl Tryz.prog hk 11 [(.agg [(ii n0),(ii n1),(.int .u8 n2),(ii n3),(ii n4),(ii n5),(ii n6),(ii n7),n8,n9,(ii n10),n11,n12,n13,n14,(ii n15),(ii n16),(ii n17),n18])] w K :=
 fnS_ok (adv := adv11) Tryz.func11 hn (Eq.mpr (by kernel_rfl) h)
def F46 (hk : Hook) (l_0 : AV) (w : AW) (K : AV → AW → Prop) : Prop :=
 onE (appS 1 1 w .nilslice l_0) fun x1 w2 =>
 K x1 w2
def adv46 : Adv := (.sq .lf (.sq .lf (.sq .lf .lf)))
set_option maxRecDepth 100000 in
theorem in46 {hk : Hook} {l_0 : AV} {w : AW} {K : AV → AW → Prop} (hn : hk 46 [l_0] w = none) (h : F46 hk l_0 w K) : Cl Tryz.prog hk 46 [l_0] w K :=
 fnS_ok (adv := adv46) Tryz.func46 hn (Eq.mpr (by kernel_rfl) h)
def F47 (hk : Hook) (l_0 : AV) (w : AW) (K : AV → AW → Prop) : Prop :=
 loopP [.nilslice,(ii 0)] w fun R1 l_2 w3 => ∃ out4 : AV,∃ i5 : Int,l_2 = [out4,(ii i5)] ∧ ∀ _ : Nat → AV,
  ∃ x6 : Int,lenS l_0 = some (ii x6) ∧
  ifT (decide (i5 < x6)) (atP (idxS 2 l_0 (ii i5)) fun b7 o8 =>
  ∃ x9 : Int,ld w3 b7 (o8 + 0) = some (ii x9) ∧
  atP (idxS 2 l_0 (ii i5)) fun b10 o11 =>
  onM (ld w3 b10 (o11 + 1)) fun x12 =>
  Cl Tryz.prog hk 46 [x12] w3 fun r13 w14 =>
  gd (okCell r13) (
  gd (List.all [(ii x9),r13] okCell) (
  new w14 [(ii x9),r13] fun b15 w16 =>
  ld w16 b7 (o8 + 0) = some (ii x9) ∧
  onE (appS 2 32 w16 out4 (.slice b15 0 1 1 none)) fun x17 w18 =>
  R1 [x17,(ii (wi (i5 + 1)))] w18)))
  (K out4 w3)
def adv47 : Adv := (.sq .lf (.sq .lf (.sq (.sq .lf (.bl (.lp [(3,.sc (.opq)),(4,.sc (.int .i64))] (.sq (.sq .lf (.cd .lf .lf)) (.sq (.bl .lf) .lf))))) (.sq .lf .lf))))
set_option maxRecDepth 100000 in
theorem in47 {hk : Hook} {l_0 : AV} {w : AW} {K : AV → AW → Prop} (hn : hk 47 [l_0] w = none) (h : F47 hk l_0 w K) : Cl Tryz.prog hk 47 [l_0] w K :=
 fnS_ok (adv := adv47) Tryz.func47 hn (Eq.mpr (by kernel_rfl) h)
def F48 (hk : Hook) (l_0 : AV) (w : AW) (K : AV → AW → Prop) : Prop :=
 onE (appS 1 8 w .nilslice l_0) fun x1 w2 =>
 K x1 w2
def adv48 : Adv := (.sq .lf (.sq .lf (.sq .lf .lf)))
set_option maxRecDepth 100000 in
theorem in48 {hk : Hook} {l_0 : AV} {w : AW} {K : AV → AW → Prop} (hn : hk 48 [l_0] w = none) (h : F48 hk l_0 w K) : Cl Tryz.prog hk 48 [l_0] w K :=
 fnS_ok (adv := adv48) Tryz.func48 hn (Eq.mpr (by kernel_rfl) h)
end Go.Proofs.YtghoifolghelnaaGreat
/-
 Propose,over memory.
 No condition beyond those that each theorem names.
-/
set_option linter.unusedSimpArgs false
open Go.Sx
set_option linter.unusedVariables false
set_option linter.unusedSimpArgs false
namespace Go.Proofs.YtghoifolghelnaaGreat
abbrev zNd : Nd := ⟨0,0,0,0,0,0,0,0,[],[],0,[],[],[],[],0,0,0,[]⟩
abbrev zSl : Sl := ⟨.nilslice,.nilslice,.nilslice,.nilslice,.nilslice,.nilslice,.nilslice⟩
theorem risP_data : ∀ {l : List Ent} {low high : Int}, risP low high l → ∀ e ∈ l, e.2.length ≤ 60000
  | [], _, _, _ => fun e h => by cases h
  | x :: l, _, _, ⟨_, h2, h3⟩ => fun e h => by
    rcases List.mem_cons.1 h with rfl | h
    · exact h2
    · exact risP_data h3 e h
section
variable {hk : Hook} {T A A' B : Nat → Prop} {I : List Nat} {w0 w w' : AW} {K : AV → AW → Prop} {n : Nd} {s : Sl} {v out : AV} {W bs bm bn bv : Nat} {ms : List Msg} {dr : Int} {L : Obs} {U U' : List Nat}
theorem RightN.bc (h : RightN n) (hl : n.log.length < 2 ^ 29) : BC n := ⟨h.size,by omega,risP_data h.log,h.snap,h.reads.2,⟨h.votes,h.next,h.mtch,h.seen⟩⟩
theorem RightN.pc (h : RightN n) (hl : n.log.length < 2 ^ 29) (hr : n.role = 3) : PC n := by
 have hro := (rol3 hr).1 h.roles
 exact ⟨h.size.2,h.id,h.base,by have := h.commit; have := h.base; omega,hl,risP_data h.log,h.snap,h.next,h.mtch,hro.2.2.1,hro.2.2.2.1⟩
theorem NR.arg (h : NR A w n s) (hm : Mem w) (st : Ow T [] w w' L) : NR (fz A (ids L)) w' n s := ⟨st.arg hm h.snap,st.arg hm h.log,st.arg hm h.votes,st.arg hm h.next,st.arg hm h.mtch,st.arg hm h.seen,st.arg hm h.reads⟩
theorem NR.outs (h : NR (fz T U) w n s) : NR T w n s := ⟨h.snap.out,h.log.out,h.votes.out,h.next.out,h.mtch.out,h.seen.out,h.reads.out⟩
open Classical in
noncomputable def proE (n : Nd) (d : Byts) : Int := if ¬ RightN n then 2 else if n.role ≠ 3 then 220 else if 60000 < d.length then 3 else if 4096 ≤ n.log.length then 5 else 0
def ProR (T : Nat → Prop) (n : Nd) (d : Byts) (w : AW) (r : AV) : Prop := (proE n d ≠ 0 ∧ r = .tup [.agg (ndC zNd zSl),.int .i64 0,.nilslice,.int .i64 (proE n d)]) ∨
 (RightN n ∧ proE n d = 0 ∧ ∃ s' out',r = .tup [.agg (ndC (putN n d) s'),.int .i64 (lastN (putN n d)),out',.int .i64 0] ∧ NR T w (putN n d) s' ∧ (rL rM).rd T w [out'] (allTo (putN n d) n.size.toNat))
set_option maxRecDepth 20000 in
theorem s13 {d : Byts} {dv : AV} (hh : HK hk) (hm : Mem w) (hpos : 0 < w.size) (h : NR A w n s) (sm : Sm n) (hd : (rL rU).rd B w [dv] d) (hK : ∀ r w', Fr w.size w w' → ProR (Nw w) n d w' r → K r w') : Cl Tryz.prog hk 13 [.agg (ndC n s), dv] w K := by
  refine in13 (hh.no _ _ _ (by decide) (by decide)) ?_
  unfold F13
  have pv : Pv (Nw w) w := ⟨hm, hpos, fun _ h => h⟩
  refine gd_t h.ok (pv.st.new' fun b20 w21 st21 x21 => st21.new' fun b22 w23 st23 x23 => ?_)
  have st23 : Ow (Nw w) [] w w23 [(b22, .row (ndC zNd zSl)), (b20, .row (ndC n s))] := st23
  refine join_of (fun l w' => l = [.int .i64 (proE n d)] ∧ Ow (Nw w) [] w w' [(b22, .row (ndC zNd zSl)), (b20, .row (ndC n s))]) ?_ fun J hJ => ?_
  · rintro l w25 ⟨rfl, st25⟩
    refine ⟨_, rfl, fun _ => ifT_nd (fun h0 => ?_) fun h0 => ?_⟩
    · refine st25.put 0 rfl (Nat.le_of_ble_eq_true rfl) fun w28 st28 x28 => ⟨_, _, _, _, _, _, _, _, _, _, _, _, _, _, _, _, _, _, _, st28.ldN 0 rfl rfl rfl, ?_⟩
      exact hK _ _ st28.fr (.inl ⟨h0, rfl⟩)
    · have hall : RightN n ∧ n.role = 3 ∧ d.length ≤ 60000 ∧ n.log.length < 4096 := by
        unfold proE at h0
        split at h0
        · cases h0
        · rename_i h1
          split at h0
          · cases h0
          · rename_i h2
            split at h0
            · cases h0
            · rename_i h3
              split at h0
              · cases h0
              · rename_i h4
                exact ⟨by simpa using h1, by simpa using h2, by omega, by omega⟩
      obtain ⟨g1, g2, g3, g4⟩ := hall
      have pc := g1.pc (by omega) g2
      refine ⟨_, _, _, _, _, _, _, _, _, _, _, _, _, _, _, _, _, _, _, st25.ldN 1 rfl rfl rfl, ?_⟩
      refine s43 hh st25 (h.arg hm st25) (g1.bc (by omega)) fun W bs bm bn bv s1 w68 wk68 x68 => ?_
      refine s52 hh wk68 pc (wk68.st.arg hm hd).out g3 (by simp) fun s2 out2 w70 wk70 x70 => ⟨rfl, ?_⟩
      rw [List.nil_append] at wk70
      simp only [onP]
      obtain ⟨st70, wr70, we70⟩ := id wk70
      have hb := g1.base.2
      unfold G40 at hb
      have hlen : (putN n d).log.length < 2 ^ 40 := by show (n.log ++ [(n.term, d)]).length < _; simp; omega
      refine ⟨_, _, _, _, _, _, _, _, _, _, _, _, _, _, _, _, _, _, _, st70.ldN 0 rfl rfl rfl, _, _, _, _, _, _, _, _, _, _, _, _, _, _, _, _, _, _, _, st70.ldN 0 rfl rfl rfl, onM_s (v := out2) (st70.ld 0 rfl rfl) ?_⟩
      refine s36 hh st70.mem wk70.nr g1.base.1 (by show n.base < _; omega) hlen fun w117 f117 => ⟨_, rfl, ?_⟩
      obtain ⟨st117, x117⟩ := st70.call f117
      refine ⟨st117.ld 0 rfl rfl, st117.ldN 0 rfl rfl rfl, gd_t (wr70.okN we70) (st117.put 5 rfl (Nat.le_of_ble_eq_true rfl) fun w119 st119 x119 => ⟨st119.ld 0 rfl rfl, _, _, _, _, _, _, _, _, _, _, _, _, _, _, _, _, _, _, _, st119.ldN 5 rfl rfl rfl, ?_⟩)⟩
      have wr119 := (wr70.x x117).x x119
      exact hK _ _ st119.fr (.inr ⟨g1, h0, s2, out2, rfl, nr_of 1 2 3 4 st119 wr119 we70 rfl rfl rfl rfl, wr119.out.out⟩)
  · refine ⟨_, _, _, _, _, _, _, _, _, _, _, _, _, _, _, _, _, _, _, st23.ldN 1 rfl rfl rfl, ?_⟩
    have nr23 := (h.arg hm st23).outs
    refine s8 hh st23.mem st23.P0.pos nr23 sm fun c w5 f5 hc => ⟨_, rfl, ?_⟩
    obtain ⟨st5, x5⟩ := st23.call f5
    have nr5 := (h.arg hm st5).outs
    cases c with
    | false =>
      have hn : ¬ RightN n := fun hr => absurd (hc.2 hr) (by decide)
      exact ifT_t (hJ _ _ ⟨by unfold proE; rw [if_pos hn], st5⟩)
    | true =>
      have hr := hc.1 rfl
      refine ifT_f ⟨_, st5.ld 1 rfl rfl, ifT_nd (fun h2 => hJ _ _ ⟨by unfold proE; rw [if_neg (not_not_intro hr), if_pos h2], st5⟩) fun h2 => ⟨_, (st5.arg hm hd).len', ifT_d (fun h3 => hJ _ _ ⟨by unfold proE; rw [if_neg (not_not_intro hr), if_neg (not_not_intro h2), if_pos (by omega)], st5⟩) fun h3 => onM_s (v := s.log) (st5.ld 1 rfl rfl) ⟨_, nr5.log.len', ifT_d (fun h4 => hJ _ _ ⟨by unfold proE; rw [if_neg (not_not_intro hr), if_neg (not_not_intro h2), if_neg (by omega), if_pos (by omega)], st5⟩) fun h4 => hJ _ _ ⟨by unfold proE; rw [if_neg (not_not_intro hr), if_neg (not_not_intro h2), if_neg (by omega), if_neg (by omega)], st5⟩⟩⟩⟩
end
end Go.Proofs.YtghoifolghelnaaGreat
/-
 Read and Sure,over memory.
 No condition beyond those that each theorem names.
-/
set_option linter.unusedSimpArgs false
open Go.Sx
set_option linter.unusedVariables false
set_option linter.unusedSimpArgs false
namespace Go.Proofs.YtghoifolghelnaaGreat
section
variable {hk : Hook} {T A A' B : Nat → Prop} {I : List Nat} {w0 w w' : AW} {K : AV → AW → Prop} {n : Nd} {s : Sl} {v out : AV} {W bs bm bn bv : Nat} {ms : List Msg} {dr : Int} {L : Obs} {U U' : List Nat}
theorem RightN.sc (h : RightN n) (hl : n.log.length < 2 ^ 29) (hr : n.role = 3) : SC n := by
 have hro := (rol3 hr).1 h.roles
 refine ⟨h.size.2,h.base,by omega,risP_data h.log,h.snap,h.next,fun to h1 h2 => ?_⟩
 have := h.next
 exact hro.2.2.1 _ (getD_mem (by omega))
def readN (n : Nd) (id : Int) : Nd := { n with round := n.round + 1,seen := n.seen.set (n.id - 1).toNat (n.round + 1),reads := n.reads ++ [(id,n.commit,n.round + 1)] }
def notLed (n : Nd) : Prop := n.role ≠ 3 ∨ (termAt n.base n.bt (n.log.map (·.1)) n.commit).1 ≠ n.term
open Classical in
noncomputable def reaE (n : Nd) : Int := if ¬ RightN n then 2 else if notLed n then 220 else if 64 ≤ n.reads.length then 5 else if n.round = G40 then 5 else 0
def ReaR (T : Nat → Prop) (n : Nd) (id : Int) (w : AW) (r : AV) : Prop := (reaE n ≠ 0 ∧ r = .tup [.agg (ndC zNd zSl),.nilslice,.int .i64 (reaE n)]) ∨
 (RightN n ∧ reaE n = 0 ∧ ∃ s' out',r = .tup [.agg (ndC (readN n id) s'),out',.int .i64 0] ∧ NR T w (readN n id) s' ∧ (rL rM).rd T w [out'] (allTo (readN n id) n.size.toNat))
set_option maxRecDepth 20000 in
theorem s14 {id : Int} (hh : HK hk) (hm : Mem w) (hpos : 0 < w.size) (h : NR A w n s) (sm : Sm n) (hlog : n.log.length < 2 ^ 29) (hK : ∀ r w', Fr w.size w w' → ReaR (Nw w) n id w' r → K r w') : Cl Tryz.prog hk 14 [.agg (ndC n s), .int .i64 id] w K := by
  refine in14 (hh.no _ _ _ (by decide) (by decide)) ?_
  unfold F14
  have pv : Pv (Nw w) w := ⟨hm, hpos, fun _ h => h⟩
  refine gd_t h.ok (pv.st.new' fun b20 w21 st21 x21 => st21.new' fun b22 w23 st23 x23 => ?_)
  have st23 : Ow (Nw w) [] w w23 [(b22, .row (ndC zNd zSl)), (b20, .row (ndC n s))] := st23
  have nr23 := (h.arg hm st23).outs
  have err : ∀ {w' : AW} {e : Int}, Ow (Nw w) [] w w' [(b22, .row (ndC zNd zSl)), (b20, .row (ndC n s))] → reaE n = e → e ≠ 0 → onM (AW.putCells w' b22 0 (ndC zNd zSl)) fun w_46 =>
   ∃ res_47 res_48 res_49 res_50 res_51 res_52 res_53 res_54 : Int, ∃ res_55 res_56 : AV, ∃ res_57 : Int, ∃ res_58 res_59 res_60 res_61 : AV, ∃ res_62 res_63 res_64 : Int, ∃ res_65 : AV, ldN 19 w_46 b22 0 = some (.agg [(.int .i64 res_47), (.int .i64 res_48), (.int .u8 res_49), (.int .i64 res_50), (.int .i64 res_51), (.int .i64 res_52), (.int .i64 res_53), (.int .i64 res_54), res_55, res_56, (.int .i64 res_57), res_58, res_59, res_60, res_61, (.int .i64 res_62), (.int .i64 res_63), (.int .i64 res_64), res_65]) ∧
   K (.tup [(.agg [(.int .i64 res_47), (.int .i64 res_48), (.int .u8 res_49), (.int .i64 res_50), (.int .i64 res_51), (.int .i64 res_52), (.int .i64 res_53), (.int .i64 res_54), res_55, res_56, (.int .i64 res_57), res_58, res_59, res_60, res_61, (.int .i64 res_62), (.int .i64 res_63), (.int .i64 res_64), res_65]), .nilslice, (.int .i64 e)]) w_46 := by
    intro w' e st' he h0
    refine st'.put 0 rfl (Nat.le_of_ble_eq_true rfl) fun w28 st28 x28 => ⟨_, _, _, _, _, _, _, _, _, _, _, _, _, _, _, _, _, _, _, st28.ldN 0 rfl rfl rfl, ?_⟩
    exact hK _ _ st28.fr (.inl ⟨by rw [he]; exact h0, by rw [he]⟩)
  refine ⟨_, _, _, _, _, _, _, _, _, _, _, _, _, _, _, _, _, _, _, st23.ldN 1 rfl rfl rfl, ?_⟩
  refine s8 hh st23.mem st23.P0.pos nr23 sm fun c w5 f5 hc => ⟨_, rfl, ?_⟩
  obtain ⟨st5, x5⟩ := st23.call f5
  have nr5 := (h.arg hm st5).outs
  cases c with
  | false =>
    have hn : ¬ RightN n := fun hr => absurd (hc.2 hr) (by decide)
    exact ifT_t (err st5 (by unfold reaE; rw [if_pos hn]) (by decide))
  | true =>
  have hr := hc.1 rfl
  have hb := hr.base.2
  unfold G40 at hb
  refine ifT_f ⟨_, _, _, _, _, _, _, _, _, _, _, _, _, _, _, _, _, _, _, st5.ldN 1 rfl rfl rfl, _, st5.ld 1 rfl rfl, ?_⟩
  refine s53 hh st5.mem nr5 hr.base.1 (by omega) sm.log fun w6 f6 => ⟨_, _, rfl, ?_⟩
  obtain ⟨st6, x6⟩ := st5.call f6
  refine join_of (fun l w' => w' = w6 ∧ ∃ c : Bool, l = [.bool c] ∧ (c = true ↔ notLed n)) ?_ fun J hJ => ?_
  · rintro l w7 ⟨rfl, c, rfl, hc7⟩
    refine ⟨_, rfl, fun _ => ?_⟩
    cases c with
    | true => exact ifT_t (err st6 (by unfold reaE; rw [if_neg (not_not_intro hr), if_pos (hc7.1 rfl)]) (by decide))
    | false =>
    have hnl : ¬ notLed n := fun hx => absurd (hc7.2 hx) (by decide)
    have hrole : n.role = 3 := Decidable.byContradiction fun hx => hnl (.inl hx)
    have nr7 := (h.arg hm st6).outs
    refine ifT_f (onM_s (v := s.reads) (st6.ld 1 rfl rfl) ⟨_, nr7.reads.len', ifT_d (fun h64 => err st6 (by unfold reaE; rw [if_neg (not_not_intro hr), if_neg hnl, if_pos (by omega)]) (by decide)) fun h64 => ⟨_, st6.ld 1 rfl rfl, ifT_d (fun hg => err st6 (by unfold reaE; rw [if_neg (not_not_intro hr), if_neg hnl, if_neg (by omega), if_pos hg]) (by decide)) fun hg => ?_⟩⟩)
    have h0 : reaE n = 0 := by unfold reaE; rw [if_neg (not_not_intro hr), if_neg hnl, if_neg (by omega), if_neg hg]
    have hro := hr.round
    have hro2 := hro.2
    unfold G40 at hro2
    have hid := hr.id
    have hsz := hr.size
    have hseen := hr.seen
    have hrl := hr.reads.2
    refine ⟨_, _, _, _, _, _, _, _, _, _, _, _, _, _, _, _, _, _, _, st6.ldN 1 rfl rfl rfl, ?_⟩
    refine s43 hh st6 (h.arg hm st6) (hr.bc hlog) fun W bs bm bn bv s1 w8 wk8 x8 => ?_
    obtain ⟨st8, wr8, we8⟩ := wk8
    simp only [onP]
    refine ⟨_, st8.ld 0 rfl rfl, st8.put 0 rfl (Nat.le_of_ble_eq_true rfl) fun w9 st9 x9 => ?_⟩
    rw [wi_eq (x := n.round + 1) (by omega) (by omega)] at st9
    refine onM_s (v := s1.seen) (st9.ld 0 rfl rfl) ⟨_, st9.ld 6 rfl rfl, _, st9.ld 0 rfl rfl, ?_⟩
    obtain ⟨k, hkk⟩ : ∃ k : Nat, n.id - 1 = (k : Int) := Int.eq_ofNat_of_zero_le (by omega)
    have hk1 : k < n.seen.length := by omega
    rw [we8.seen, wi_eq (x := n.id - 1) (by omega) (by omega), hkk]
    refine idx0 hk1 (st9.put 1 rfl (by rw [List.length_map]; simp; omega) fun w10 st10 x10 => onM_s (v := s1.reads) (st10.ld 0 rfl rfl) ⟨_, st10.ld 6 rfl rfl, _, st10.ld 0 rfl rfl, ?_⟩)
    have ek : k = (n.id - 1).toNat := by omega
    subst ek
    have st10 : Ow (Nw w) [] w w10 (wkL W bs bm bn bv { n with round := n.round + 1, seen := n.seen.set (n.id - 1).toNat (n.round + 1) } s1 .nilslice 0 [(b22, .row (ndC zNd zSl)), (b20, .row (ndC n s))]) := by
      have := st10
      simp only [stN] at this
      rw [put_set hk1] at this
      exact this
    have wr10 := (wr8.x x9).x x10
    refine st10.new' fun b201 w11 st11 x11 => gd_t wr10.reads.ok1 (st11.new' fun b203 w12 st12 x12 => ⟨st12.ld 2 rfl rfl, st12.ld 8 rfl rfl, st12.ld 2 rfl rfl, ?_⟩)
    obtain ⟨st13, x13, _, hb203⟩ := st12.drop
    obtain ⟨st14, x14, hA201, hb201⟩ := st13.drop
    have xx : Xt (W :: bs :: bm :: bn :: bv :: [b22, b20]) w10 (W :: bs :: bm :: bn :: bv :: [b22, b20]) w12 := (x11.trans x12).trans (x13.trans x14)
    have hg14 := wr10.reads.x xx
    have hbx : Box w12 b201 [.int .i64 id, .int .i64 n.commit, .int .i64 (n.round + 1)] := hb201
    refine s54 hh st14.mem st14.P0.pos hb203 hg14 (Box.rd1 (y := (id, n.commit, n.round + 1)) hbx hA201 rfl) (by simp) (by simp; omega) fun v15 w15 f15 hv15 => ?_
    obtain ⟨st15, x15⟩ := st14.call f15
    have hg15 : (rL rG).rd (fz (Nw w) (W :: bs :: bm :: bn :: bv :: [b22, b20])) w15 [v15] (n.reads ++ [(id, n.commit, n.round + 1)]) := hv15 _ (fun b hb => st14.P.new b hb) fun _ _ h => h.xa Xa.refl
    refine gd_t hg15.ok1 (st15.put 0 rfl (Nat.le_of_ble_eq_true rfl) fun w16 st16 x16 => ?_)
    have wr16 := ((wr10.x xx).x x15).x x16
    have wk16 : Wk (Nw w) [] w w16 W bs bm bn bv (readN n id) { s1 with reads := v15 } .nilslice [] 0 [(b22, .row (ndC zNd zSl)), (b20, .row (ndC n s))] := ⟨st16, ⟨wr16.snap, wr16.log, hg15.x x16, wr16.out⟩, ⟨by show s1.seen = .slice bs 0 (n.seen.set _ _).length (n.seen.set _ _).length _; rw [List.length_set]; exact we8.seen, we8.mtch, we8.next, we8.votes⟩⟩
    have sc := hr.sc hlog hrole
    refine s49 hh wk16 ⟨sc.size, sc.base, sc.log, sc.data, sc.snap, sc.len, sc.next⟩ (by simp) fun out17 w17 wk17 x17 => ⟨rfl, ?_⟩
    rw [List.nil_append] at wk17
    obtain ⟨st17, wr17, we17⟩ := wk17
    refine ⟨_, _, _, _, _, _, _, _, _, _, _, _, _, _, _, _, _, _, _, st17.ldN 0 rfl rfl rfl, onM_s (v := out17) (st17.ld 0 rfl rfl) (gd_t (wr17.okN we17) (st17.put 5 rfl (Nat.le_of_ble_eq_true rfl) fun w18 st18 x18 => ⟨st18.ld 0 rfl rfl, _, _, _, _, _, _, _, _, _, _, _, _, _, _, _, _, _, _, _, st18.ldN 5 rfl rfl rfl, ?_⟩))⟩
    have wr18 := wr17.x x18
    exact hK _ _ st18.fr (.inr ⟨hr, h0, _, out17, rfl, nr_of 1 2 3 4 st18 wr18 we17 rfl rfl rfl rfl, wr18.out.out⟩)
  · refine ⟨_, st6.ld 1 rfl rfl, ifT_nd (fun h3 => hJ _ _ ⟨rfl, true, rfl, iff_of_true rfl (.inl h3)⟩) fun h3 => ⟨_, st6.ld 1 rfl rfl, hJ _ _ ⟨rfl, _, rfl, ?_⟩⟩⟩
    unfold notLed
    rw [Bool.not_eq_true', decide_eq_false_iff_not]
    exact ⟨fun hx => .inr hx, fun hx => hx.resolve_left (not_not_intro h3)⟩
end
end Go.Proofs.YtghoifolghelnaaGreat
/-
 Sure,Compact and New,over memory.
 No condition beyond those that each theorem names.
-/
set_option linter.unusedSimpArgs false
open Go.Sx
set_option linter.unusedVariables false
set_option linter.unusedSimpArgs false
namespace Go.Proofs.YtghoifolghelnaaGreat
section
variable {hk : Hook} {T A A' B : Nat → Prop} {I : List Nat} {w0 w w' : AW} {K : AV → AW → Prop} {n : Nd} {s : Sl} {v out : AV} {W bs bm bn bv : Nat} {ms : List Msg} {dr : Int} {L : Obs} {U U' : List Nat}
theorem s68 {r : Rdg} {c : Nat} {x : Int} (hh : HK hk) (hm : Mem w) (hc : Box w c [.int .i64 x]) (hK : ∀ w',Fr w.size w w' → K (.bool (decide (x < r.2.2))) w') : Cl Tryz.prog hk 68 [.agg [.int .i64 r.1,.int .i64 r.2.1,.int .i64 r.2.2],.ptr c 0] w K := by
 refine in68 (hh.no _ _ _ (by decide) (by decide)) ?_
 unfold F68
 refine new_of hm fun w1 f1 b1 z1 => ⟨_,by rw [b1.ld]; rfl,?_⟩
 simp only [onP]
 exact ⟨_,by rw [(hc.fr f1 (hc.lt hm)).ld]; rfl,hK _ f1⟩
theorem s67 {l : List Rdg} {c : Nat} {x : Int} (hh : HK hk) (hm : Mem w) (h : (rL rG).rd A w [v] l) (hc : Box w c [.int .i64 x]) (hs : l.length < 2 ^ 60) (hK : ∀ (i : Int) w', Fr w.size w w' → (i = -1 ∧ l.findIdx (fun r => decide (x < r.2.2)) = l.length ∨ 0 ≤ i ∧ (l.findIdx (fun r => decide (x < r.2.2)) : Int) = i) → K (.int .i64 i) w') : Cl Tryz.prog hk 67 [v, .func 68 [] [.ptr c 0]] w K := by
  refine in67 (hh.no _ _ _ (by decide) (by decide)) ?_
  unfold F67
  refine ⟨_, h.len', ?_⟩
  refine loopP_ind (fun m lv w5 => ∃ i : Nat, Fr w.size w w5 ∧ i ≤ l.length ∧ m = l.length - i ∧ lv = [.int .i64 i] ∧ ∀ j, (hj : j < l.length) → j < i → decide (x < l[j].2.2) = false) ?_ ⟨0, Fr.refl hm, Nat.zero_le _, rfl, rfl, fun j _ hj => by omega⟩
  rintro m lv w5 ⟨i, f5, hi, rfl, rfl, hno⟩ R ih
  have h5 := h.xa (xa_fr hm f5)
  refine ⟨_, rfl, fun _ => ifT_d (fun hcc => ?_) fun hcc => hK _ _ f5 (.inl ⟨rfl, ?_⟩)⟩
  · have hil : i < l.length := by omega
    refine rdg_at h5 hil fun b o _ _ _ hn => ⟨_, _, _, hn, ?_⟩
    show Cl Tryz.prog hk 68 [.agg [.int .i64 l[i].1, .int .i64 l[i].2.1, .int .i64 l[i].2.2], .ptr c 0] w5 _
    refine s68 hh f5.mem (hc.fr f5 (hc.lt hm)) fun w6 f6 => ⟨_, rfl, ?_⟩
    have g6 : Fr w.size w w6 := f5.trans' f6 (Nat.le_refl _)
    cases hp : decide (x < l[i].2.2) with
    | true =>
      refine ifT_t (hK _ _ g6 (.inr ⟨by omega, ?_⟩))
      congr 1
      exact (List.findIdx_eq hil).2 ⟨hp, fun j hj => by simpa using hno j (by omega) hj⟩
    | false =>
      refine ifT_f (ih (l.length - (i + 1)) (by omega) _ _ ⟨i + 1, g6, hil, rfl, by rw [wi_eq (by omega) (by omega)]; rfl, fun j hj hji => ?_⟩)
      rcases (show j < i ∨ j = i by omega) with h | rfl
      · exact hno j hj h
      · exact hp
  · refine List.findIdx_eq_length.2 fun y hy => ?_
    obtain ⟨j, hj, e⟩ := List.getElem_of_mem hy
    rw [← e]; exact hno j hj (by omega)
noncomputable def sureK (n : Nd) : Nat := n.reads.findIdx fun r => decide (ruleF n.seen < r.2.2)
noncomputable def sureN (n : Nd) : Nd := { n with reads := n.reads.drop (sureK n) }
def SurR (T : Nat → Prop) (n : Nd) (w : AW) (r : AV) : Prop := (¬ RightN n ∧ r = .tup [.agg (ndC zNd zSl),.nilslice,.int .i64 2]) ∨
 (RightN n ∧ ∃ s' out',r = .tup [.agg (ndC (sureN n) s'),out',.int .i64 0] ∧ NR T w (sureN n) s' ∧ (rL rG).rd T w [out'] (n.reads.take (sureK n)))
theorem sureK_le (n : Nd) : sureK n ≤ n.reads.length := List.findIdx_le_length
set_option maxRecDepth 20000 in
theorem s21 (hh : HK hk) (hm : Mem w) (hpos : 0 < w.size) (h : NR A w n s) (sm : Sm n) (hlog : n.log.length < 2 ^ 29) (hK : ∀ r w', Fr w.size w w' → SurR (Nw w) n w' r → K r w') : Cl Tryz.prog hk 21 [.agg (ndC n s)] w K := by
  refine in21 (hh.no _ _ _ (by decide) (by decide)) ?_
  unfold F21
  have pv : Pv (Nw w) w := ⟨hm, hpos, fun _ h => h⟩
  refine gd_t h.ok (pv.st.new' fun b20 w21 st21 x21 => st21.new' fun b22 w23 st23 x23 => ?_)
  have st23 : Ow (Nw w) [] w w23 [(b22, .row (ndC zNd zSl)), (b20, .row (ndC n s))] := st23
  have nr23 := (h.arg hm st23).outs
  refine ⟨_, _, _, _, _, _, _, _, _, _, _, _, _, _, _, _, _, _, _, st23.ldN 1 rfl rfl rfl, ?_⟩
  refine s8 hh st23.mem st23.P0.pos nr23 sm fun c w5 f5 hc => ⟨_, rfl, ?_⟩
  obtain ⟨st5, x5⟩ := st23.call f5
  have nr5 := (h.arg hm st5).outs
  cases c with
  | false =>
    have hn : ¬ RightN n := fun hr => absurd (hc.2 hr) (by decide)
    refine ifT_t (st5.put 0 rfl (Nat.le_of_ble_eq_true rfl) fun w28 st28 x28 => ⟨_, _, _, _, _, _, _, _, _, _, _, _, _, _, _, _, _, _, _, st28.ldN 0 rfl rfl rfl, ?_⟩)
    exact hK _ _ st28.fr (.inl ⟨hn, rfl⟩)
  | true =>
  have hr := hc.1 rfl
  have hseen := hr.seen
  have hsz := hr.size
  have hrl := hr.reads.2
  refine ifT_f ⟨_, _, _, _, _, _, _, _, _, _, _, _, _, _, _, _, _, _, _, st5.ldN 1 rfl rfl rfl, ?_⟩
  refine s43 hh st5 (h.arg hm st5) (hr.bc hlog) fun W bs bm bn bv s1 w8 wk8 x8 => ?_
  obtain ⟨st8, wr8, we8⟩ := wk8
  refine onM_s (v := s.seen) (st8.ld 6 rfl rfl) ?_
  refine s66 hh st8.mem ((h.arg hm st8).outs.seen.rsI) (by omega) fun r w9 hrule f9 => ⟨_, rfl, ?_⟩
  have er := ruleF_eq hrule
  subst er
  obtain ⟨st9, x9⟩ := st8.call f9
  refine st9.new' fun b90 w10 st10 x10 => st10.put 0 rfl (Nat.le_of_ble_eq_true rfl) fun w11 st11 x11 => ?_
  simp only [onP]
  refine onM_s (v := s1.reads) (st11.ld 1 rfl rfl) ?_
  obtain ⟨st12, x12, _, hb90⟩ := st11.drop
  have hb90 : Box w11 b90 [.int .i64 (ruleF n.seen)] := hb90
  have x812 : Xt (W :: bs :: bm :: bn :: bv :: [b22, b20]) w8 (W :: bs :: bm :: bn :: bv :: [b22, b20]) w11 := ((x9.trans x10).trans x11).trans x12
  have wr12 := wr8.x x812
  refine s67 hh st12.mem wr12.reads.out hb90 (by omega) fun i w13 f13 hi => ⟨_, rfl, ?_⟩
  obtain ⟨st13, x13⟩ := st12.call f13
  have wr13 := wr12.x x13
  have hkl := sureK_le n
  refine join_of (fun l w' => w' = w13 ∧ l = [.int .i64 (sureK n : Int)]) ?_ fun J hJ => ?_
  · rintro l w14 ⟨rfl, rfl⟩
    refine ⟨_, rfl, fun _ => onM_s (v := s1.reads) (st13.ld 0 rfl rfl) ?_⟩
    obtain ⟨p1, hs1, hp1⟩ := wr13.reads.cut (i := 0) (j := sureK n) (Nat.zero_le _) hkl (.inr ⟨rfl, rfl⟩) (.inl rfl)
    rw [List.drop_zero] at hp1
    refine onM_s hs1 (s69 hh st13.mem hp1 (by rw [List.length_take]; omega) fun v15 w15 f15 h15 => onM_s (v := s1.reads) ((st13.call f15).1.ld 0 rfl rfl) ?_)
    obtain ⟨st15, x15⟩ := st13.call f15
    have hr15 : (rL rG).rd (fz (Nw w) (W :: bs :: bm :: bn :: bv :: [b22, b20])) w15 [v15] (n.reads.take (sureK n)) := h15.rd (fun c hc => st13.P.new c hc) Chk.flG
    have wr15 := wr13.x x15
    obtain ⟨p2, hs2, hp2⟩ := wr15.reads.cut (i := sureK n) (j := n.reads.length) hkl (Nat.le_refl _) (.inl rfl) (.inr ⟨rfl, rfl⟩)
    rw [List.take_length] at hp2
    refine onM_s hs2 (s69 hh st15.mem hp2 (by rw [List.length_drop]; omega) fun v16 w16 f16 h16 => ?_)
    obtain ⟨st16, x16⟩ := st15.call f16
    have hr16 : (rL rG).rd (fz (Nw w) (W :: bs :: bm :: bn :: bv :: [b22, b20])) w16 [v16] (n.reads.drop (sureK n)) := h16.rd (fun c hc => st15.P.new c hc) Chk.flG
    refine gd_t hr16.ok1 (st16.put 0 rfl (Nat.le_of_ble_eq_true rfl) fun w17 st17 x17 => ?_)
    have wr17 : Wr (Nw w) (W :: bs :: bm :: bn :: bv :: [b22, b20]) w17 (sureN n) { s1 with reads := v16 } .nilslice [] := by
      have a := (wr15.x x16).x x17
      exact ⟨a.snap, a.log, hr16.x x17, a.out⟩
    have we17 : We bs bm bn bv (sureN n) { s1 with reads := v16 } := ⟨we8.seen, we8.mtch, we8.next, we8.votes⟩
    refine ⟨_, _, _, _, _, _, _, _, _, _, _, _, _, _, _, _, _, _, _, st17.ldN 0 rfl rfl rfl, gd_t (wr17.okN we17) (st17.put 5 rfl (Nat.le_of_ble_eq_true rfl) fun w18 st18 x18 => ⟨_, _, _, _, _, _, _, _, _, _, _, _, _, _, _, _, _, _, _, st18.ldN 5 rfl rfl rfl, ?_⟩)⟩
    have wr18 := wr17.x x18
    exact hK _ _ st18.fr (.inr ⟨hr, { s1 with reads := v16 }, v15, rfl, nr_of 1 2 3 4 st18 wr18 we17 rfl rfl rfl rfl, (((hr15.x x16).x x17).x x18).out⟩)
  · refine ifT_d (fun hneg => ?_) fun hneg => hJ _ _ ⟨rfl, ?_⟩
    · refine onM_s (v := s1.reads) (st13.ld 0 rfl rfl) ⟨_, wr13.reads.len', hJ _ _ ⟨rfl, ?_⟩⟩
      have e : sureK n = n.reads.length := by
        rcases hi with ⟨_, e⟩ | ⟨h0, _⟩
        · exact e
        · omega
      rw [e]
    · have e : (sureK n : Int) = i := by
        rcases hi with ⟨e, _⟩ | ⟨_, e⟩
        · omega
        · exact e
      rw [e]
open Classical in
noncomputable def comE (n : Nd) (i : Int) (d : Byts) : Int := if ¬ RightN n then 2 else if i ≤ n.base then 2 else if n.commit < i then 2 else if G40 < i then 2 else if 60000 < d.length then 3 else 0
def compN (n : Nd) (i : Int) (d : Byts) : Nd := { n with log := n.log.drop (i - n.base).toNat,base := i,bt := (termAt n.base n.bt (n.log.map (·.1)) i).1,snap := d }
def ComR (T : Nat → Prop) (n : Nd) (i : Int) (d : Byts) (w : AW) (r : AV) : Prop := (comE n i d ≠ 0 ∧ r = .tup [.agg (ndC zNd zSl),.int .i64 (comE n i d)]) ∨
 (RightN n ∧ comE n i d = 0 ∧ ∃ s',r = .tup [.agg (ndC (compN n i d) s'),.int .i64 0] ∧ NR T w (compN n i d) s')
set_option maxRecDepth 20000 in
theorem s15 {i : Int} {d : Byts} {dv : AV} (hh : HK hk) (hm : Mem w) (hpos : 0 < w.size) (h : NR A w n s) (sm : Sm n) (hlog : n.log.length < 2 ^ 29) (hd : (rL rU).rd B w [dv] d) (hK : ∀ r w', Fr w.size w w' → ComR (Nw w) n i d w' r → K r w') : Cl Tryz.prog hk 15 [.agg (ndC n s), .int .i64 i, dv] w K := by
  refine in15 (hh.no _ _ _ (by decide) (by decide)) ?_
  unfold F15
  have pv : Pv (Nw w) w := ⟨hm, hpos, fun _ h => h⟩
  refine gd_t h.ok (pv.st.new' fun b20 w21 st21 x21 => st21.new' fun b22 w23 st23 x23 => ?_)
  have st23 : Ow (Nw w) [] w w23 [(b22, .row (ndC zNd zSl)), (b20, .row (ndC n s))] := st23
  have nr23 := (h.arg hm st23).outs
  have err : ∀ {w' : AW} {e : Int}, Ow (Nw w) [] w w' [(b22, .row (ndC zNd zSl)), (b20, .row (ndC n s))] → comE n i d = e → e ≠ 0 → onM (AW.putCells w' b22 0 (ndC zNd zSl)) fun w_46 =>
   ∃ res_47 res_48 res_49 res_50 res_51 res_52 res_53 res_54 : Int, ∃ res_55 res_56 : AV, ∃ res_57 : Int, ∃ res_58 res_59 res_60 res_61 : AV, ∃ res_62 res_63 res_64 : Int, ∃ res_65 : AV, ldN 19 w_46 b22 0 = some (.agg [(.int .i64 res_47), (.int .i64 res_48), (.int .u8 res_49), (.int .i64 res_50), (.int .i64 res_51), (.int .i64 res_52), (.int .i64 res_53), (.int .i64 res_54), res_55, res_56, (.int .i64 res_57), res_58, res_59, res_60, res_61, (.int .i64 res_62), (.int .i64 res_63), (.int .i64 res_64), res_65]) ∧
   K (.tup [(.agg [(.int .i64 res_47), (.int .i64 res_48), (.int .u8 res_49), (.int .i64 res_50), (.int .i64 res_51), (.int .i64 res_52), (.int .i64 res_53), (.int .i64 res_54), res_55, res_56, (.int .i64 res_57), res_58, res_59, res_60, res_61, (.int .i64 res_62), (.int .i64 res_63), (.int .i64 res_64), res_65]), (.int .i64 e)]) w_46 := by
    intro w' e st' he h0
    refine st'.put 0 rfl (Nat.le_of_ble_eq_true rfl) fun w28 st28 x28 => ⟨_, _, _, _, _, _, _, _, _, _, _, _, _, _, _, _, _, _, _, st28.ldN 0 rfl rfl rfl, ?_⟩
    exact hK _ _ st28.fr (.inl ⟨by rw [he]; exact h0, by rw [he]⟩)
  refine ⟨_, _, _, _, _, _, _, _, _, _, _, _, _, _, _, _, _, _, _, st23.ldN 1 rfl rfl rfl, ?_⟩
  refine s8 hh st23.mem st23.P0.pos nr23 sm fun c w5 f5 hc => ⟨_, rfl, ?_⟩
  obtain ⟨st5, x5⟩ := st23.call f5
  have nr5 := (h.arg hm st5).outs
  cases c with
  | false =>
    have hn : ¬ RightN n := fun hr => absurd (hc.2 hr) (by decide)
    exact ifT_t (err st5 (by unfold comE; rw [if_pos hn]) (by decide))
  | true =>
  have hr := hc.1 rfl
  have hb := hr.base.2
  have hcm := hr.commit
  unfold G40 at hb
  refine ifT_f ⟨_, st5.ld 1 rfl rfl, ifT_d (fun h1 => err st5 (by unfold comE; rw [if_neg (not_not_intro hr), if_pos h1]) (by decide)) fun h1 => ⟨_, st5.ld 1 rfl rfl, ifT_d (fun h2 => err st5 (by unfold comE; rw [if_neg (not_not_intro hr), if_neg h1]; by_cases q : n.commit < i; rw [if_pos q]; rw [if_neg q, if_pos (by unfold imin at h2; unfold G40; split at h2 <;> omega)]) (by decide)) fun h2 => ⟨_, (st5.arg hm hd).len', ifT_d (fun h3 => ?_) fun h3 => ?_⟩⟩⟩
  all_goals have h2a : ¬ n.commit < i := by unfold imin at h2; split at h2 <;> omega
  all_goals have h2b : ¬ G40 < i := by unfold imin at h2; unfold G40; split at h2 <;> omega
  · exact err st5 (by unfold comE; rw [if_neg (not_not_intro hr), if_neg h1, if_neg h2a, if_neg h2b, if_pos (by omega)]) (by decide)
  have h0 : comE n i d = 0 := by unfold comE; rw [if_neg (not_not_intro hr), if_neg h1, if_neg h2a, if_neg h2b, if_neg (by omega)]
  refine ⟨_, _, _, _, _, _, _, _, _, _, _, _, _, _, _, _, _, _, _, st5.ldN 1 rfl rfl rfl, ?_⟩
  refine s43 hh st5 (h.arg hm st5) (hr.bc hlog) fun W bs bm bn bv s1 w8 wk8 x8 => ?_
  obtain ⟨st8, wr8, we8⟩ := wk8
  refine ⟨_, _, _, _, _, _, _, _, _, _, _, _, _, _, _, _, _, _, _, st8.ldN 6 rfl rfl rfl, ?_⟩
  refine s53 hh st8.mem (h.arg hm st8).outs hr.base.1 (by omega) sm.log fun w9 f9 => ⟨_, _, rfl, ?_⟩
  obtain ⟨st9, x9⟩ := st8.call f9
  simp only [onP]
  refine st9.put 0 rfl (Nat.le_of_ble_eq_true rfl) fun w10 st10 x10 => onM_s (v := s1.log) (st10.ld 0 rfl rfl) ⟨_, st10.ld 6 rfl rfl, ?_⟩
  obtain ⟨k, hkk⟩ : ∃ k : Nat, i - n.base = (k : Int) := Int.eq_ofNat_of_zero_le (by omega)
  unfold lastN at hcm
  unfold G40 at h2b
  rw [wi_eq (x := i - n.base) (by omega) (by omega), hkk]
  have wr10 := (wr8.x x9).x x10
  obtain ⟨p1, hs1, hp1⟩ := wr10.log.cut (i := k) (j := n.log.length) (by omega) (Nat.le_refl _) (.inl rfl) (.inr ⟨rfl, rfl⟩)
  rw [List.take_length] at hp1
  refine onM_s hs1 (s55 hh st10.mem (st10.arg hm hd) (by omega) fun v11 w11 f11 h11 => ⟨(st10.call f11).1.ld 6 rfl rfl, (st10.call f11).1.ld 0 rfl rfl, ?_⟩)
  obtain ⟨st11, x11⟩ := st10.call f11
  have hs11 : (rL rU).rd (fz (Nw w) (W :: bs :: bm :: bn :: bv :: [b22, b20])) w11 [v11] d := h11.rd (fun c hc => st10.P.new c hc) Chk.flU
  refine gd_t hp1.ok1 (st11.put 0 rfl (Nat.le_of_ble_eq_true rfl) fun w12 st12 x12 => st12.put 0 rfl (Nat.le_of_ble_eq_true rfl) fun w13 st13 x13 => gd_t hs11.ok1 (st13.put 0 rfl (Nat.le_of_ble_eq_true rfl) fun w14 st14 x14 => ?_))
  have ek : k = (i - n.base).toNat := by omega
  subst ek
  have x1014 : Xt (W :: bs :: bm :: bn :: bv :: [b22, b20]) w10 (W :: bs :: bm :: bn :: bv :: [b22, b20]) w14 := ((x11.trans x12).trans x13).trans x14
  have wr14 : Wr (Nw w) (W :: bs :: bm :: bn :: bv :: [b22, b20]) w14 (compN n i d) { s1 with log := p1, snap := v11 } .nilslice [] := by
    have a := wr10.x x1014
    exact ⟨((hs11.x x12).x x13).x x14, hp1.x x1014, a.reads, a.out⟩
  have we14 : We bs bm bn bv (compN n i d) { s1 with log := p1, snap := v11 } := ⟨we8.seen, we8.mtch, we8.next, we8.votes⟩
  refine ⟨_, _, _, _, _, _, _, _, _, _, _, _, _, _, _, _, _, _, _, st14.ldN 0 rfl rfl rfl, gd_t (wr14.okN we14) (st14.put 5 rfl (Nat.le_of_ble_eq_true rfl) fun w18 st18 x18 => ⟨_, _, _, _, _, _, _, _, _, _, _, _, _, _, _, _, _, _, _, st18.ldN 5 rfl rfl rfl, ?_⟩)⟩
  have wr18 := wr14.x x18
  exact hK _ _ st18.fr (.inr ⟨hr, h0, { s1 with log := p1, snap := v11 }, rfl, nr_of 1 2 3 4 st18 wr18 we14 rfl rfl rfl rfl⟩)
end
end Go.Proofs.YtghoifolghelnaaGreat
/-
 New,of the program and of the reference.
 No condition beyond those that each theorem names.
-/
set_option linter.unusedSimpArgs false
open Go.Sx
set_option linter.unusedVariables false
set_option linter.unusedSimpArgs false
namespace Go.Proofs.YtghoifolghelnaaGreat
def toF (d : Int) : Int := 10 + Int.tmod (Int.tmod d 10 + 10) 10
theorem tmod10 (d : Int) : -10 < Int.tmod d 10 ∧ Int.tmod d 10 < 10 := ⟨Int.lt_tmod_of_pos d (by decide),Int.tmod_lt_of_pos d (by decide)⟩
theorem toF_eq (d : Int) : toF d = if Int.tmod d 10 < 0 then 10 + (Int.tmod d 10 + 10) else 10 + Int.tmod d 10 := by
 have := tmod10 d
 unfold toF
 rw [Int.tmod_eq_emod_of_nonneg (a := Int.tmod d 10 + 10) (by omega)]
 split <;> omega
section
variable {hk : Hook} {T A A' B : Nat → Prop} {I : List Nat} {w0 w w' : AW} {K : AV → AW → Prop} {n : Nd} {s : Sl} {v out : AV} {W bs bm bn bv : Nat} {ms : List Msg} {dr : Int} {L : Obs} {U U' : List Nat}
theorem s71 {d : Int} (hh : HK hk) (hK : K (.int .i64 (toF d)) w) : Cl Tryz.prog hk 71 [.int .i64 d] w K := by
 refine in71 (hh.no _ _ _ (by decide) (by decide)) ?_
 unfold F71 be
 have h1 := tmod10 d
 rw [wi_eq (x := Int.tmod d 10 + 10) (by omega) (by omega)]
 have h2 := tmod10 (Int.tmod d 10 + 10)
 show K (.int .i64 (wi (10 + Int.tmod (Int.tmod d 10 + 10) 10))) w
 rw [wi_eq (by omega) (by omega)]
 exact hK
end
end Go.Proofs.YtghoifolghelnaaGreat
/-
 The reference's copies of nodes.
 No condition beyond those that each theorem names.
-/
set_option linter.unusedSimpArgs false
open Go.Sx
set_option linter.unusedVariables false
set_option linter.unusedSimpArgs false
namespace Go.Proofs.YtghoifolghelnaaGreat
section
variable {hk : Hook} {A A' B : Nat → Prop} {I : List Nat} {w0 w w' : AW} {K : AV → AW → Prop} {n : Nd} {s : Sl} {v out : AV} {W bs bm bn bv : Nat} {ms : List Msg} {dr : Int} {L : Obs} {U U' : List Nat}
theorem s46 {l : Byts} (hh : HK hk) (hm : Mem w) (h : (rL rU).rd A w [v] l) (hl : l.length ≤ 140737488351232) (hK : ∀ v' w',Fr w.size w w' → Cln rU A w w' v v' l → K v' w') : Cl Tryz.prog hk 46 [v] w K := by
 refine in46 (hh.no _ _ _ (by decide) (by decide)) ?_
 unfold F46
 exact copy_of hm h rfl (by decide) (by omega) (by decide) hK
theorem s48 {l : List Int} (hh : HK hk) (hm : Mem w) (h : (rL rI).rd A w [v] l) (hl : l.length * 8 ≤ 140737488351232) (hK : ∀ v' w',Fr w.size w w' → Cln rI A w w' v v' l → K v' w') : Cl Tryz.prog hk 48 [v] w K := by
 refine in48 (hh.no _ _ _ (by decide) (by decide)) ?_
 unfold F48
 exact copy_of hm h rfl (by decide) (by omega) (by decide) hK
theorem s47 {l : List Ent} (hh : HK hk) (hm : Mem w) (hpos : 0 < w.size) (h : (rL rE).rd A w [v] l) (hl : l.length < 2 ^ 38) (hd : ∀ e ∈ l,e.2.length ≤ 140737488351232) (hK : ∀ v' w',Fr w.size w w' → Ga rE (Nw w) w w' v' l → K v' w') : Cl Tryz.prog hk 47 [v] w K := by
 refine in47 (hh.no _ _ _ (by decide) (by decide)) ?_
 unfold F47
 have pv : Pv (Nw w) w := ⟨hm,hpos,fun _ h => h⟩
 refine loopP_ind (fun m lv w3 => ∃ (i : Nat) (o : AV),i ≤ l.length ∧ m = l.length - i ∧ lv = [o,.int .i64 i] ∧ Ow (Nw w) [] w w3 [] ∧ Ga rE (fz (Nw w) []) w w3 o (l.take i)) ?_ ⟨0,.nilslice,Nat.zero_le _,rfl,rfl,pv.st,by simpa using Ga.nil⟩
 rintro m lv w3 ⟨i,o,hi,rfl,rfl,st3,g3⟩ R ih
 have h3 := h.xa (xa_fr hm st3.fr)
 refine ⟨_,_,rfl,fun _ => ⟨_,h.len',ifT_d (fun hc => ?_) fun hc => ?_⟩⟩
 ·have hil : i < l.length := by omega
  refine ent_at h3 hil fun b7 o7 u _ ho _ _ => ⟨_,ho,ent_at h3 hil fun b8 o8 u hu _ hu2 _ => onM_s hu2 ?_⟩
  refine s46 hh st3.mem hu (hd _ (List.getElem_mem hil)) fun v4 w4 f4 h4 => ?_
  obtain ⟨st4,x4⟩ := st3.call f4
  have hr4 : (rL rU).rd (fz (Nw w) []) w4 [v4] l[i].2 := h4.rd (fun c hc => st3.P.new c hc) Chk.flU
  refine gd_t hr4.ok1 (gd_t (by simp only [List.all_cons,hr4.ok1]; rfl) (new_of st4.mem fun w5 f5 b5 z5 => ⟨ld_fr (ld_fr ho st3.mem f4) f4.mem f5,?_⟩))
  obtain ⟨st5,x5⟩ := st4.call f5
  have hsz5 := st4.fr.size
  have hx : (rL rE).rd (fz (Nw w) []) w5 [.slice w4.size 0 1 1 none] [l[i]] := Box.rd1 b5 ⟨hsz5,by simp⟩ ⟨v4,rfl,hr4.x x5⟩
  have g5 : Ga rE (fz (Nw w) []) w w5 o (l.take i) := Ga.x' (Ga.x' g3 x4 st3) x5 st4
  refine Ow.app (r := rE) st5 g5 hx (by decide) (fun c hc => by have := st5.fr.size; show w.size ≤ c; omega) (by rw [List.length_take]; simp; omega) (by rw [List.length_take]; simp; omega) fun o6 w6 st6 x6 g6 => ?_
  exact ih (l.length - (i + 1)) (by omega) _ _ ⟨i + 1,o6,hil,rfl,by rw [wi_eq (by omega) (by omega)]; rfl,st6,by rw [List.take_succ_eq_append_getElem hil]; exact g6⟩
 ·have : l.take i = l := List.take_of_length_le (by omega)
  rw [this] at g3
  exact hK _ _ st3.fr g3.out
structure Bd (n : Nd) : Prop where
 snap : n.snap.length ≤ 140737488351232
 log : n.log.length < 2 ^ 38
 votes : n.votes.length ≤ 140737488351232
 next : n.next.length * 8 ≤ 140737488351232
 mtch : n.mtch.length * 8 ≤ 140737488351232
 seen : n.seen.length * 8 ≤ 140737488351232
 reads : n.reads.length * 24 ≤ 140737488351232
structure CN (w w' : AW) (n : Nd) (s : Sl) (b : Nat) : Prop where
 le : w.size ≤ b
 box : Box w' b (n.seen.map (AV.int .i64))
 eq : s.seen = .slice b 0 n.seen.length n.seen.length (some 1)
 snap : (rL rU).rd (fz (Nw w) [b]) w' [s.snap] n.snap
 log : (rL rE).rd (fz (Nw w) [b]) w' [s.log] n.log
 votes : (rL rT).rd (fz (Nw w) [b]) w' [s.votes] n.votes
 next : (rL rI).rd (fz (Nw w) [b]) w' [s.next] n.next
 mtch : (rL rI).rd (fz (Nw w) [b]) w' [s.mtch] n.mtch
 reads : Ga rG (fz (Nw w) [b]) w w' s.reads n.reads
theorem Chk.flT {A A' : Nat → Prop} {w w' : AW} {cs : List AV} {l : List Bool} (h : Chk rT A w cs l) : Chk rT A' w' cs l := Chk.fl (fun h => h) h
set_option maxRecDepth 20000 in
theorem s11 (hh : HK hk) (hm : Mem w) (hpos : 0 < w.size) (h : NR B w n s) (sm : Sm n) (hd : ∀ e ∈ n.log,e.2.length ≤ 140737488351232) (hb : Bd n) (hK : ∀ s' w',Fr w.size w w' → NR (Nw w) w' n s' → (0 < n.seen.length → ∃ b,CN w w' n s' b) → K (.agg (ndC n s')) w') : Cl Tryz.prog hk 11 [.agg (ndC n s)] w K := by
 refine in11 (hh.no _ _ _ (by decide) (by decide)) ?_
 unfold F11
 obtain ⟨l1,l2,l3,l4,l5,l6,l7⟩ := hb
 have pv : Pv (Nw w) w := ⟨hm,hpos,fun _ h => h⟩
 refine gd_t h.ok (pv.st.new' fun b20 w21 st21 x21 => st21.new' fun b22 w23 st23 x23 => ?_)
 have st23 : Ow (Nw w) [] w w23 [(b22,.row (ndC zNd zSl)),(b20,.row (ndC n s))] := st23
 refine onM_s (v := s.snap) (st23.ld 1 rfl rfl) (s46 hh st23.mem (st23.arg hm h.snap) l1 fun v1 w1 f1 h1 => ?_)
 obtain ⟨st1,x1⟩ := st23.call f1
 have r1 : (rL rU).rd (fz (Nw w) [b22,b20]) w1 [v1] n.snap := h1.rd (fun c hc => st23.P.new c hc) Chk.flU
 refine gd_t r1.ok1 (st1.put 1 rfl (Nat.le_of_ble_eq_true rfl) fun w2 st2 x2 => ?_)
 have st2 : Ow (Nw w) [] w w2 [(b22,.row (ndC zNd zSl)),(b20,.row (ndC n { s with snap := v1 }))] := st2
 refine onM_s (v := s.log) (st2.ld 1 rfl rfl) (s47 hh st2.mem st2.P0.pos (st2.arg hm h.log) l2 hd fun v3 w3 f3 g3 => ?_)
 obtain ⟨st3,x3⟩ := st2.call f3
 have r3 : (rL rE).rd (fz (Nw w) [b22,b20]) w3 [v3] n.log := (g3.rd (by decide)).le (fun c _ hc => st2.P.new c hc) st3.mem
 refine gd_t r3.ok1 (st3.put 1 rfl (Nat.le_of_ble_eq_true rfl) fun w4 st4 x4 => ?_)
 have st4 : Ow (Nw w) [] w w4 [(b22,.row (ndC zNd zSl)),(b20,.row (ndC n { s with snap := v1,log := v3 }))] := st4
 refine onM_s (v := s.votes) (st4.ld 1 rfl rfl) (copy_of (r := rT) st4.mem (st4.arg hm h.votes) rfl (by decide) (by omega) (by decide) fun v5 w5 f5 h5 => ?_)
 obtain ⟨st5,x5⟩ := st4.call f5
 have r5 : (rL rT).rd (fz (Nw w) [b22,b20]) w5 [v5] n.votes := h5.rd (fun c hc => st4.P.new c hc) Chk.flT
 refine gd_t r5.ok1 (st5.put 1 rfl (Nat.le_of_ble_eq_true rfl) fun w6 st6 x6 => ?_)
 have st6 : Ow (Nw w) [] w w6 [(b22,.row (ndC zNd zSl)),(b20,.row (ndC n { s with snap := v1,log := v3,votes := v5 }))] := st6
 refine onM_s (v := s.next) (st6.ld 1 rfl rfl) (s48 hh st6.mem (st6.arg hm h.next) l4 fun v7 w7 f7 h7 => ?_)
 obtain ⟨st7,x7⟩ := st6.call f7
 have r7 : (rL rI).rd (fz (Nw w) [b22,b20]) w7 [v7] n.next := h7.rd (fun c hc => st6.P.new c hc) Chk.flI
 refine gd_t r7.ok1 (st7.put 1 rfl (Nat.le_of_ble_eq_true rfl) fun w8 st8 x8 => ?_)
 have st8 : Ow (Nw w) [] w w8 [(b22,.row (ndC zNd zSl)),(b20,.row (ndC n { s with snap := v1,log := v3,votes := v5,next := v7 }))] := st8
 refine onM_s (v := s.mtch) (st8.ld 1 rfl rfl) (s48 hh st8.mem (st8.arg hm h.mtch) l5 fun v9 w9 f9 h9 => ?_)
 obtain ⟨st9,x9⟩ := st8.call f9
 have r9 : (rL rI).rd (fz (Nw w) [b22,b20]) w9 [v9] n.mtch := h9.rd (fun c hc => st8.P.new c hc) Chk.flI
 refine gd_t r9.ok1 (st9.put 1 rfl (Nat.le_of_ble_eq_true rfl) fun w10 st10 x10 => ?_)
 have st10 : Ow (Nw w) [] w w10 [(b22,.row (ndC zNd zSl)),(b20,.row (ndC n { s with snap := v1,log := v3,votes := v5,next := v7,mtch := v9 }))] := st10
 refine onM_s (v := s.seen) (st10.ld 1 rfl rfl) (s48 hh st10.mem (st10.arg hm h.seen) l6 fun v11 w11 f11 h11 => ?_)
 have ht1 : okCell v1 = true := r1.ok1
 have ht3 : okCell v3 = true := r3.ok1
 have ht5 : okCell v5 = true := r5.ok1
 have ht7 : okCell v7 = true := r7.ok1
 have ht9 : okCell v9 = true := r9.ok1
 have ht11 : okCell v11 = true := (h11.rd (A' := fun _ => True) (fun _ _ => trivial) Chk.flI).ok1
 obtain ⟨b,o,st11,x11,hcase⟩ : ∃ b o,Ow (Nw w) [] w w11 ((b,o) :: [(b22,.row (ndC zNd zSl)),(b20,.row (ndC n { s with snap := v1,log := v3,votes := v5,next := v7,mtch := v9 }))]) ∧ Xt [b22,b20] w10 (ids ((b,o) :: [(b22,.row (ndC zNd zSl)),(b20,.row [])])) w11 ∧
   ((o = .row (n.seen.map (AV.int .i64)) ∧ v11 = .slice b 0 n.seen.length n.seen.length (some 1)) ∨ (n.seen.length = 0 ∧ o = .none ∧ (rL rI).rd (fz (Nw w) (ids ((b,o) :: [(b22,.row (ndC zNd zSl)),(b20,.row [])]))) w11 [v11] n.seen)) := by
  by_cases hse : 0 < n.seen.length
  ·obtain ⟨b,e,a1,a2⟩ := cln_own (f := AV.int .i64) st10 h11 hse (fun _ h => Chk.ints.1 h) f11
   exact ⟨b,_,a1,a2,.inl ⟨rfl,e⟩⟩
  ·obtain ⟨a1,a2⟩ := st10.call f11
   exact ⟨0,.none,a1.room,a2,.inr ⟨by omega,rfl,h11.rd (fun c hc => st10.P.new c hc) Chk.flI⟩⟩
 refine gd_t ht11 (st11.put 2 rfl (Nat.le_of_ble_eq_true rfl) fun w12 st12 x12 => ?_)
 have st12 : Ow (Nw w) [] w w12 [(b,o),(b22,.row (ndC zNd zSl)),(b20,.row (ndC n { s with snap := v1,log := v3,votes := v5,next := v7,mtch := v9,seen := v11 }))] := st12
 refine onM_s (v := s.reads) (st12.ld 2 rfl rfl) (copy_of (r := rG) st12.mem (st12.arg hm h.reads) rfl (by decide) (by omega) (by decide) fun v13 w13 f13 h13 => ?_)
 obtain ⟨st13,x13⟩ := st12.call f13
 have ht13 : okCell v13 = true := (h13.rd (A' := fun _ => True) (fun _ _ => trivial) Chk.flG).ok1
 refine gd_t ht13 (st13.put 2 rfl (Nat.le_of_ble_eq_true rfl) fun w14 st14 x14 => ?_)
 have st14 : Ow (Nw w) [] w w14 [(b,o),(b22,.row (ndC zNd zSl)),(b20,.row (ndC n ⟨v1,v3,v5,v7,v9,v11,v13⟩))] := st14
 refine ⟨_,_,_,_,_,_,_,_,_,_,_,_,_,_,_,_,_,_,_,st14.ldN 2 rfl rfl rfl,gd_t (by simp only [List.all_cons,ht1,ht3,ht5,ht7,ht9,ht11,ht13]; rfl) (st14.put 1 rfl (Nat.le_of_ble_eq_true rfl) fun w15 st15 x15 => ⟨_,_,_,_,_,_,_,_,_,_,_,_,_,_,_,_,_,_,_,st15.ldN 1 rfl rfl rfl,?_⟩)⟩
 have x1115 : Xt (ids ((b,o) :: [(b22,.row (ndC zNd zSl)),(b20,.row [])])) w11 (ids ((b,o) :: [(b22,.row (ndC zNd zSl)),(b20,.row [])])) w15 := Xt.trans x12 (Xt.trans x13 (Xt.trans x14 x15))
 have x1315 : Xt (ids ((b,o) :: [(b22,.row (ndC zNd zSl)),(b20,.row [])])) w13 (ids ((b,o) :: [(b22,.row (ndC zNd zSl)),(b20,.row [])])) w15 := Xt.trans x14 x15
 have x1015 := x11.trans x1115
 have x915 := Xt.trans x10 x1015
 have x815 := Xt.trans x9 x915
 have x715 := Xt.trans x8 x815
 have x615 := Xt.trans x7 x715
 have x515 := Xt.trans x6 x615
 have x415 := Xt.trans x5 x515
 have x315 := Xt.trans x4 x415
 have x215 := Xt.trans x3 x315
 have x115 := Xt.trans x2 x215
 have q1 := r1.x x115
 have q3 := r3.x x315
 have q5 := r5.x x515
 have q7 := r7.x x715
 have q9 := r9.x x915
 have hz : 0 < w12.size := st12.P0.pos
 have ga13 : Ga rG (fz (Nw w) (ids ((b,o) :: [(b22,.row (ndC zNd zSl)),(b20,.row [])]))) w12 w13 v13 n.reads := h13.ga (fun c hc => st12.P.new c hc) hz Chk.flG
 have ga15 := Ga.x' ga13 x1315 st13
 have ga : Ga rG (fz (Nw w) (ids ((b,o) :: [(b22,.row (ndC zNd zSl)),(b20,.row [])]))) w w15 v13 n.reads := ga15.xa st12.fr.size fun _ h => h
 have q13 := ga.rd (by decide)
 have hseen : (rL rI).rd (Nw w) w15 [v11] n.seen := by
  rcases hcase with ⟨rfl,rfl⟩ | ⟨_,_,hr⟩
  ·have hb : Box w15 b _ := (st15.box _ List.mem_cons_self rfl).1
   exact Box.sl hb ((st15.box _ List.mem_cons_self rfl).2.1.resolve_right (by simp)) rfl (Chk.ints.2 rfl) (Nat.le_refl _) (by simp [okEx,rI])
  ·exact (hr.x x1115).out
 refine hK ⟨v1,v3,v5,v7,v9,v11,v13⟩ w15 st15.fr ⟨q1.out,q3.out,q5.out,q7.out,q9.out,hseen,q13.out⟩ fun hse => ?_
 rcases hcase with ⟨rfl,rfl⟩ | ⟨h0,_⟩
 ·have hsub : ∀ {α : Type} {r : Rp α} {cs : List AV} {x : α},r.rd (fz (Nw w) [b,b22,b20]) w15 cs x → r.rd (fz (Nw w) [b]) w15 cs x := fun h => h.xa ⟨fun c f _ a a' d => ⟨⟨a.1,fun hx => a.2 (by simp at hx ⊢; exact .inl hx)⟩,⟨a'.1,fun hx => a'.2 (by simp at hx ⊢; exact .inl hx)⟩,d⟩⟩
  have hb : Box w15 b _ := (st15.box _ List.mem_cons_self rfl).1
  exact ⟨b,(st15.box _ List.mem_cons_self rfl).2.1.resolve_right (by simp),hb,rfl,hsub q1,hsub q3,hsub q5,hsub q7,hsub q9,ga.xa (Nat.le_refl _) fun c hc => ⟨hc.1,fun hx => hc.2 (by simp at hx; subst hx; exact List.mem_cons_self)⟩⟩
 ·omega
end
end Go.Proofs.YtghoifolghelnaaGreat
