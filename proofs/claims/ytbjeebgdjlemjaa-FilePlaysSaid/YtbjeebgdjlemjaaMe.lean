/-
 The document's disk: names and files,over memory.
 No condition beyond those that each theorem names.
-/
import Derived.Test.YtbjeebgdjlemjaaMd
import Derived.Test.YtbjeebgdjlemjaaMc
import Derived.Test.YtbjeebgdjlemjaaMa
set_option linter.unusedSimpArgs false
open Go.Sx
set_option linter.unusedVariables false
set_option linter.unusedSimpArgs false
namespace Go.Proofs.Ytbjeebgdjlemjaa
theorem nget_cons {x : Byts × Int} {r : List (Byts × Int)} {s : Byts} : nget (x :: r) s = if x.1 = s then some x.2 else nget r s := by
 unfold nget
 rw [List.find?_cons]
 by_cases h : x.1 = s <;> simp [h]
theorem rsec_cons {x : Int × List Byts} {r : List (Int × List Byts)} {f : Int} : rsec (x :: r) f = if x.1 = f then x.2 else rsec r f := by
 unfold rsec
 rw [List.find?_cons]
 by_cases h : x.1 = f <;> simp [h]
theorem filter_take {α : Type} {l : List α} {p : α → Bool} {i : Nat} (h : i < l.length) : (l.take (i + 1)).filter p = (l.take i).filter p ++ (if p l[i] = true then [l[i]] else []) := by
 rw [List.take_add_one,List.filter_append,List.getElem?_eq_getElem h]
 cases e : p l[i] <;> simp [e]
section
variable {hk : Hook} {A B : Nat → Prop} {I : List Nat} {w0 w w' : AW} {L L' : Obs} {K : AV → AW → Prop} {a b : AV} {s : RSt}
theorem ret2 (st : Ow A I w0 w L) (i : Nat) {c : Nat} {cs : List AV} {x y : AV} (hi : nth L i = some (c,.row cs)) (hl : cs.length = 2) {K : AV → AV → AW → Prop} (hK : ∀ w',Ow A I w0 w' (stN L i (c,.row [x,y])) → Xt (ids L) w (ids L) w' → K x y w') : onM (AW.putCells w c 0 [x,y]) fun w' => ∃ r1 r2 : AV,ldN 2 w' c 0 = some (.agg [r1,r2]) ∧ K r1 r2 w' :=
 st.put i (o := 0) (vs := [x,y]) hi (by rw [hl]; simp) fun w' st' x' => by
  rw [listPut_all (by rw [hl]; rfl)] at st'
  exact ⟨_,_,st'.ldN i (nth_set_eq hi) rfl rfl,hK w' st' x'⟩
theorem ok2 {x y : AV} (hx : okCell x = true) (hy : okCell y = true) : [x,y].all okCell = true := by simp only [List.all_cons,hx,hy]; rfl
theorem s78 {name : Byts} (hh : HK hk) (pv : Pv A w) (ha : (rL rNm).rd A w [a] s.names) (hb : okCell b = true) (hn : s.names.length < 2 ^ 20) (hK : ∀ w', Fr w.size w w' → K (.int .i64 (s.find name)) w') : Cl Try.prog hk 78 [.agg [a, b], .str name] w K := by
  refine in78 (hh.no _ _ _ (by decide) (by decide)) ?_
  unfold F78
  refine gd_t (ok2 ha.ok1 hb) (pv.st.new' fun b3 w4 st4 x4 => ?_)
  have ha4 := st4.arg pv.mem ha
  refine loopP_ind (fun m lv w7 => ∃ i : Nat, w4 = w7 ∧ i ≤ s.names.length ∧ m = s.names.length - i ∧ lv = [.int .i64 i] ∧ nget s.names name = nget (s.names.drop i) name) ?_ ⟨0, rfl, Nat.zero_le _, rfl, rfl, rfl⟩
  rintro m lv w7 ⟨i, rfl, hi, rfl, rfl, he⟩ R ih
  refine ⟨_, rfl, fun _ => onM_s (v := a) (st4.ld 0 rfl rfl) ⟨_, ha4.len', ifT_d (fun hc => ?_) fun hc => ?_⟩⟩
  · have hil : i < s.names.length := by omega
    rw [List.drop_eq_getElem_cons hil, nget_cons] at he
    refine onM_s (v := a) (st4.ld 0 rfl rfl) (nm_at ha4 hil fun c o h0 h1 _ => ⟨_, h0, ?_⟩)
    cases e : (s.names[i].1 == name) with
    | true =>
      have e := eq_of_beq e
      rw [if_pos e] at he
      refine ifT_t (onM_s (v := a) (st4.ld 0 rfl rfl) (nm_at ha4 hil fun c o h0 h1 _ => ⟨_, h1, ?_⟩))
      have : s.find name = s.names[i].2 := by unfold RSt.find; rw [he]; rfl
      rw [← this]; exact hK w4 st4.fr
    | false =>
      have e : ¬ s.names[i].1 = name := fun h => by rw [h] at e; simp at e
      rw [if_neg e] at he
      exact ifT_f (ih (s.names.length - (i + 1)) (by omega) _ _ ⟨i + 1, rfl, hil, rfl, by rw [wi_eq (by omega) (by omega)]; rfl, he⟩)
  · rw [List.drop_eq_nil_of_le (by omega)] at he
    have : s.find name = 0 := by unfold RSt.find; rw [he]; rfl
    rw [← this]; exact hK w4 st4.fr
theorem s80 {f : Int} (hh : HK hk) (pv : Pv A w) (ha : okCell a = true) (hb : (rL rFl).rd A w [b] s.files) (hn : s.files.length < 2 ^ 20) (hK : ∀ v w',Fr w.size w w' → (rL (rL rU)).rd A w' [v] (rsec s.files f) → K v w') : Cl Try.prog hk 80 [.agg [a,b],.int .i64 f] w K := by
 refine in80 (hh.no _ _ _ (by decide) (by decide)) ?_
 unfold F80
 refine gd_t (ok2 ha hb.ok1) (pv.st.new' fun b3 w4 st4 x4 => ?_)
 have hb4 := st4.arg pv.mem hb
 refine loopP_ind (fun m lv w7 => ∃ i : Nat,w4 = w7 ∧ i ≤ s.files.length ∧ m = s.files.length - i ∧ lv = [.int .i64 i] ∧ rsec s.files f = rsec (s.files.drop i) f) ?_ ⟨0,rfl,Nat.zero_le _,rfl,rfl,rfl⟩
 rintro m lv w7 ⟨i,rfl,hi,rfl,rfl,he⟩ R ih
 refine ⟨_,rfl,fun _ => onM_s (v := b) (st4.ld 0 rfl rfl) ⟨_,hb4.len',ifT_d (fun hc => ?_) fun hc => ?_⟩⟩
 ·have hil : i < s.files.length := by omega
  rw [List.drop_eq_getElem_cons hil,rsec_cons] at he
  refine onM_s (v := b) (st4.ld 0 rfl rfl) (fl_at hb4 hil fun c o u hu h0 h1 _ => ⟨_,h0,ifT_d (fun e => ?_) fun e => ?_⟩)
  ·rw [if_pos e] at he
   refine onM_s (v := b) (st4.ld 0 rfl rfl) (fl_at hb4 hil fun c o u hu h0 h1 _ => onM_s h1 ?_)
   rw [← he] at hu
   exact hK u w4 st4.fr hu.out
  ·rw [if_neg e] at he
   exact ih (s.files.length - (i + 1)) (by omega) _ _ ⟨i + 1,rfl,hil,rfl,by rw [wi_eq (by omega) (by omega)]; rfl,he⟩
 ·rw [List.drop_eq_nil_of_le (by omega)] at he
  have := hK .nilslice w4 st4.fr
  rw [he] at this
  exact this Rp.rd.nil
theorem s84 {name : Byts} (hh : HK hk) (pv : Pv A w) (ha : (rL rNm).rd A w [a] s.names) (hb : okCell b = true) (hn : s.names.length < 2 ^ 20) (hK : ∀ v w', Fr w.size w w' → Ga rNm A w w' v (rwo s.names name) → K (.agg [v, b]) w') : Cl Try.prog hk 84 [.agg [a, b], .str name] w K := by
  refine in84 (hh.no _ _ _ (by decide) (by decide)) ?_
  unfold F84
  refine gd_t (ok2 ha.ok1 hb) (pv.st.new' fun b3 w4 st4 x4 => st4.new' fun b5 w6 st6 x6 => ?_)
  refine loopP_ind (fun m lv w9 => ∃ (i : Nat) (v : AV), i ≤ s.names.length ∧ m = s.names.length - i ∧ lv = [v, .int .i64 i] ∧ Ow A [] w w9 [(b5, .row [.nilslice, .nilslice]), (b3, .row [a, b])] ∧ Ga rNm (fz A [b5, b3]) w w9 v (rwo (s.names.take i) name)) ?_ ⟨0, .nilslice, Nat.zero_le _, rfl, rfl, st6, Ga.nil⟩
  rintro m lv w9 ⟨i, v, hi, rfl, rfl, st9, hg⟩ R ih
  have ha9 := st9.arg pv.mem ha
  refine ⟨_, _, rfl, fun _ => onM_s (v := a) (st9.ld 1 rfl rfl) ⟨_, ha9.len', ifT_d (fun hc => ?_) fun hc => ?_⟩⟩
  · have hil : i < s.names.length := by omega
    have hf := filter_take (p := fun x => decide (x.1 ≠ name)) hil
    have hle : (rwo (s.names.take i) name).length ≤ i := by
      have := List.length_filter_le (fun x : Byts × Int => decide (x.1 ≠ name)) (s.names.take i)
      rw [List.length_take] at this
      show (List.filter _ _).length ≤ _; omega
    refine onM_s (v := a) (st9.ld 1 rfl rfl) (nm_at ha9 hil fun c o h0 h1 _ => ⟨_, h0, ?_⟩)
    cases e : (s.names[i].1 == name) with
    | false =>
      have e : s.names[i].1 ≠ name := fun h => by rw [h] at e; simp at e
      rw [if_pos (decide_eq_true e)] at hf
      refine ifT_t (onM_s (v := a) (st9.ld 1 rfl rfl) (nm_at ha9 hil fun c o h0 h1 hn => ⟨_, _, hn, st9.new' fun b23 w24 st24 x24 => ?_⟩))
      obtain ⟨st25, x25, hA, hbx⟩ := st24.drop
      refine st25.app (l' := [s.names[i]]) (Ga.x (x24.trans x25) st9 hg) (Box.rd1 hbx hA rfl) (by decide) st25.new (by simp; omega) (by simp; omega) fun v' w' st' x' hg' => ih (s.names.length - (i + 1)) (by omega) _ _ ⟨i + 1, v', hil, rfl, by rw [wi_eq (by omega) (by omega)]; rfl, st', ?_⟩
      unfold rwo; rw [hf]; exact hg'
    | true =>
      have e : s.names[i].1 = name := eq_of_beq e
      rw [if_neg (by simp [e])] at hf
      refine ifT_f (ih (s.names.length - (i + 1)) (by omega) _ _ ⟨i + 1, v, hil, rfl, by rw [wi_eq (by omega) (by omega)]; rfl, st9, ?_⟩)
      unfold rwo; rw [hf, List.append_nil]; exact hg
  · rw [show s.names.take i = s.names from List.take_of_length_le (by omega)] at hg
    have hv := hg.rd (by decide)
    refine gd_t hv.ok1 (st9.put 1 rfl (Nat.le_of_ble_eq_true rfl) fun w27 st27 x27 => ⟨_, _, st27.ldN 1 rfl rfl rfl, gd_t (ok2 hv.ok1 hb) (ret2 st27 0 rfl rfl fun w30 st30 x30 => ?_)⟩)
    exact hK v w30 st30.fr (Ga.x x30 st27 (Ga.x x27 st9 hg)).out
theorem s85 {f : Int} {l : List Byts} {sv : AV} (hh : HK hk) (pv : Pv A w) (ha : okCell a = true) (hb : (rL rFl).rd A w [b] s.files) (hl : (rL (rL rU)).rd A w [sv] l) (hn : s.files.length < 2 ^ 20) (hK : ∀ v w',Fr w.size w w' → (rL rFl).rd A w' [v] (rwith s.files f l) → K (.agg [a,v]) w') : Cl Try.prog hk 85 [.agg [a,b],.int .i64 f,sv] w K := by
 refine in85 (hh.no _ _ _ (by decide) (by decide)) ?_
 unfold F85
 refine gd_t (ok2 ha hb.ok1) (pv.st.new' fun b3 w4 st4 x4 => st4.new' fun b5 w6 st6 x6 => ?_)
 refine loopP_ind (fun m lv w9 => ∃ (i : Nat) (v : AV),i ≤ s.files.length ∧ m = s.files.length - i ∧ lv = [v,.int .i64 i] ∧ Ow A [] w w9 [(b5,.row [.nilslice,.nilslice]),(b3,.row [a,b])] ∧ Ga rFl (fz A [b5,b3]) w w9 v ((s.files.take i).filter fun x => decide (x.1 ≠ f))) ?_ ⟨0,.nilslice,Nat.zero_le _,rfl,rfl,st6,Ga.nil⟩
 rintro m lv w9 ⟨i,v,hi,rfl,rfl,st9,hg⟩ R ih
 have hb9 := st9.arg pv.mem hb
 have hle : ((s.files.take i).filter fun x => decide (x.1 ≠ f)).length ≤ i := by
  have := List.length_filter_le (fun x : Int × List Byts => decide (x.1 ≠ f)) (s.files.take i)
  rw [List.length_take] at this
  omega
 refine ⟨_,_,rfl,fun _ => onM_s (v := b) (st9.ld 1 rfl rfl) ⟨_,hb9.len',ifT_d (fun hc => ?_) fun hc => ?_⟩⟩
 ·have hil : i < s.files.length := by omega
  have hf := filter_take (p := fun x => decide (x.1 ≠ f)) hil
  refine onM_s (v := b) (st9.ld 1 rfl rfl) (fl_at hb9 hil fun c o u hu h0 h1 _ => ⟨_,h0,ifT_nd (fun e => ?_) fun e => ?_⟩)
  ·rw [if_pos (decide_eq_true e)] at hf
   refine onM_s (v := b) (st9.ld 1 rfl rfl) (fl_at hb9 hil fun c o u hu h0 h1 hn => ⟨_,_,hn,gd_t (ok2 rfl hu.ok1) (st9.new' fun b23 w24 st24 x24 => ?_)⟩)
   obtain ⟨st25,x25,hA,hbx⟩ := st24.drop
   refine st25.app (l' := [s.files[i]]) (Ga.x (x24.trans x25) st9 hg) (Box.rd1 hbx hA ⟨u,rfl,hu.x (x24.trans x25)⟩) (by decide) st25.new (by simp only [List.length_singleton]; omega) (by simp only [List.length_singleton]; omega) fun v' w' st' x' hg' => ih (s.files.length - (i + 1)) (by omega) _ _ ⟨i + 1,v',hil,rfl,by rw [wi_eq (by omega) (by omega)]; rfl,st',?_⟩
   rw [hf]; exact hg'
  ·rw [if_neg (by simp [e])] at hf
   refine ih (s.files.length - (i + 1)) (by omega) _ _ ⟨i + 1,v,hil,rfl,by rw [wi_eq (by omega) (by omega)]; rfl,st9,?_⟩
   rw [hf,List.append_nil]; exact hg
 ·rw [show s.files.take i = s.files from List.take_of_length_le (by omega)] at hg hle
  have hl9 := st9.arg pv.mem hl
  refine gd_t hl9.ok1 (gd_t (ok2 rfl hl9.ok1) (st9.new' fun b28 w29 st29 x29 => ?_))
  obtain ⟨st30,x30,hA,hbx⟩ := st29.drop
  refine st30.app (l' := [(f,l)]) (Ga.x (x29.trans x30) st9 hg) (Box.rd1 hbx hA ⟨sv,rfl,hl9.x (x29.trans x30)⟩) (by decide) st30.new (by simp only [List.length_singleton]; omega) (by simp only [List.length_singleton]; omega) fun v' w' st' x' hg' => ?_
  have hv := hg'.rd (by decide)
  refine gd_t hv.ok1 (st'.put 1 rfl (Nat.le_of_ble_eq_true rfl) fun w27 st27 x27 => ⟨_,_,st27.ldN 1 rfl rfl rfl,gd_t (ok2 ha hv.ok1) (ret2 st27 0 rfl rfl fun w30 st30 x30 => ?_)⟩)
  exact hK v' w30 st30.fr (hv.x (Xt.trans x27 x30)).out
end
end Go.Proofs.Ytbjeebgdjlemjaa
/-
 The document's disk: steps carried out; the disk as it stands,over memory.
 No condition beyond those that each theorem names.
-/
set_option linter.unusedSimpArgs false
open Go.Sx
set_option linter.unusedVariables false
set_option linter.unusedSimpArgs false
namespace Go.Proofs.Ytbjeebgdjlemjaa
structure RBd (B : Nat) (s : RSt) : Prop where
 nm : s.names.length ≤ B
 fl : s.files.length ≤ B
 sc : ∀ f,(rsec s.files f).length ≤ 4096
theorem rwo_le (ns : List (Byts × Int)) (t : Byts) : (rwo ns t).length ≤ ns.length := List.length_filter_le _ _
theorem rwith_le (fs : List (Int × List Byts)) (f : Int) (l : List Byts) : (rwith fs f l).length ≤ fs.length + 1 := by
 unfold rwith
 rw [List.length_append,List.length_singleton]
 have := List.length_filter_le (fun x : Int × List Byts => decide (x.1 ≠ f)) fs
 omega
theorem RBd.does {B : Nat} {s : RSt} {x : Stp} (h : RBd B s) (hx : x.V) : RBd (B + 1) (s.does x) := by
 obtain ⟨h1,h2,h3⟩ := h
 obtain ⟨_,hx1,_,hx2⟩ := hx
 have w1 : ∀ {ns : List (Byts × Int)} {p},ns.length ≤ B → (ns ++ [p]).length ≤ B + 1 := fun h => by rw [List.length_append,List.length_singleton]; omega
 have w2 : ∀ l,(rwith s.files x.file l).length ≤ B + 1 := fun l => by have := rwith_le s.files x.file l; omega
 have w3 : ∀ l : List Byts,l.length ≤ 4096 → ∀ f,(rsec (rwith s.files x.file l) f).length ≤ 4096 := fun l hl f => by
  rw [rsec_rwith]; unfold updF; split
  ·exact hl
  ·exact h3 f
 have q1 := rwo_le s.names x.name
 have q2 := rwo_le (rwo s.names x.name) x.to
 unfold RSt.does
 split
 ·exact ⟨w1 (by omega),by simp only []; omega,h3⟩
 ·split
  ·rename_i e
   refine ⟨by simp only []; omega,w2 _,w3 _ ?_⟩
   have := hx2 e
   have := h3 x.file
   unfold putS
   rw [List.length_set,List.length_append,List.length_replicate]; omega
  ·split
   ·refine ⟨by simp only []; omega,w2 _,w3 _ ?_⟩
    have := h3 x.file
    rw [List.length_take]; omega
   ·split
    ·split
     ·exact ⟨w1 (by omega),by simp only []; omega,h3⟩
     ·exact ⟨by omega,by omega,h3⟩
    ·split
     ·exact ⟨by simp only []; omega,by simp only []; omega,h3⟩
     ·exact ⟨by omega,by omega,h3⟩
section
variable {hk : Hook} {A B : Nat → Prop} {I : List Nat} {w0 w w' : AW} {L L' : Obs} {K : AV → AW → Prop} {a b c : AV} {s : RSt} {x : Stp} {dv : AV} {dd : Byts} {r : RDk}
theorem rep_rep (n : Nat) (z : AV) : repl n [z] = List.replicate n z := by
 induction n with
 | zero => rfl
 | succ n ih => show [z] ++ repl n [z] = _; rw [ih]; rfl
theorem rep64 : repl 64 [AV.int .u8 0] = cellsOfBytes zsec := (rep_rep 64 _).trans z64_eq
theorem s67 {n : Nat} (hh : HK hk) (pv : Pv A w) (ha : (rL rNm).rd A w [a] s.names) (hb : (rL rFl).rd A w [b] s.files) (hd : (rL rU).rd A w [dv] dd) (hdd : x.what = 1 → dd = x.data) (hw : 0 ≤ x.what ∧ x.what ≤ 4) (hv : x.V) (bd : RBd n s) (hn : n < 2 ^ 19)
  (hK : ∀ a' b' w',Fr w.size w w' → (rL rNm).rd A w' [a'] (s.does x).names → (rL rFl).rd A w' [b'] (s.does x).files → K (.agg [a',b']) w') : Cl Try.prog hk 67 [.agg [a,b],.agg (xC x dv)] w K := by
 refine in67 (hh.no _ _ _ (by decide) (by decide)) ?_
 unfold F67
 obtain ⟨b1,b2,b3⟩ := bd
 obtain ⟨_,v1,v2,v3⟩ := hv
 have hsl := b3 x.file
 have okx : (xC x dv).all okCell = true := by simp only [xC,List.all_cons,hd.ok1]; rfl
 refine gd_t (ok2 ha.ok1 hb.ok1) (pv.st.new' fun b8 w9 st9 x9 => gd_t okx (st9.new' fun b10 w11 st11 x11 => st11.new' fun b12 w13 st13 x13 => ?_))
 have st13 : Ow A [] w w13 [(b12,.row [.nilslice,.nilslice]),(b10,.row (xC x dv)),(b8,.row [a,b])] := st13
 have fin : ∀ {w' : AW} {a' b' : AV},Ow A [] w w' [(b12,.row [.nilslice,.nilslice]),(b10,.row (xC x dv)),(b8,.row [a',b'])] → (rL rNm).rd (fz A [b12,b10,b8]) w' [a'] (s.does x).names → (rL rFl).rd (fz A [b12,b10,b8]) w' [b'] (s.does x).files →
   ∃ y1 y2 : AV,ldN 2 w' b8 0 = some (.agg [y1,y2]) ∧ gd ([y1,y2].all okCell) (onM (AW.putCells w' b12 0 [y1,y2]) fun w40 => ∃ r1 r2 : AV,ldN 2 w40 b12 0 = some (.agg [r1,r2]) ∧ K (.agg [r1,r2]) w40) := fun st' ha' hb' =>
  ⟨_,_,st'.ldN 2 rfl rfl rfl,gd_t (ok2 ha'.ok1 hb'.ok1) (ret2 st' 0 rfl rfl fun w40 st40 x40 => hK _ _ w40 st40.fr (ha'.x x40).out (hb'.x x40).out)⟩
 refine ⟨_,_,st13.ldN 2 rfl rfl rfl,x.file,st13.ld 1 rfl rfl,?_⟩
 refine s80 hh st13.P ha.ok1 (st13.arg pv.mem hb) (by omega) fun v17 w18 f18 hv18 => ?_
 obtain ⟨st18,x18⟩ := st13.call f18
 obtain ⟨new,hrs,hchk⟩ := hv18.rs
 refine st18.room.accApp 0 rfl Sv.nil (by decide) hrs (by simp; omega) (by simp; omega) fun l19 f19 o19 w20 st20 x20 hs20 => ?_
 have st20 : Ow A [] w w20 ((f19,o19) :: [(b12,.row [.nilslice,.nilslice]),(b10,.row (xC x dv)),(b8,.row [a,b])]) := st20
 have x20 : Xt [b12,b10,b8] w18 (ids ((f19,o19) :: [(b12,.row [.nilslice,.nilslice]),(b10,.row (xC x dv)),(b8,.row [a,b])])) w20 := x20
 rw [List.nil_append] at hs20
 have hc20 : Chk (rL rU) (fz A (ids ((f19,o19) :: [(b12,.row [.nilslice,.nilslice]),(b10,.row (xC x dv)),(b8,.row [a,b])]))) w20 new (rsec s.files x.file) := hchk.xa x20.xw.xa
 obtain ⟨st21,x21⟩ := st20.forget
 refine ⟨_,st21.ld 1 rfl rfl,?_⟩
 have hnmL := rwo_le s.names x.name
 have hnmL2 := rwo_le (rwo s.names x.name) x.to
 refine ifT_d (fun e => ?_) fun e1 => ifT_d (fun e => ?_) fun e2 => ifT_d (fun e => ?_) fun e3 => ifT_d (fun e => ?_) fun e4 => ifT_d (fun e => ?_) fun e5 => ?_
 ·-- made
  have e0 : x.what = 0 := by omega
  have es : s.does x = ⟨rwo s.names x.name ++ [(x.name,x.file)],s.files⟩ := by unfold RSt.does; rw [if_pos e0]
  rw [es] at fin
  refine ⟨_,_,st21.ldN 2 rfl rfl rfl,_,st21.ld 1 rfl rfl,s84 hh st21.P (st21.arg pv.mem ha) hb.ok1 (by omega) fun v25 w26 f26 hg26 => ⟨_,_,rfl,?_⟩⟩
  obtain ⟨st26,x26⟩ := st21.call f26
  have hg : Ga rNm (fz A [b12,b10,b8]) w w26 v25 (rwo s.names x.name) := hg26.xa st21.size fun _ h => h
  have hv25 := hg.rd (by decide)
  refine gd_t (ok2 hv25.ok1 hb.ok1) (st26.put 2 rfl (Nat.le_of_ble_eq_true rfl) fun w29 st29 x29 => onM_s (v := v25) (st29.ld 2 rfl rfl) ⟨_,st29.ld 1 rfl rfl,_,st29.ld 1 rfl rfl,st29.new' fun b33 w34 st34 x34 => ?_⟩)
  obtain ⟨st35,x35,hA,hbx⟩ := st34.drop
  refine st35.app (l' := [(x.name,x.file)]) (Ga.x (x34.trans x35) st29 (Ga.x x29 st26 hg)) (Box.rd1 hbx hA rfl) (by decide) st35.new (by simp only [List.length_singleton]; omega) (by simp only [List.length_singleton]; omega) fun v' w' st' x' hg' => ?_
  have hv' := hg'.rd (by decide)
  refine gd_t hv'.ok1 (st'.put 2 rfl (Nat.le_of_ble_eq_true rfl) fun w37 st37 x37 => ?_)
  exact fin st37 (hv'.x x37) (st37.arg pv.mem hb)
 ·-- put
  have e0 : x.what = 1 := by omega
  have es : s.does x = ⟨s.names,rwith s.files x.file (putS (rsec s.files x.file) x.n.toNat x.data)⟩ := by unfold RSt.does; rw [if_neg (by omega),if_pos e0]
  rw [es] at fin
  have hdx := hdd e0
  subst hdx
  have hn4 := v3 e0
  obtain ⟨m,hm⟩ := Int.eq_ofNat_of_zero_le v1
  have hz : zsec.length = 64 := by simp [zsec]
  refine loopP_ind (fun i lv w45 => ∃ (j : Nat) (v : AV) (f : Nat) (o : Ob) (cs : List AV),j ≤ m + 1 - (rsec s.files x.file).length ∧ i = m + 1 - (rsec s.files x.file).length - j ∧ lv = [v] ∧ Ow A [] w w45 ((f,o) :: [(b12,.row [.nilslice,.nilslice]),(b10,.row (xC x dv)),(b8,.row [a,b])]) ∧ Sv 1 o v cs ∧
   Chk (rL rU) (fz A (ids ((f,o) :: [(b12,.row [.nilslice,.nilslice]),(b10,.row (xC x dv)),(b8,.row [a,b])]))) w45 cs (rsec s.files x.file ++ List.replicate j zsec)) ?_ ⟨0,l19,f19,o19,new,Nat.zero_le _,rfl,rfl,st20,hs20,by rw [List.replicate_zero,List.append_nil]; exact hc20⟩
  rintro i lv w45 ⟨j,v,f,o,cs,hj,rfl,rfl,st45,hs45,hc45⟩ R ih
  have hlen : (rsec s.files x.file ++ List.replicate j zsec).length = (rsec s.files x.file).length + j := by simp
  have hcl := hc45.len
  have hcl1 : cs.length = ((rsec s.files x.file).length + j) * 1 := by rw [hcl,hlen]; rfl
  have hrs45 := st45.sv (i := 0) rfl hs45 (by decide) hcl1
  refine ⟨v,rfl,fun _ => ⟨_,hrs45.len,x.n,st45.ld 2 rfl rfl,ifT_d (fun hc => ?_) fun hc => ?_⟩⟩
  ·refine gd_t rfl (st45.new' fun b49 w50 st50 x50 => ?_)
   obtain ⟨st51,x51,hA49,hb49⟩ := st50.drop
   have hrp : repl 64 [AV.int .u8 0] = cellsOfBytes zsec := rep64
   have hb49 : Box w50 b49 (cellsOfBytes zsec) := by rw [← hrp]; exact hb49
   have hz49 : (rL rU).rd (fz A (ids ((f,o) :: [(b12,.row [.nilslice,.nilslice]),(b10,.row (xC x dv)),(b8,.row [a,b])]))) w50 [.slice b49 0 64 64 none] zsec := Box.sl hb49 hA49 hz.symm (Chk.bytes.2 rfl)
   refine st51.new' fun b51 w52 st52 x52 => ?_
   obtain ⟨st53,x53,hA51,hb51⟩ := st52.drop
   have xx := (x50.trans x51).trans (x52.trans x53)
   have hlj : cs.length < 2 ^ 20 := by omega
   refine st53.accApp 0 rfl hs45 (by decide) (Box.rs hb51 rfl) (by rw [Nat.div_one]; omega) (by rw [Nat.div_one]; omega) fun v' f' o' w54 st54 x54 hs54 => ih (m + 1 - (rsec s.files x.file).length - (j + 1)) (by omega) _ _ ⟨j + 1,v',f',o',_,by omega,rfl,rfl,st54,hs54,?_⟩
   have h1 := (hc45.xa xx.xw.xa).xa x54.xw.xa
   have h2 := Chk.one ((hz49.x (x52.trans x53)).x x54)
   rw [show List.replicate (j + 1) zsec = List.replicate j zsec ++ [zsec] from List.replicate_succ',← List.append_assoc]
   exact h1.app h2
  ·have hjm : j = m + 1 - (rsec s.files x.file).length := by omega
   refine ⟨x.n,st45.ld 2 rfl rfl,onM_s (v := dv) (st45.ld 2 rfl rfl) ?_⟩
   rcases hs45 with ⟨_,hnil⟩ | ⟨bb,nn,ex,rfl,rfl,h2,h3⟩
   ·subst hnil; simp at hcl1; omega
   rw [hm]
   have hd45 := st45.arg pv.mem hd
   refine st45.accPut (r := rL rU) (fun c hc => pv.new c hc) (by decide) h2 h3 hc45 (k := m) (by rw [hlen]; omega) hd45 fun hput => gd_t hd45.ok1 (hput _ fun w59 st59 hrd => ?_)
   refine ⟨_,_,st59.ldN 2 rfl rfl rfl,x.file,st59.ld 1 rfl rfl,s85 hh st59.P ha.ok1 (st59.arg pv.mem hb) hrd (by omega) fun v63 w64 f64 hv64 => ⟨_,_,rfl,?_⟩⟩
   obtain ⟨st64,x64⟩ := st59.call f64
   refine gd_t (ok2 ha.ok1 hv64.ok1) (st64.put 2 rfl (Nat.le_of_ble_eq_true rfl) fun w67 st67 x67 => ?_)
   refine fin st67 (st67.arg pv.mem ha) ?_
   have : putS (rsec s.files x.file) x.n.toNat x.data = (rsec s.files x.file ++ List.replicate j zsec).set m x.data := by unfold putS; rw [hjm,hm]; rfl
   rw [this]
   exact hv64.x x67
 ·-- cut
  have e0 : x.what = 2 := by omega
  have es : s.does x = ⟨s.names,rwith s.files x.file ((rsec s.files x.file).take x.n.toNat)⟩ := by unfold RSt.does; rw [if_neg (by omega),if_neg (by omega),if_pos e0]
  rw [es] at fin
  obtain ⟨m,hm⟩ := Int.eq_ofNat_of_zero_le v1
  obtain ⟨_,_,hl⟩ := st20.accRd (r := rL rU) hs20 (by decide) (fun c hc => pv.new c hc) hc20
  refine ⟨_,_,st21.ldN 2 rfl rfl rfl,_,st21.ld 1 rfl rfl,_,hl.len',x.n,st21.ld 1 rfl rfl,?_⟩
  obtain ⟨v',hs',hr'⟩ := hl.cut (i := 0) (j := min (rsec s.files x.file).length m) (Nat.zero_le _) (Nat.min_le_left _ _) (.inr ⟨rfl,rfl⟩) (.inl rfl)
  have ei : imin ((rsec s.files x.file).length : Int) x.n = ((min (rsec s.files x.file).length m : Nat) : Int) := by rw [hm]; unfold imin; split <;> omega
  rw [ei]
  refine onM_s hs' (s85 hh st21.P ha.ok1 (st21.arg pv.mem hb) hr' (by omega) fun v63 w64 f64 hv64 => ⟨_,_,rfl,?_⟩)
  obtain ⟨st64,x64⟩ := st21.call f64
  refine gd_t (ok2 ha.ok1 hv64.ok1) (st64.put 2 rfl (Nat.le_of_ble_eq_true rfl) fun w67 st67 x67 => ?_)
  refine fin st67 (st67.arg pv.mem ha) ?_
  have : (rsec s.files x.file).take x.n.toNat = ((rsec s.files x.file).take (min (rsec s.files x.file).length m)).drop 0 := by
   rw [List.drop_zero,hm,Int.toNat_natCast,Nat.min_comm,← List.take_eq_take_min]
  rw [this]
  exact hv64.x x67
 ·-- renamed
  have e0 : x.what = 3 := by omega
  refine ⟨_,_,st21.ldN 2 rfl rfl rfl,_,st21.ld 1 rfl rfl,x.file,st21.ld 1 rfl rfl,s78 hh st21.P (st21.arg pv.mem ha) hb.ok1 (by omega) fun w94 f94 => ⟨_,rfl,?_⟩⟩
  obtain ⟨st94,x94⟩ := st21.call f94
  refine ⟨st94.ld 1 rfl rfl,ifT_d (fun ef => ?_) fun ef => ?_⟩
  ·have es : s.does x = ⟨rwo (rwo s.names x.name) x.to ++ [(x.to,x.file)],s.files⟩ := by unfold RSt.does; rw [if_neg (by omega),if_neg (by omega),if_neg (by omega),if_pos e0,if_pos ef]
   rw [es] at fin
   refine ⟨_,_,st94.ldN 2 rfl rfl rfl,_,st94.ld 1 rfl rfl,x.to,st94.ld 1 rfl rfl,s84 hh st94.P (st94.arg pv.mem ha) hb.ok1 (by omega) fun v100 w101 f101 hg101 => ⟨_,_,rfl,?_⟩⟩
   obtain ⟨st101,x101⟩ := st94.call f101
   refine ⟨st101.ld 1 rfl rfl,s84 (s := ⟨rwo s.names x.name,s.files⟩) hh st101.P (hg101.rd (by decide)) hb.ok1 (by simp only []; omega) fun v104 w105 f105 hg105 => ⟨_,_,rfl,?_⟩⟩
   obtain ⟨st105,x105⟩ := st101.call f105
   have hg : Ga rNm (fz A [b12,b10,b8]) w w105 v104 (rwo (rwo s.names x.name) x.to) := hg105.xa st101.size fun _ h => h
   have hv104 := hg.rd (by decide)
   refine gd_t (ok2 hv104.ok1 hb.ok1) (st105.put 2 rfl (Nat.le_of_ble_eq_true rfl) fun w29 st29 x29 => onM_s (v := v104) (st29.ld 2 rfl rfl) ⟨_,st29.ld 1 rfl rfl,_,st29.ld 1 rfl rfl,st29.new' fun b33 w34 st34 x34 => ?_⟩)
   obtain ⟨st35,x35,hA,hbx⟩ := st34.drop
   refine st35.app (l' := [(x.to,x.file)]) (Ga.x (x34.trans x35) st29 (Ga.x x29 st105 hg)) (Box.rd1 hbx hA rfl) (by decide) st35.new (by simp only [List.length_singleton]; omega) (by simp only [List.length_singleton]; omega) fun v' w' st' x' hg' => ?_
   have hv' := hg'.rd (by decide)
   refine gd_t hv'.ok1 (st'.put 2 rfl (Nat.le_of_ble_eq_true rfl) fun w37 st37 x37 => ?_)
   exact fin st37 (hv'.x x37) (st37.arg pv.mem hb)
  ·have es : s.does x = s := by unfold RSt.does; rw [if_neg (by omega),if_neg (by omega),if_neg (by omega),if_pos e0,if_neg ef]
   rw [es] at fin
   exact fin st94 (st94.arg pv.mem ha) (st94.arg pv.mem hb)
 ·-- removed
  have e0 : x.what = 4 := by omega
  refine ⟨_,_,st21.ldN 2 rfl rfl rfl,_,st21.ld 1 rfl rfl,x.file,st21.ld 1 rfl rfl,s78 hh st21.P (st21.arg pv.mem ha) hb.ok1 (by omega) fun w94 f94 => ⟨_,rfl,?_⟩⟩
  obtain ⟨st94,x94⟩ := st21.call f94
  refine ⟨st94.ld 1 rfl rfl,ifT_d (fun ef => ?_) fun ef => ?_⟩
  ·have es : s.does x = ⟨rwo s.names x.name,s.files⟩ := by unfold RSt.does; rw [if_neg (by omega),if_neg (by omega),if_neg (by omega),if_neg (by omega),if_pos ef]
   rw [es] at fin
   refine ⟨_,_,st94.ldN 2 rfl rfl rfl,_,st94.ld 1 rfl rfl,s84 hh st94.P (st94.arg pv.mem ha) hb.ok1 (by omega) fun v100 w101 f101 hg101 => ⟨_,_,rfl,?_⟩⟩
   obtain ⟨st101,x101⟩ := st94.call f101
   have hv := hg101.rd (by decide)
   refine gd_t (ok2 hv.ok1 hb.ok1) (st101.put 2 rfl (Nat.le_of_ble_eq_true rfl) fun w37 st37 x37 => ?_)
   exact fin st37 (hv.x x37) (st37.arg pv.mem hb)
  ·have es : s.does x = s := by unfold RSt.does; rw [if_neg (by omega),if_neg (by omega),if_neg (by omega),if_neg (by omega),if_neg ef]
   rw [es] at fin
   exact fin st94 (st94.arg pv.mem ha) (st94.arg pv.mem hb)
 ·omega
end
end Go.Proofs.Ytbjeebgdjlemjaa
/-
 The document's disk: as it stands; an operation; steps more; what is settled,over memory.
 No condition beyond those that each theorem names.
-/
set_option linter.unusedSimpArgs false
open Go.Sx
set_option linter.unusedVariables false
set_option linter.unusedSimpArgs false
namespace Go.Proofs.Ytbjeebgdjlemjaa
theorem ifT_b {b : Bool} {X Y : Prop} (h1 : b = true → X) (h2 : b = false → Y) : ifT b X Y := by
 cases b with
 | true => exact h1 rfl
 | false => exact h2 rfl
theorem RBd.fold {s : RSt} : ∀ {l : List Stp} {n : Nat}, RBd n s → (∀ x ∈ l, x.V) → RBd (n + l.length) (l.foldl RSt.does s)
  | [], n, h, _ => h
  | x :: l, n, h, hl => by
    have := RBd.fold (l := l) (h.does (hl x List.mem_cons_self)) fun y hy => hl y (List.mem_cons_of_mem _ hy)
    rw [show n + 1 + l.length = n + (x :: l).length by simp; omega] at this
    exact this
structure DR (A : Nat → Prop) (w : AW) (a b c : AV) (r : RDk) : Prop where
 nm : (rL rNm).rd A w [a] r.safe.names
 fl : (rL rFl).rd A w [b] r.safe.files
 st : (rL rXs).rd A w [c] r.steps
structure DB (n : Nat) (r : RDk) : Prop where
 bd : RBd n r.safe
 ok : ∀ x ∈ r.steps,Gd x ∧ x.V
 ln : n + r.steps.length < 2 ^ 18
section
variable {hk : Hook} {A B : Nat → Prop} {I : List Nat} {w0 w w' : AW} {L L' : Obs} {K : AV → AW → Prop} {a b c v : AV} {r : RDk} {U U' : List Nat}
theorem DR.xa (h : DR A w a b c r) (e : Xa A w B w') : DR B w' a b c r := ⟨h.nm.xa e,h.fl.xa e,h.st.xa e⟩
theorem DR.x (h : DR (fz A U) w a b c r) (e : Xt U w U' w') : DR (fz A U') w' a b c r := h.xa e.xw.xa
theorem DR.out (h : DR (fz A U) w a b c r) : DR A w a b c r := ⟨h.nm.out,h.fl.out,h.st.out⟩
theorem DR.arg (h : DR B w0 a b c r) (hm : Mem w0) (st : Ow A [] w0 w L) : DR (fz B (ids L)) w a b c r := ⟨st.arg hm h.nm,st.arg hm h.fl,st.arg hm h.st⟩
theorem okR (h1 : okCell a = true) (h2 : okCell b = true) (h3 : okCell c = true) : (rC r a b c).all okCell = true := by
 simp only [rC,List.all_cons,h1,h2,h3]; rfl
theorem DR.ok (h : DR A w a b c r) : (rC r a b c).all okCell = true := okR h.nm.ok1 h.fl.ok1 h.st.ok1
theorem retV (st : Ow A I w0 w L) (j : Nat) {bd : Nat} {cs : List AV} (hj : nth L j = some (bd,.row cs)) (hl : cs.length = 8) (hok : (rC r a b c).all okCell = true) {e : AV} (hK : ∀ w',Ow A I w0 w' (stN L j (bd,.row (rC r a b c))) → Xt (ids L) w (ids L) w' → K (.tup [.agg (rC r a b c),e]) w') :
  gd ((rC r a b c).all okCell) (onM (AW.putCells w bd 0 (rC r a b c)) fun w' => ∃ r0 r1 r2 : AV,∃ r3 : Int,∃ r4 : Bool,∃ r5 r6 r7 : Int,ldN 8 w' bd 0 = some (.agg [r0,r1,r2,.int .i64 r3,.bool r4,.int .i64 r5,.int .i64 r6,.int .i64 r7]) ∧ K (.tup [.agg [r0,r1,r2,.int .i64 r3,.bool r4,.int .i64 r5,.int .i64 r6,.int .i64 r7],e]) w') :=
 gd_t hok (st.put j (o := 0) (vs := rC r a b c) hj (by rw [hl]; simp [rC]) fun w' st' x' => by
  rw [listPut_all (by rw [hl]; rfl)] at st'
  exact ⟨_,_,_,_,_,_,_,_,st'.ldN j (nth_set_eq hj) rfl rfl,hK w' st' x'⟩)
theorem retT (st : Ow A I w0 w L) (i : Nat) {bs : Nat} (hi : nth L i = some (bs,.row (rC r a b c))) (j : Nat) {bd : Nat} {cs : List AV} (hj : nth L j = some (bd,.row cs)) (hl : cs.length = 8) (hok : (rC r a b c).all okCell = true) {e : AV} (hK : ∀ w',Ow A I w0 w' (stN L j (bd,.row (rC r a b c))) → Xt (ids L) w (ids L) w' → K (.tup [.agg (rC r a b c),e]) w') :
  ∃ x0 x1 x2 : AV,∃ x3 : Int,∃ x4 : Bool,∃ x5 x6 x7 : Int,ldN 8 w bs 0 = some (.agg [x0,x1,x2,.int .i64 x3,.bool x4,.int .i64 x5,.int .i64 x6,.int .i64 x7]) ∧
  gd ([x0,x1,x2,.int .i64 x3,.bool x4,.int .i64 x5,.int .i64 x6,.int .i64 x7].all okCell) (onM (AW.putCells w bd 0 [x0,x1,x2,.int .i64 x3,.bool x4,.int .i64 x5,.int .i64 x6,.int .i64 x7]) fun w' => ∃ r0 r1 r2 : AV,∃ r3 : Int,∃ r4 : Bool,∃ r5 r6 r7 : Int,ldN 8 w' bd 0 = some (.agg [r0,r1,r2,.int .i64 r3,.bool r4,.int .i64 r5,.int .i64 r6,.int .i64 r7]) ∧ K (.tup [.agg [r0,r1,r2,.int .i64 r3,.bool r4,.int .i64 r5,.int .i64 r6,.int .i64 r7],e]) w') :=
 ⟨_,_,_,_,_,_,_,_,st.ldN i hi rfl rfl,retV st j hj hl hok hK⟩
theorem s79 {s : Byts} (hh : HK hk) (hK : K (.bool (named s)) w) : Cl Try.prog hk 79 [.str s] w K := by
 refine in79 (hh.no _ _ _ (by decide) (by decide)) ?_
 unfold F79
 have e : Int.ofNat s.length = ((s.length : Nat) : Int) := rfl
 rw [e]
 refine ifT_d (fun h => ?_) fun h => ?_
 ·have : named s = decide (((s.length : Nat) : Int) ≤ 64) := by
   unfold named
   rw [decide_eq_decide]; omega
  rw [← this]; exact hK
 ·have : named s = false := by
   unfold named
   rw [decide_eq_false_iff_not]; omega
  rw [← this]; exact hK
theorem s81 {d : Byts} {dv : AV} (hh : HK hk) (pv : Pv A w) (hd : RsB w dv d) (hl : d.length < 2 ^ 20) (hK : ∀ v w',Fr w.size w w' → (rL rU).rd A w' [v] d → K v w') : Cl Try.prog hk 81 [dv] w K := by
 refine in81 (hh.no _ _ _ (by decide) (by decide)) ?_
 unfold F81
 refine pv.st.appSrc (r := rU) (l' := d) Ga.nil (Rs.src hd) (Chk.bytes.2 rfl) (by decide) pv.new (by simp; omega) (by simp; omega) fun v' w' st' x' hg => ?_
 exact hK v' w' st'.fr (hg.rd (by decide)).out
theorem s77 {n : Nat} (hh : HK hk) (pv : Pv A w) (h : DR A w a b c r) (hb : DB n r) (hK : ∀ a' b' w',Fr w.size w w' → (rL rNm).rd A w' [a'] r.now.names → (rL rFl).rd A w' [b'] r.now.files → K (.agg [a',b']) w') : Cl Try.prog hk 77 [.agg (rC r a b c)] w K := by
 refine in77 (hh.no _ _ _ (by decide) (by decide)) ?_
 unfold F77
 obtain ⟨hb1,hb2,hb3⟩ := hb
 refine gd_t h.ok (pv.st.new' fun b8 w9 st9 x9 => st9.new' fun b10 w11 st11 x11 => ⟨_,_,st11.ldN 1 rfl rfl rfl,st11.new' fun b14 w15 st15 x15 => gd_t (ok2 h.nm.ok1 h.fl.ok1) (st15.put 0 rfl (Nat.le_of_ble_eq_true rfl) fun w16 st16 x16 => ?_)⟩)
 have st16 : Ow A [] w w16 [(b14,.row [a,b]),(b10,.row [.nilslice,.nilslice]),(b8,.row (rC r a b c))] := st16
 refine loopP_ind (fun m lv w19 => ∃ (i : Nat) (a' b' : AV),i ≤ r.steps.length ∧ m = r.steps.length - i ∧ lv = [.int .i64 i] ∧ Ow A [] w w19 [(b14,.row [a',b']),(b10,.row [.nilslice,.nilslice]),(b8,.row (rC r a b c))] ∧
  (rL rNm).rd (fz A [b14,b10,b8]) w19 [a'] ((r.steps.take i).foldl RSt.does r.safe).names ∧ (rL rFl).rd (fz A [b14,b10,b8]) w19 [b'] ((r.steps.take i).foldl RSt.does r.safe).files) ?_ ⟨0,a,b,Nat.zero_le _,rfl,rfl,st16,(h.arg pv.mem st16).nm,(h.arg pv.mem st16).fl⟩
 rintro m lv w19 ⟨i,a',b',hi,rfl,rfl,st19,ha,hbf⟩ R ih
 have hs := st19.arg pv.mem h.st
 refine ⟨_,rfl,fun _ => onM_s (v := c) (st19.ld 2 rfl rfl) ⟨_,hs.len',ifT_d (fun hc => ?_) fun hc => ?_⟩⟩
 ·have hil : i < r.steps.length := by omega
  refine ⟨_,_,st19.ldN 0 rfl rfl rfl,onM_s (v := c) (st19.ld 2 rfl rfl) (xs_at hs hil fun bb oo u d hu hd hf hn => ⟨_,_,_,_,_,_,hn,?_⟩)⟩
  obtain ⟨g1,g2⟩ := hb2 _ (List.getElem_mem hil)
  have hbd := RBd.fold (l := r.steps.take i) hb1 fun y hy => (hb2 y (List.mem_of_mem_take hy)).2
  rw [List.length_take] at hbd
  refine s67 (x := r.steps[i]) hh st19.P ha hbf hu hd ⟨g1.2.1,g1.2.2.1⟩ g2 hbd (by omega) fun a2 b2 w35 f35 ha2 hb2' => ⟨_,_,rfl,?_⟩
  obtain ⟨st35,x35⟩ := st19.call f35
  have et : (r.steps.take (i + 1)).foldl RSt.does r.safe = ((r.steps.take i).foldl RSt.does r.safe).does r.steps[i] := by
   rw [List.take_add_one,List.getElem?_eq_getElem hil,List.foldl_append]; rfl
  refine gd_t (ok2 ha2.ok1 hb2'.ok1) (st35.put 0 rfl (Nat.le_of_ble_eq_true rfl) fun w38 st38 x38 => ih (r.steps.length - (i + 1)) (by omega) _ _ ⟨i + 1,a2,b2,hil,rfl,by rw [wi_eq (by omega) (by omega)]; rfl,st38,?_,?_⟩)
  ·rw [et]; exact ha2.x x38
  ·rw [et]; exact hb2'.x x38
 ·rw [List.take_of_length_le (by omega)] at ha hbf
  exact ⟨_,_,st19.ldN 0 rfl rfl rfl,gd_t (ok2 ha.ok1 hbf.ok1) (ret2 st19 1 rfl rfl fun w41 st41 x41 => hK _ _ w41 st41.fr (ha.x x41).out (hbf.x x41).out)⟩
theorem s91 (hh : HK hk) (pv : Pv A w) (h1 : okCell a = true) (h2 : okCell b = true) (h3 : okCell c = true) (hK : ∀ w',Fr w.size w w' → K (.tup [.agg (rC r.op.1 a b c),.int .i64 r.op.2]) w') : Cl Try.prog hk 91 [.agg (rC r a b c)] w K := by
 refine in91 (hh.no _ _ _ (by decide) (by decide)) ?_
 unfold F91
 refine gd_t (okR h1 h2 h3) (pv.st.new' fun b8 w9 st9 x9 => st9.new' fun b10 w11 st11 x11 => ⟨r.down,st11.ld 1 rfl rfl,ifT_b (fun hd => ?_) fun hd => ?_⟩)
 ·have e : r.op = (r,6) := by unfold RDk.op; rw [if_pos hd]
  rw [e] at hK
  exact retT (r := r) st11 1 rfl 0 rfl rfl (okR h1 h2 h3) fun w' st' x' => hK w' st'.fr
 have st11 : Ow A [] w w11 [(b10,.row [.nilslice,.nilslice,.nilslice,.int .i64 0,.bool false,.int .i64 0,.int .i64 0,.int .i64 0]),(b8,.row (rC r a b c))] := st11
 have en : ∀ {n : Int},¬ 0 ≤ n → down1 n = n := fun h => by unfold down1; rw [if_neg h]
 have ep : ∀ {n : Int},0 ≤ n → wi (n - 1) = down1 n := fun h => by unfold down1; rw [if_pos h]; rfl
 refine ⟨r.arm,st11.ld 1 rfl rfl,r.fault,st11.ld 1 rfl rfl,?_⟩
 refine join_of (fun l w' => l = [] ∧ Ow A [] w w' [(b10,.row [.nilslice,.nilslice,.nilslice,.int .i64 0,.bool false,.int .i64 0,.int .i64 0,.int .i64 0]),(b8,.row (rC { r with arm := down1 r.arm } a b c))]) ?_ fun J hJ => ?_
 ·rintro l w33 ⟨rfl,st33⟩
  refine ⟨rfl,fun _ => ?_⟩
  refine join_of (fun l w' => l = [] ∧ Ow A [] w w' [(b10,.row [.nilslice,.nilslice,.nilslice,.int .i64 0,.bool false,.int .i64 0,.int .i64 0,.int .i64 0]),(b8,.row (rC { r with arm := down1 r.arm,fault := down1 r.fault } a b c))]) ?_ fun J hJ => ?_
  ·rintro l w36 ⟨rfl,st36⟩
   refine ⟨rfl,fun _ => ifT_d (fun h0 => ?_) fun h0 => ifT_d (fun hf => ?_) fun hf => ?_⟩
   ·have e : r.op = ({ r with arm := down1 r.arm,fault := down1 r.fault,down := true },6) := by unfold RDk.op; rw [if_neg (by rw [hd]; decide),if_pos h0]
    rw [e] at hK
    exact st36.put 1 rfl (Nat.le_of_ble_eq_true rfl) fun w38 st38 x38 => retT (r := { r with arm := down1 r.arm,fault := down1 r.fault,down := true }) st38 1 rfl 0 rfl rfl (okR h1 h2 h3) fun w' st' x' => hK w' st'.fr
   ·have e : r.op = ({ r with arm := down1 r.arm,fault := down1 r.fault },r.wth) := by unfold RDk.op; rw [if_neg (by rw [hd]; decide),if_neg h0,if_pos hf]
    rw [e] at hK
    refine ⟨_,_,_,_,_,_,_,_,st36.ldN 1 rfl rfl rfl,r.wth,st36.ld 1 rfl rfl,gd_t (okR (r := { r with arm := down1 r.arm,fault := down1 r.fault }) h1 h2 h3) (st36.put 0 rfl (Nat.le_of_ble_eq_true rfl) fun w65 st65 x65 => ⟨st65.ld 1 rfl rfl,_,_,_,_,_,_,_,_,st65.ldN 0 rfl rfl rfl,hK w65 st65.fr⟩)⟩
   ·have e : r.op = ({ r with arm := down1 r.arm,fault := down1 r.fault },0) := by unfold RDk.op; rw [if_neg (by rw [hd]; decide),if_neg h0,if_neg hf]
    rw [e] at hK
    exact retT (r := { r with arm := down1 r.arm,fault := down1 r.fault }) st36 1 rfl 0 rfl rfl (okR h1 h2 h3) fun w' st' x' => hK w' st'.fr
  ·refine ⟨r.fault,st33.ld 1 rfl rfl,ifT_d (fun hp => ⟨r.fault,st33.ld 1 rfl rfl,?_⟩) fun hp => hJ _ _ ⟨rfl,by rw [en hp]; exact st33⟩⟩
   rw [ep hp]
   exact st33.put 1 rfl (Nat.le_of_ble_eq_true rfl) fun w93 st93 x93 => hJ _ _ ⟨rfl,st93⟩
 ·refine ⟨r.arm,st11.ld 1 rfl rfl,ifT_d (fun hp => ⟨r.arm,st11.ld 1 rfl rfl,?_⟩) fun hp => hJ _ _ ⟨rfl,by rw [en hp]; exact st11⟩⟩
  rw [ep hp]
  exact st11.put 1 rfl (Nat.le_of_ble_eq_true rfl) fun w93 st93 x93 => hJ _ _ ⟨rfl,st93⟩
theorem s82 {l : List Stp} {lv : AV} (hh : HK hk) (pv : Pv A w) (h : DR A w a b c r) (hl : (rL rXs).rd A w [lv] l) (hn : r.steps.length + l.length < 2 ^ 20) (hK : ∀ c' w',Fr w.size w w' → DR A w' a b c' (r.more l).1 → K (.tup [.agg (rC (r.more l).1 a b c'),.int .i64 (r.more l).2]) w') : Cl Try.prog hk 82 [.agg (rC r a b c),lv] w K := by
 refine in82 (hh.no _ _ _ (by decide) (by decide)) ?_
 unfold F82
 have o1 := h.nm.ok1
 have o2 := h.fl.ok1
 have o3 := h.st.ok1
 obtain ⟨es1,es2,es3⟩ := op_same r
 refine gd_t h.ok (pv.st.new' fun b9 w10 st10 x10 => st10.new' fun b11 w12 st12 x12 => ⟨_,_,_,_,_,_,_,_,st12.ldN 1 rfl rfl rfl,?_⟩)
 refine s91 (r := r) hh st12.P o1 o2 o3 fun w22 f22 => ⟨_,_,_,_,_,_,_,_,_,rfl,?_⟩
 obtain ⟨st22,x22⟩ := st12.call f22
 refine st22.new' fun b32 w33 st33 x33 => gd_t (okR (r := r.op.1) o1 o2 o3) (st33.put 0 rfl (Nat.le_of_ble_eq_true rfl) fun w34 st34 x34 => ?_)
 have st34 : Ow A [] w w34 [(b32,.row (rC r.op.1 a b c)),(b11,.row [.nilslice,.nilslice,.nilslice,.int .i64 0,.bool false,.int .i64 0,.int .i64 0,.int .i64 0]),(b9,.row (rC r a b c))] := st34
 have h34 := h.arg pv.mem st34
 refine ifT_nd (fun he => ?_) fun he => ?_
 ·have e : r.more l = r.op := by unfold RDk.more; rw [if_pos he]
  rw [e] at hK
  refine retT (r := r.op.1) st34 0 rfl 1 rfl rfl (okR o1 o2 o3) fun w' st' x' => hK c w' st'.fr ?_
  have h' := (h34.x x').out
  exact ⟨by rw [es2]; exact h'.nm,by rw [es2]; exact h'.fl,by rw [es1]; exact h'.st⟩
 ·have e : r.more l = ({ r.op.1 with steps := r.steps ++ l },0) := by unfold RDk.more; rw [if_neg (not_not_intro he)]
  rw [e] at hK
  refine onM_s (v := c) (st34.ld 2 rfl rfl) (st34.app (r := rXs) (l' := r.steps) Ga.nil h34.st (by decide) st34.new (by simp; omega) (by simp; omega) fun v1 w54 st54 x54 hg1 => ?_)
  rw [List.nil_append] at hg1
  refine st54.app (l' := l) hg1 (st54.arg pv.mem hl) (by decide) st54.new (by omega) (by omega) fun v2 w56 st56 x56 hg2 => ?_
  have hv := hg2.rd (by decide)
  refine gd_t hv.ok1 (st56.put 0 rfl (Nat.le_of_ble_eq_true rfl) fun w57 st57 x57 => ?_)
  refine retT (r := { r.op.1 with steps := r.steps ++ l }) (c := v2) st57 0 rfl 1 rfl rfl (okR o1 o2 hv.ok1) fun w' st' x' => hK v2 w' st'.fr ?_
  have h' := h.arg pv.mem st'
  exact ⟨by show (rL rNm).rd A w' [a] r.op.1.safe.names; rw [es2]; exact h'.nm.out,by show (rL rFl).rd A w' [b] r.op.1.safe.files; rw [es2]; exact h'.fl.out,((hv.x x57).x x').out⟩
end
end Go.Proofs.Ytbjeebgdjlemjaa
/-
 The document's disk: what is settled,over memory.
 No condition beyond those that each theorem names.
-/
set_option linter.unusedSimpArgs false
open Go.Sx
set_option linter.unusedVariables false
set_option linter.unusedSimpArgs false
namespace Go.Proofs.Ytbjeebgdjlemjaa
section
variable {hk : Hook} {A B : Nat → Prop} {I : List Nat} {w0 w w' : AW} {L L' : Obs} {K : AV → AW → Prop} {a b c v : AV} {r : RDk} {U U' : List Nat}
abbrev z8 : List AV := [.nilslice,.nilslice,.nilslice,.int .i64 0,.bool false,.int .i64 0,.int .i64 0,.int .i64 0]
set_option maxRecDepth 20000 in
theorem s83 {n : Nat} {f : Int} (hh : HK hk) (pv : Pv A w) (h : DR A w a b c r) (hb : DB n r) (hK : ∀ a' b' c' w', Fr w.size w w' → DR A w' a' b' c' (r.settled f).1 → K (.tup [.agg (rC (r.settled f).1 a' b' c'), .int .i64 (r.settled f).2]) w') : Cl Try.prog hk 83 [.agg (rC r a b c), .int .i64 f] w K := by
  refine in83 (hh.no _ _ _ (by decide) (by decide)) ?_
  unfold F83
  have o1 := h.nm.ok1
  have o2 := h.fl.ok1
  have o3 := h.st.ok1
  obtain ⟨es1, es2, es3⟩ := op_same r
  obtain ⟨hb1, hb2, hb3⟩ := hb
  refine gd_t h.ok (pv.st.new' fun b9 w10 st10 x10 => st10.new' fun b11 w12 st12 x12 => ⟨_, _, _, _, _, _, _, _, st12.ldN 1 rfl rfl rfl, ?_⟩)
  refine s91 (r := r) hh st12.P o1 o2 o3 fun w22 f22 => ⟨_, _, _, _, _, _, _, _, _, rfl, ?_⟩
  obtain ⟨st22, x22⟩ := st12.call f22
  refine st22.new' fun b32 w33 st33 x33 => gd_t (okR (r := r.op.1) o1 o2 o3) (st33.put 0 rfl (Nat.le_of_ble_eq_true rfl) fun w34 st34 x34 => ?_)
  have st34 : Ow A [] w w34 [(b32, .row (rC r.op.1 a b c)), (b11, .row z8), (b9, .row (rC r a b c))] := st34
  have h34 := h.arg pv.mem st34
  refine ifT_nd (fun he => ?_) fun he => ?_
  · have e : r.settled f = r.op := by unfold RDk.settled; rw [if_pos he]
    rw [e] at hK
    refine retT (r := r.op.1) st34 0 rfl 1 rfl rfl (okR o1 o2 o3) fun w' st' x' => hK a b c w' st'.fr ?_
    have h' := (h34.x x').out
    exact ⟨by rw [es2]; exact h'.nm, by rw [es2]; exact h'.fl, by rw [es1]; exact h'.st⟩
  refine loopP_ind (fun m lv w54 => ∃ (i : Nat) (u : Int), w34 = w54 ∧ i ≤ r.steps.length ∧ m = r.steps.length - i ∧ lv = [.int .i64 u, .int .i64 i] ∧ uptoR f 0 r.steps (-1) = uptoR f i (r.steps.drop i) u) ?_ ⟨0, -1, rfl, Nat.zero_le _, rfl, rfl, rfl⟩
  rintro m lv w54 ⟨i, u, rfl, hi, rfl, rfl, hu⟩ R ih
  refine ⟨_, _, rfl, fun _ => onM_s (v := c) (st34.ld 2 rfl rfl) ⟨_, h34.st.len', ifT_d (fun hc => ?_) fun hc => ?_⟩⟩
  · have hil : i < r.steps.length := by omega
    have hd : r.steps.drop i = r.steps[i] :: r.steps.drop (i + 1) := List.drop_eq_getElem_cons hil
    rw [hd, uptoR] at hu
    refine ifT_d (fun hf => ?_) fun hf => ?_
    · rw [if_pos (.inl hf)] at hu
      exact ih (r.steps.length - (i + 1)) (by omega) _ _ ⟨i + 1, _, rfl, hil, rfl, by rw [wi_eq (by omega) (by omega)]; rfl, hu⟩
    · refine onM_s (v := c) (st34.ld 2 rfl rfl) (xs_at h34.st hil fun bb oo uu d hud hd hff hn => ⟨_, hff 0 (by decide), ifT_d (fun hw => ?_) fun hw => ?_⟩)
      · refine onM_s (v := c) (st34.ld 2 rfl rfl) (xs_at h34.st hil fun bb oo uu d hud hd hff hn => ⟨_, hff 1 (by decide), ifT_d (fun hfi => ?_) fun hfi => ?_⟩)
        · rw [if_pos (.inr ⟨by omega, hfi⟩)] at hu
          exact ih (r.steps.length - (i + 1)) (by omega) _ _ ⟨i + 1, _, rfl, hil, rfl, by rw [wi_eq (by omega) (by omega)]; rfl, hu⟩
        · rw [if_neg (by rintro (h | h); exact hf h; exact hfi h.2)] at hu
          exact ih (r.steps.length - (i + 1)) (by omega) _ _ ⟨i + 1, _, rfl, hil, rfl, by rw [wi_eq (by omega) (by omega)]; rfl, hu⟩
      · rw [if_neg (by rintro (h | h); exact hf h; exact hw (by omega))] at hu
        exact ih (r.steps.length - (i + 1)) (by omega) _ _ ⟨i + 1, _, rfl, hil, rfl, by rw [wi_eq (by omega) (by omega)]; rfl, hu⟩
  · clear ih
    have ei : i = r.steps.length := by omega
    subst ei
    rw [List.drop_length] at hu
    have hu : uptoR f 0 r.steps (-1) = u := hu
    have e : r.settled f = ({ r.op.1 with safe := (settR (soR f u) 0 r.steps r.safe).1, steps := (settR (soR f u) 0 r.steps r.safe).2 }, 0) := by
      unfold RDk.settled; rw [if_neg (not_not_intro he), hu, es2]
    rw [e] at hK
    refine loopP_ind (fun m lv w69 => ∃ (i : Nat) (lv' a' b' : AV) (s : RSt) (lf : List Stp), i ≤ r.steps.length ∧ m = r.steps.length - i ∧ lv = [lv', .int .i64 i] ∧ Ow A [] w w69 [(b32, .row (rC r.op.1 a' b' c)), (b11, .row z8), (b9, .row (rC r a b c))] ∧
      (rL rNm).rd (fz A [b32, b11, b9]) w69 [a'] s.names ∧ (rL rFl).rd (fz A [b32, b11, b9]) w69 [b'] s.files ∧ Ga rXs (fz A [b32, b11, b9]) w w69 lv' lf ∧ lf.length ≤ i ∧ RBd (n + i) s ∧
      (settR (soR f u) 0 r.steps r.safe).1 = (settR (soR f u) i (r.steps.drop i) s).1 ∧ (settR (soR f u) 0 r.steps r.safe).2 = lf ++ (settR (soR f u) i (r.steps.drop i) s).2) ?_
      ⟨0, .nilslice, a, b, r.safe, [], Nat.zero_le _, rfl, rfl, st34, h34.nm, h34.fl, Ga.nil, Nat.le_refl _, hb1, rfl, rfl⟩
    rintro m lv w69 ⟨i, lv', a', b', s, lf, hi, rfl, rfl, st69, ha, hbf, hg, hlf, hbd, hs1, hs2⟩ R ih
    have h69 := h.arg pv.mem st69
    refine ⟨_, _, rfl, fun _ => onM_s (v := c) (st69.ld 2 rfl rfl) ⟨_, h69.st.len', ifT_d (fun hc => ?_) fun hc => ?_⟩⟩
    · have hil : i < r.steps.length := by omega
      have hdd : r.steps.drop i = r.steps[i] :: r.steps.drop (i + 1) := List.drop_eq_getElem_cons hil
      rw [hdd, settR] at hs1 hs2
      obtain ⟨g1, g2⟩ := hb2 _ (List.getElem_mem hil)
      refine onM_s (v := c) (st69.ld 2 rfl rfl) (xs_at h69.st hil fun bb oo uu d hud hd hff hn => ⟨_, _, _, _, _, _, hn, ?_⟩)
      have okx : (xC r.steps[i] uu).all okCell = true := by simp only [xC, List.all_cons, hud.ok1]; rfl
      refine st69.new' fun b83 w84 st84 x84 => gd_t okx (st84.put 0 rfl (Nat.le_of_ble_eq_true rfl) fun w85 st85 x85 => ?_)
      have st85 : Ow A [] w w85 [(b83, .row (xC r.steps[i] uu)), (b32, .row (rC r.op.1 a' b' c)), (b11, .row z8), (b9, .row (rC r a b c))] := st85
      have x69 : Xt [b32, b11, b9] w69 [b83, b32, b11, b9] w85 := Xt.trans x84 x85
      refine join_of (fun l w' => ∃ t : Bool, l = [.bool t] ∧ w85 = w' ∧ (t = true ↔ r.steps[i].what = 1 ∨ r.steps[i].what = 2)) ?_ fun J hJ => ?_
      · rintro l w87 ⟨t, rfl, rfl, ht⟩
        refine ⟨_, rfl, fun _ => ?_⟩
        -- a step is carried out
        have hdo : soR f u i r.steps[i] = true → ∃ y1 y2 : AV, ldN 2 w85 b32 (0 + 0) = some (.agg [y1, y2]) ∧ ∃ z1 z2 z3 : Int, ∃ z4 : AV, ∃ z5 z6 : List UInt8, ldN 6 w85 b83 0 = some (.agg [.int .i64 z1, .int .i64 z2, .int .i64 z3, z4, .str z5, .str z6]) ∧
            Cl Try.prog hk 67 [.agg [y1, y2], .agg [.int .i64 z1, .int .i64 z2, .int .i64 z3, z4, .str z5, .str z6]] w85 fun r_99 w_100 => ∃ q1 q2 : AV, r_99 = .agg [q1, q2] ∧ gd ([q1, q2].all okCell) (onM (AW.putCells w_100 b32 (0 + 0) [q1, q2]) fun w_103 => R [lv', .int .i64 (wi ((i : Int) + 1))] w_103) := fun hso => by
          rw [if_pos hso] at hs1 hs2
          refine ⟨_, _, st85.ldN 1 rfl rfl rfl, _, _, _, _, _, _, st85.ldN 0 rfl rfl rfl, ?_⟩
          refine s67 (x := r.steps[i]) hh st85.P (ha.x x69) (hbf.x x69) (hud.x x69) hd ⟨g1.2.1, g1.2.2.1⟩ g2 hbd (by omega) fun a2 b2 w100 f100 ha2 hb2' => ⟨_, _, rfl, ?_⟩
          obtain ⟨st100, x100⟩ := st85.call f100
          refine gd_t (ok2 ha2.ok1 hb2'.ok1) (st100.put 1 rfl (Nat.le_of_ble_eq_true rfl) fun w103 st103 x103 => ?_)
          obtain ⟨st104, x104, _⟩ := st103.drop
          have xx : Xt [b83, b32, b11, b9] w100 [b32, b11, b9] w103 := Xt.trans x103 x104
          exact ih (r.steps.length - (i + 1)) (by omega) _ _ ⟨i + 1, lv', a2, b2, _, lf, hil, rfl, by rw [wi_eq (by omega) (by omega)]; rfl, st104, ha2.x xx, hb2'.x xx, Ga.x x104 st103 (Ga.x x103 st100 (Ga.x x100 st85 (Ga.x x69 st69 hg))), by omega, hbd.does g2, hs1, hs2⟩
        -- a step is left
        have hlv : soR f u i r.steps[i] = false → ∃ z1 z2 z3 : Int, ∃ z4 : AV, ∃ z5 z6 : List UInt8, ldN 6 w85 b83 0 = some (.agg [.int .i64 z1, .int .i64 z2, .int .i64 z3, z4, .str z5, .str z6]) ∧
            gd ([.int .i64 z1, .int .i64 z2, .int .i64 z3, z4, .str z5, .str z6].all okCell) (Sx.new w85 [.int .i64 z1, .int .i64 z2, .int .i64 z3, z4, .str z5, .str z6] fun b_123 w_124 => onE (appS 6 80 w_124 lv' (.slice b_123 0 1 1 none)) fun left_125 w_126 => R [left_125, .int .i64 (wi ((i : Int) + 1))] w_126) := fun hso => by
          rw [if_neg (by rw [hso]; decide)] at hs1 hs2
          refine ⟨_, _, _, _, _, _, st85.ldN 0 rfl rfl rfl, gd_t okx (st85.new' fun b123 w124 st124 x124 => ?_)⟩
          obtain ⟨st125, x125, hA, hbx⟩ := st124.drop
          refine st125.app (r := rXs) (l' := [r.steps[i]]) (Ga.x (Xt.trans x124 x125) st85 (Ga.x x69 st69 hg)) (Box.rd1 hbx hA ⟨uu, d, rfl, hud.x (x69.trans (Xt.trans x124 x125)), hd⟩) (by decide) st125.new (by simp only [List.length_singleton]; omega) (by simp only [List.length_singleton]; omega) fun v2 w126 st126 x126 hg2 => ?_
          obtain ⟨st127, x127, _⟩ := st126.drop
          have xx : Xw [b32, b11, b9] w69 [b32, b11, b9] w126 := ((x69.trans (Xt.trans x124 x125)).xw.trans x126).trans' x127
          exact ih (r.steps.length - (i + 1)) (by omega) _ _ ⟨i + 1, v2, a', b', s, lf ++ [r.steps[i]], hil, rfl, by rw [wi_eq (by omega) (by omega)]; rfl, st127, ha.y xx, hbf.y xx, Ga.x x127 st126 hg2, by rw [List.length_append, List.length_singleton]; omega, ⟨by have := hbd.nm; omega, by have := hbd.fl; omega, hbd.sc⟩, hs1, by rw [hs2, List.append_assoc]; rfl⟩
        cases t with
        | true =>
          have hwt := ht.1 rfl
          refine ifT_t ⟨_, st85.ld 0 rfl rfl, ifT_d (fun hfi => hdo ?_) fun hfi => ?_⟩
          · unfold soR; rw [if_pos hwt]; exact decide_eq_true hfi
          · exact ifT_f (hlv (by unfold soR; rw [if_pos hwt]; exact decide_eq_false hfi))
        | false =>
          have hwf : ¬ (r.steps[i].what = 1 ∨ r.steps[i].what = 2) := fun h => absurd (ht.2 h) (by decide)
          refine ifT_f (ifT_t (ifT_d (fun hiu => hdo ?_) fun hiu => hlv ?_))
          · unfold soR; rw [if_neg hwf]; exact decide_eq_true hiu
          · unfold soR; rw [if_neg hwf]; exact decide_eq_false hiu
      · refine ⟨_, st85.ld 0 rfl rfl, ifT_d (fun hw => hJ _ _ ⟨true, rfl, rfl, ?_⟩) fun hw => ⟨_, st85.ld 0 rfl rfl, hJ _ _ ⟨_, rfl, rfl, ?_⟩⟩⟩
        · exact ⟨fun _ => .inl (by omega), fun _ => rfl⟩
        · rw [decide_eq_true_eq]
          exact ⟨fun h => .inr (by omega), fun h => by omega⟩
    · have ei : i = r.steps.length := by omega
      subst ei
      rw [List.drop_length] at hs1 hs2
      have hs1 : (settR (soR f u) 0 r.steps r.safe).1 = s := hs1
      have hs2 : (settR (soR f u) 0 r.steps r.safe).2 = lf := by rw [hs2]; show lf ++ [] = lf; rw [List.append_nil]
      rw [hs1, hs2] at hK
      have hv := hg.rd (by decide)
      refine gd_t hv.ok1 (st69.put 0 rfl (Nat.le_of_ble_eq_true rfl) fun w172 st172 x172 => ?_)
      refine retT (r := { r.op.1 with safe := s, steps := lf }) (c := lv') st172 0 rfl 1 rfl rfl (okR ha.ok1 hbf.ok1 hv.ok1) fun w' st' x' => hK a' b' lv' w' st'.fr ?_
      have xx : Xt [b32, b11, b9] w69 [b32, b11, b9] w' := Xt.trans x172 x'
      exact ⟨(ha.x xx).out, (hbf.x xx).out, (hv.x xx).out⟩
end
end Go.Proofs.Ytbjeebgdjlemjaa
/-
 The document's disk: its calls,over memory.
 No condition beyond those that each theorem names.
-/
set_option linter.unusedSimpArgs false
open Go.Sx
set_option linter.unusedVariables false
set_option linter.unusedSimpArgs false
namespace Go.Proofs.Ytbjeebgdjlemjaa
theorem DB.now {n : Nat} {r : RDk} (h : DB n r) : RBd (n + r.steps.length) r.now := RBd.fold h.bd fun x hx => (h.ok x hx).2
def OR (A : Nat → Prop) (w : AW) (R : RDk × Int) (K : AV → AW → Prop) : Prop := ∀ a' b' c' w',Fr w.size w w' → DR A w' a' b' c' R.1 → K (.tup [.agg (rC R.1 a' b' c'),.int .i64 R.2]) w'
section
variable {hk : Hook} {A B : Nat → Prop} {I : List Nat} {w0 w w' : AW} {L L' : Obs} {K : AV → AW → Prop} {a b c v : AV} {r : RDk} {U U' : List Nat}
theorem DR.as {r' : RDk} (h : DR A w a b c r) (e1 : r'.safe = r.safe := by rfl) (e2 : r'.steps = r.steps := by rfl) : DR A w a b c r' := ⟨by rw [e1]; exact h.nm,by rw [e1]; exact h.fl,by rw [e2]; exact h.st⟩
theorem s35 (hh : HK hk) (pv : Pv A w) (hK : ∀ w',Fr w.size w w' → K (.agg (rC RDk.none .nilslice .nilslice .nilslice)) w') : Cl Try.prog hk 35 [] w K := by
 refine in35 (hh.no _ _ _ (by decide) (by decide)) ?_
 unfold F35
 refine pv.st.new' fun b0 w1 st1 x1 => st1.put 0 rfl (Nat.le_of_ble_eq_true rfl) fun w2 st2 x2 => ⟨_,_,_,_,_,_,_,_,st2.ldN 0 rfl rfl rfl,hK w2 st2.fr⟩
theorem s64 {n : Int} (hh : HK hk) (pv : Pv A w) (h : DR A w a b c r) (hK : OR A w (r.armed n) K) : Cl Try.prog hk 64 [.agg (rC r a b c),.int .i64 n] w K := by
 refine in64 (hh.no _ _ _ (by decide) (by decide)) ?_
 unfold F64
 refine gd_t h.ok (pv.st.new' fun b9 w10 st10 x10 => st10.new' fun b11 w12 st12 x12 => ifT_d (fun hn => ?_) fun hn => ?_)
 ·have e : r.armed n = (r,2) := by unfold RDk.armed; rw [if_pos hn]
  rw [e] at hK
  exact retT (r := r) st12 1 rfl 0 rfl rfl h.ok fun w' st' x' => hK a b c w' st'.fr (h.arg pv.mem st').out
 ·have e : r.armed n = ({ r with arm := n },0) := by unfold RDk.armed; rw [if_neg hn]
  rw [e] at hK
  exact st12.put 1 rfl (Nat.le_of_ble_eq_true rfl) fun w30 st30 x30 => retT (r := { r with arm := n }) st30 1 rfl 0 rfl rfl h.ok fun w' st' x' => hK a b c w' st'.fr (h.arg pv.mem st').out.as
theorem s65 {n e : Int} (hh : HK hk) (pv : Pv A w) (h : DR A w a b c r) (hK : OR A w (r.failing n e) K) : Cl Try.prog hk 65 [.agg (rC r a b c),.int .i64 n,.int .i64 e] w K := by
 refine in65 (hh.no _ _ _ (by decide) (by decide)) ?_
 unfold F65
 refine gd_t h.ok (pv.st.new' fun b10 w11 st11 x11 => st11.new' fun b12 w13 st13 x13 => ?_)
 refine join_of (fun l w' => l = [] ∧ w' = w13 ∧ ¬ (n < 0 ∨ (e ≠ 4 ∧ e ≠ 5))) ?_ fun J hJ => ?_
 ·rintro l w15 ⟨rfl,rfl,hn⟩
  have ee : r.failing n e = ({ r with fault := n,wth := e },0) := by unfold RDk.failing; rw [if_neg hn]
  rw [ee] at hK
  exact ⟨rfl,fun _ => st13.put 1 rfl (Nat.le_of_ble_eq_true rfl) fun w17 st17 x17 => st17.put 1 rfl (Nat.le_of_ble_eq_true rfl) fun w18 st18 x18 => retT (r := { r with fault := n,wth := e }) st18 1 rfl 0 rfl rfl h.ok fun w' st' x' => hK a b c w' st'.fr (h.arg pv.mem st').out.as⟩
 ·have no : (n < 0 ∨ (e ≠ 4 ∧ e ≠ 5)) → OR A w (r,2) K := fun hn => by
   have ee : r.failing n e = (r,2) := by unfold RDk.failing; rw [if_pos hn]
   rw [ee] at hK; exact hK
  refine ifT_d (fun hn => ?_) fun hn => ifT_nd (fun h4 => ifT_nd (fun h5 => ?_) fun h5 => hJ _ _ ⟨rfl,rfl,?_⟩) fun h4 => hJ _ _ ⟨rfl,rfl,?_⟩
  ·exact retT (r := r) st13 1 rfl 0 rfl rfl h.ok fun w' st' x' => no (.inl hn) a b c w' st'.fr (h.arg pv.mem st').out
  ·exact retT (r := r) st13 1 rfl 0 rfl rfl h.ok fun w' st' x' => no (.inr ⟨h4,h5⟩) a b c w' st'.fr (h.arg pv.mem st').out
  ·rintro (hx | hx); exact hn hx; exact hx.2 h5
  ·rintro (hx | hx); exact hn hx; exact hx.1 h4
theorem s61 {n : Nat} {s : Byts} (hh : HK hk) (pv : Pv A w) (h : DR A w a b c r) (hb : DB n r) (hK : OR A w (r.sync s) K) : Cl Try.prog hk 61 [.agg (rC r a b c),.str s] w K := by
 refine in61 (hh.no _ _ _ (by decide) (by decide)) ?_
 unfold F61
 have hnow := hb.now
 have hln := hb.ln
 refine gd_t h.ok (pv.st.new' fun b9 w10 st10 x10 => st10.new' fun b11 w12 st12 x12 => ⟨_,_,_,_,_,_,_,_,st12.ldN 1 rfl rfl rfl,?_⟩)
 refine s77 hh st12.P (h.arg pv.mem st12) hb fun a2 b2 w22 f22 ha2 hb2 => ⟨_,_,rfl,?_⟩
 obtain ⟨st22,x22⟩ := st12.call f22
 refine s78 (s := r.now) hh st22.P ha2 hb2.ok1 (by have := hnow.nm; omega) fun w26 f26 => ⟨_,rfl,?_⟩
 obtain ⟨st26,x26⟩ := st22.call f26
 refine ifT_d (fun hf => ?_) fun hf => ?_
 ·have e : r.sync s = (r,70) := by unfold RDk.sync; simp only [hf,if_true]
  rw [e] at hK
  exact retT (r := r) st26 1 rfl 0 rfl rfl h.ok fun w' st' x' => hK a b c w' st'.fr (h.arg pv.mem st').out
 ·have e : r.sync s = r.settled (r.now.find s) := by unfold RDk.sync; simp only [hf,if_false]
  rw [e] at hK
  refine ⟨_,_,_,_,_,_,_,_,st26.ldN 1 rfl rfl rfl,s83 hh st26.P (h.arg pv.mem st26) hb fun a3 b3 c3 w54 f54 hdr => ⟨_,_,_,_,_,_,_,_,_,rfl,?_⟩⟩
  obtain ⟨st54,x54⟩ := st26.call f54
  exact retV (r := (r.settled (r.now.find s)).1) st54 0 rfl rfl hdr.ok fun w' st' x' => hK a3 b3 c3 w' st'.fr (hdr.x x').out
theorem s62 {n : Nat} (hh : HK hk) (pv : Pv A w) (h : DR A w a b c r) (hb : DB n r) (hK : OR A w (r.settled 0) K) : Cl Try.prog hk 62 [.agg (rC r a b c)] w K := by
 refine in62 (hh.no _ _ _ (by decide) (by decide)) ?_
 unfold F62
 refine gd_t h.ok (pv.st.new' fun b8 w9 st9 x9 => st9.new' fun b10 w11 st11 x11 => ⟨_,_,_,_,_,_,_,_,st11.ldN 1 rfl rfl rfl,?_⟩)
 refine s83 hh st11.P (h.arg pv.mem st11) hb fun a3 b3 c3 w21 f21 hdr => ⟨_,_,_,_,_,_,_,_,_,rfl,?_⟩
 obtain ⟨st21,x21⟩ := st11.call f21
 exact retV (r := (r.settled 0).1) st21 0 rfl rfl hdr.ok fun w' st' x' => hK a3 b3 c3 w' st'.fr (hdr.x x').out
theorem s60 {n : Nat} {s : Byts} (hh : HK hk) (pv : Pv A w) (h : DR A w a b c r) (hb : DB n r) (hK : OR A w (r.remove s) K) : Cl Try.prog hk 60 [.agg (rC r a b c),.str s] w K := by
 refine in60 (hh.no _ _ _ (by decide) (by decide)) ?_
 unfold F60
 have hnow := hb.now
 have hln := hb.ln
 refine gd_t h.ok (pv.st.new' fun b9 w10 st10 x10 => st10.new' fun b11 w12 st12 x12 => ⟨_,_,_,_,_,_,_,_,st12.ldN 1 rfl rfl rfl,?_⟩)
 refine s77 hh st12.P (h.arg pv.mem st12) hb fun a2 b2 w22 f22 ha2 hb2 => ⟨_,_,rfl,?_⟩
 obtain ⟨st22,x22⟩ := st12.call f22
 refine s78 (s := r.now) hh st22.P ha2 hb2.ok1 (by have := hnow.nm; omega) fun w26 f26 => ⟨_,rfl,?_⟩
 obtain ⟨st26,x26⟩ := st22.call f26
 refine ifT_d (fun hf => ?_) fun hf => ?_
 ·have e : r.remove s = (r,70) := by unfold RDk.remove; simp only [hf,if_true]
  rw [e] at hK
  exact retT (r := r) st26 1 rfl 0 rfl rfl h.ok fun w' st' x' => hK a b c w' st'.fr (h.arg pv.mem st').out
 ·have e : r.remove s = r.more [⟨4,r.now.find s,0,zsec,s,[]⟩] := by unfold RDk.remove; simp only [hf,if_false]
  rw [e] at hK
  refine ⟨_,_,_,_,_,_,_,_,st26.ldN 1 rfl rfl rfl,st26.new' fun b53 w54 st54 x54 => ?_⟩
  obtain ⟨st55,x55,hA,hbx⟩ := st54.drop
  have hx : (rL rXs).rd (fz A [b11,b9]) w54 [.slice b53 0 1 1 none] [⟨4,r.now.find s,0,zsec,s,[]⟩] := Box.rd1 hbx hA ⟨.nilslice,[],rfl,Rp.rd.nil,fun h => by cases h⟩
  refine s82 hh st55.P (h.arg pv.mem st55) hx (by simp; omega) fun c' w56 f56 hdr => ⟨_,_,_,_,_,_,_,_,_,rfl,?_⟩
  obtain ⟨st56,x56⟩ := st55.call f56
  exact retV (r := (r.more [⟨4,r.now.find s,0,zsec,s,[]⟩]).1) st56 0 rfl rfl hdr.ok fun w' st' x' => hK a b c' w' st'.fr (hdr.x x').out
theorem s59 {n : Nat} {s t : Byts} (hh : HK hk) (pv : Pv A w) (h : DR A w a b c r) (hb : DB n r) (hK : OR A w (r.rename s t) K) : Cl Try.prog hk 59 [.agg (rC r a b c), .str s, .str t] w K := by
  refine in59 (hh.no _ _ _ (by decide) (by decide)) ?_
  unfold F59
  have hnow := hb.now
  have hln := hb.ln
  refine gd_t h.ok (pv.st.new' fun b10 w11 st11 x11 => st11.new' fun b12 w13 st13 x13 => s79 hh ⟨_, rfl, ?_⟩)
  cases hn : named t with
  | false =>
    have e : r.rename s t = (r, 2) := by unfold RDk.rename; rw [hn]; rfl
    rw [e] at hK
    exact ifT_t (retT (r := r) st13 1 rfl 0 rfl rfl h.ok fun w' st' x' => hK a b c w' st'.fr (h.arg pv.mem st').out)
  | true =>
  refine ifT_f ⟨_, _, _, _, _, _, _, _, st13.ldN 1 rfl rfl rfl, ?_⟩
  refine s77 hh st13.P (h.arg pv.mem st13) hb fun a2 b2 w22 f22 ha2 hb2 => ⟨_, _, rfl, ?_⟩
  obtain ⟨st22, x22⟩ := st13.call f22
  refine s78 (s := r.now) hh st22.P ha2 hb2.ok1 (by have := hnow.nm; omega) fun w26 f26 => ⟨_, rfl, ?_⟩
  obtain ⟨st26, x26⟩ := st22.call f26
  refine ifT_d (fun hf => ?_) fun hf => ?_
  · have e : r.rename s t = (r, 70) := by unfold RDk.rename; rw [hn]; simp only [hf, if_true]; rfl
    rw [e] at hK
    exact retT (r := r) st26 1 rfl 0 rfl rfl h.ok fun w' st' x' => hK a b c w' st'.fr (h.arg pv.mem st').out
  refine ifT_b (fun hst => ?_) fun hst => ?_
  · have hst := eq_of_beq hst
    subst hst
    have e : r.rename s s = r.more [] := by unfold RDk.rename; rw [hn]; simp only [hf, if_false, if_true]; rfl
    rw [e] at hK
    refine ⟨_, _, _, _, _, _, _, _, st26.ldN 1 rfl rfl rfl, s82 hh st26.P (h.arg pv.mem st26) Rp.rd.nil (by simp; omega) fun c' w56 f56 hdr => ⟨_, _, _, _, _, _, _, _, _, rfl, ?_⟩⟩
    obtain ⟨st56, x56⟩ := st26.call f56
    exact retV (r := (r.more []).1) st56 0 rfl rfl hdr.ok fun w' st' x' => hK a b c' w' st'.fr (hdr.x x').out
  · have hst : ¬ s = t := fun e => by rw [e] at hst; simp at hst
    have e : r.rename s t = r.more [⟨3, r.now.find s, 0, zsec, s, t⟩] := by unfold RDk.rename; rw [hn]; simp only [hf, hst, if_false]; rfl
    rw [e] at hK
    refine ⟨_, _, _, _, _, _, _, _, st26.ldN 1 rfl rfl rfl, st26.new' fun b53 w54 st54 x54 => ?_⟩
    obtain ⟨st55, x55, hA, hbx⟩ := st54.drop
    have hx : (rL rXs).rd (fz A [b12, b10]) w54 [.slice b53 0 1 1 none] [⟨3, r.now.find s, 0, zsec, s, t⟩] := Box.rd1 hbx hA ⟨.nilslice, [], rfl, Rp.rd.nil, fun h => by cases h⟩
    refine s82 hh st55.P (h.arg pv.mem st55) hx (by simp; omega) fun c' w56 f56 hdr => ⟨_, _, _, _, _, _, _, _, _, rfl, ?_⟩
    obtain ⟨st56, x56⟩ := st55.call f56
    exact retV (r := (r.more [⟨3, r.now.find s, 0, zsec, s, t⟩]).1) st56 0 rfl rfl hdr.ok fun w' st' x' => hK a b c' w' st'.fr (hdr.x x').out
theorem s58 {n : Nat} {s : Byts} {k : Int} (hh : HK hk) (pv : Pv A w) (h : DR A w a b c r) (hb : DB n r) (hK : OR A w (r.cut s k) K) : Cl Try.prog hk 58 [.agg (rC r a b c),.str s,.int .i64 k] w K := by
 refine in58 (hh.no _ _ _ (by decide) (by decide)) ?_
 unfold F58
 have hnow := hb.now
 have hln := hb.ln
 refine gd_t h.ok (pv.st.new' fun b10 w11 st11 x11 => st11.new' fun b12 w13 st13 x13 => ⟨_,_,_,_,_,_,_,_,st13.ldN 1 rfl rfl rfl,?_⟩)
 refine s77 hh st13.P (h.arg pv.mem st13) hb fun a2 b2 w22 f22 ha2 hb2 => ⟨_,_,rfl,?_⟩
 obtain ⟨st22,x22⟩ := st13.call f22
 refine st22.new' fun b26 w27 st27 x27 => gd_t (ok2 ha2.ok1 hb2.ok1) (st27.put 0 rfl (Nat.le_of_ble_eq_true rfl) fun w28 st28 x28 => ⟨_,_,st28.ldN 0 rfl rfl rfl,?_⟩)
 have x2 : Xt [b12,b10] w22 [b26,b12,b10] w28 := Xt.trans x27 x28
 have ha3 := ha2.x x2
 have hb3 := hb2.x x2
 refine s78 (s := r.now) hh st28.P ha3 hb3.ok1 (by have := hnow.nm; omega) fun w32 f32 => ⟨_,rfl,?_⟩
 obtain ⟨st32,x32⟩ := st28.call f32
 have st32 : Ow A [] w w32 [(b26,.row [a2,b2]),(b12,.row z8),(b10,.row (rC r a b c))] := st32
 refine ifT_d (fun hf => ?_) fun hf => ?_
 ·have e : r.cut s k = (r,70) := by unfold RDk.cut; simp only [hf,if_true]
  rw [e] at hK
  exact retT (r := r) st32 2 rfl 1 rfl rfl h.ok fun w' st' x' => hK a b c w' st'.fr (h.arg pv.mem st').out
 have e1 : r.cut s k = if k < 0 ∨ ((rsec r.now.files (r.now.find s)).length : Int) < k then (r,2) else r.more [⟨2,r.now.find s,k,zsec,[],[]⟩] := by unfold RDk.cut; simp only [hf,if_false]
 rw [e1] at hK
 refine ifT_d (fun hk0 => ?_) fun hk0 => ⟨_,_,st32.ldN 0 rfl rfl rfl,s80 (s := r.now) hh st32.P ha3.ok1 (hb3.x x32) (by have := hnow.fl; omega) fun v70 w71 f71 hv70 => ?_⟩
 ·rw [if_pos (.inl hk0)] at hK
  exact retT (r := r) st32 2 rfl 1 rfl rfl h.ok fun w' st' x' => hK a b c w' st'.fr (h.arg pv.mem st').out
 obtain ⟨st71,x71⟩ := st32.call f71
 refine ⟨_,hv70.len',ifT_d (fun hlk => ?_) fun hlk => ?_⟩
 ·rw [if_pos (.inr hlk)] at hK
  exact retT (r := r) st71 2 rfl 1 rfl rfl h.ok fun w' st' x' => hK a b c w' st'.fr (h.arg pv.mem st').out
 ·rw [if_neg (by rintro (hx | hx); exact hk0 hx; exact hlk hx)] at hK
  refine ⟨_,_,_,_,_,_,_,_,st71.ldN 2 rfl rfl rfl,st71.new' fun b53 w54 st54 x54 => ?_⟩
  obtain ⟨st55,x55,hA,hbx⟩ := st54.drop
  have hx : (rL rXs).rd (fz A [b26,b12,b10]) w54 [.slice b53 0 1 1 none] [⟨2,r.now.find s,k,zsec,[],[]⟩] := Box.rd1 hbx hA ⟨.nilslice,[],rfl,Rp.rd.nil,fun h => by cases h⟩
  refine s82 hh st55.P (h.arg pv.mem st55) hx (by simp; omega) fun c' w56 f56 hdr => ⟨_,_,_,_,_,_,_,_,_,rfl,?_⟩
  obtain ⟨st56,x56⟩ := st55.call f56
  exact retV (r := (r.more [⟨2,r.now.find s,k,zsec,[],[]⟩]).1) st56 1 rfl rfl hdr.ok fun w' st' x' => hK a b c' w' st'.fr (hdr.x x').out
theorem s63 {n : Nat} {s : Byts} (hh : HK hk) (pv : Pv A w) (h : DR A w a b c r) (hb : DB n r) (hfl : ∀ f,(rsec r.now.files f).flatten.length < 2 ^ 30) (hK : ∀ v w',Fr w.size w w' → (rL rU).rd A w' [v] (r.read s).1 → K (.tup [v,.int .i64 (r.read s).2]) w') : Cl Try.prog hk 63 [.agg (rC r a b c),.str s] w K := by
 refine in63 (hh.no _ _ _ (by decide) (by decide)) ?_
 unfold F63
 have hnow := hb.now
 have hln := hb.ln
 refine gd_t h.ok (pv.st.new' fun b9 w10 st10 x10 => ⟨_,_,_,_,_,_,_,_,st10.ldN 0 rfl rfl rfl,?_⟩)
 refine s77 hh st10.P (h.arg pv.mem st10) hb fun a2 b2 w20 f20 ha2 hb2 => ⟨_,_,rfl,?_⟩
 obtain ⟨st20,x20⟩ := st10.call f20
 refine st20.new' fun b23 w24 st24 x24 => gd_t (ok2 ha2.ok1 hb2.ok1) (st24.put 0 rfl (Nat.le_of_ble_eq_true rfl) fun w25 st25 x25 => ⟨_,_,st25.ldN 0 rfl rfl rfl,?_⟩)
 have x2 : Xt [b9] w20 [b23,b9] w25 := Xt.trans x24 x25
 have ha3 := ha2.x x2
 have hb3 := hb2.x x2
 refine s78 (s := r.now) hh st25.P ha3 hb3.ok1 (by have := hnow.nm; omega) fun w29 f29 => ⟨_,rfl,?_⟩
 obtain ⟨st29,x29⟩ := st25.call f29
 have st29 : Ow A [] w w29 [(b23,.row [a2,b2]),(b9,.row (rC r a b c))] := st29
 refine ifT_d (fun hf => ?_) fun hf => ⟨r.down,st29.ld 1 rfl rfl,ifT_b (fun hd => ?_) fun hd => ?_⟩
 ·have e : r.read s = ([],70) := by unfold RDk.read; simp only [hf,if_true]
  rw [e] at hK
  exact hK _ _ st29.fr Rp.rd.nil
 ·have e : r.read s = ([],6) := by unfold RDk.read; simp only [hf,hd,if_true,if_false]
  rw [e] at hK
  exact hK _ _ st29.fr Rp.rd.nil
 have e : r.read s = ((rsec r.now.files (r.now.find s)).flatten,0) := by unfold RDk.read; simp only [hf,hd,if_false,Bool.false_eq_true]
 rw [e] at hK
 refine ⟨_,_,st29.ldN 0 rfl rfl rfl,s80 (s := r.now) hh st29.P ha3.ok1 (hb3.x x29) (by have := hnow.fl; omega) fun v34 w35 f35 hv => ?_⟩
 obtain ⟨st35,x35⟩ := st29.call f35
 have hsl := hnow.sc (r.now.find s)
 have htot := hfl (r.now.find s)
 generalize hgen : rsec r.now.files (r.now.find s) = l at hv hK hsl htot
 refine loopP_ind (fun m lv w38 => ∃ (i : Nat) (o : AV),i ≤ l.length ∧ m = l.length - i ∧ lv = [o,.int .i64 i] ∧ Ow A [] w w38 [(b23,.row [a2,b2]),(b9,.row (rC r a b c))] ∧ Ga rU (fz A [b23,b9]) w w38 o (l.take i).flatten ∧ (rL (rL rU)).rd (fz A [b23,b9]) w38 [v34] l) ?_ ⟨0,.nilslice,Nat.zero_le _,rfl,rfl,st35,Ga.nil,hv⟩
 rintro m lv w38 ⟨i,o,hi,rfl,rfl,st38,hg,hv⟩ R ih
 refine ⟨_,_,rfl,fun _ => ⟨_,hv.len',ifT_d (fun hc => ?_) fun hc => ?_⟩⟩
 ·have hil : i < l.length := by omega
  have et : (l.take (i + 1)).flatten = (l.take i).flatten ++ l[i] := by rw [List.take_add_one,List.getElem?_eq_getElem hil,List.flatten_append]; simp
  have hle : (l.take (i + 1)).flatten.length ≤ l.flatten.length := by
   have : l.flatten = (l.take (i + 1)).flatten ++ (l.drop (i + 1)).flatten := by rw [← List.flatten_append,List.take_append_drop]
   rw [this,List.length_append]; omega
  rw [et,List.length_append] at hle
  refine hv.at1 rfl hil fun bb oo u hu ho => onM_s ho ?_
  refine st38.app (r := rU) (l' := l[i]) hg hu (by decide) st38.new (by omega) (by omega) fun v' w' st' x' hg' => ih (l.length - (i + 1)) (by omega) _ _ ⟨i + 1,v',hil,rfl,by rw [wi_eq (by omega) (by omega)]; rfl,st',by rw [et]; exact hg',hv.y x'⟩
 ·rw [List.take_of_length_le (by omega)] at hg
  exact hK o w38 st38.fr (hg.rd (by decide)).out
end
end Go.Proofs.Ytbjeebgdjlemjaa
/-
 The document's disk: Put,Names and Crash,over memory.
 No condition beyond those that each theorem names.
-/
set_option linter.unusedSimpArgs false
open Go.Sx
set_option linter.unusedVariables false
set_option linter.unusedSimpArgs false
namespace Go.Proofs.Ytbjeebgdjlemjaa
section
variable {hk : Hook} {A B : Nat → Prop} {I : List Nat} {w0 w w' : AW} {L L' : Obs} {K : AV → AW → Prop} {a b c v : AV} {r : RDk} {U U' : List Nat}
set_option maxRecDepth 20000 in
theorem s57 {n : Nat} {s d : Byts} {at_ : Int} {dv : AV} (hh : HK hk) (pv : Pv A w) (h : DR A w a b c r) (hb : DB n r) (hla : 0 ≤ r.last ∧ r.last < 2 ^ 40) (hd : (rL rU).rd A w [dv] d) (hdl : d.length < 2 ^ 20) (hK : OR A w (r.put s at_ d) K) : Cl Try.prog hk 57 [.agg (rC r a b c),.str s,.int .i64 at_,dv] w K := by
 refine in57 (hh.no _ _ _ (by decide) (by decide)) ?_
 unfold F57
 have hnow := hb.now
 have hln := hb.ln
 refine gd_t h.ok (pv.st.new' fun b11 w12 st12 x12 => st12.new' fun b13 w14 st14 x14 => ⟨_,_,_,_,_,_,_,_,st14.ldN 1 rfl rfl rfl,?_⟩)
 refine s77 hh st14.P (h.arg pv.mem st14) hb fun a2 b2 w24 f24 ha2 hb2 => ⟨_,_,rfl,?_⟩
 obtain ⟨st24,x24⟩ := st14.call f24
 refine st24.new' fun b27 w28 st28 x28 => gd_t (ok2 ha2.ok1 hb2.ok1) (st28.put 0 rfl (Nat.le_of_ble_eq_true rfl) fun w29 st29 x29 => ⟨_,_,st29.ldN 0 rfl rfl rfl,?_⟩)
 have x2 : Xt [b13,b11] w24 [b27,b13,b11] w29 := Xt.trans x28 x29
 have ha3 := ha2.x x2
 have hb3 := hb2.x x2
 refine s78 (s := r.now) hh st29.P ha3 hb3.ok1 (by have := hnow.nm; omega) fun w33 f33 => ⟨_,rfl,s79 hh ⟨_,rfl,?_⟩⟩
 obtain ⟨st33,x33⟩ := st29.call f33
 have st33 : Ow A [] w w33 [(b27,.row [a2,b2]),(b13,.row z8),(b11,.row (rC r a b c))] := st33
 have err : ∀ {w' : AW} {e : Int},Ow A [] w w' [(b27,.row [a2,b2]),(b13,.row z8),(b11,.row (rC r a b c))] → r.put s at_ d = (r,e) → ∃ x0 x1 x2 : AV,∃ x3 : Int,∃ x4 : Bool,∃ x5 x6 x7 : Int,ldN 8 w' b11 0 = some (.agg [x0,x1,x2,.int .i64 x3,.bool x4,.int .i64 x5,.int .i64 x6,.int .i64 x7]) ∧
   gd ([x0,x1,x2,.int .i64 x3,.bool x4,.int .i64 x5,.int .i64 x6,.int .i64 x7].all okCell) (onM (AW.putCells w' b13 0 [x0,x1,x2,.int .i64 x3,.bool x4,.int .i64 x5,.int .i64 x6,.int .i64 x7]) fun w'' => ∃ r0 r1 r2 : AV,∃ r3 : Int,∃ r4 : Bool,∃ r5 r6 r7 : Int,ldN 8 w'' b13 0 = some (.agg [r0,r1,r2,.int .i64 r3,.bool r4,.int .i64 r5,.int .i64 r6,.int .i64 r7]) ∧ K (.tup [.agg [r0,r1,r2,.int .i64 r3,.bool r4,.int .i64 r5,.int .i64 r6,.int .i64 r7],.int .i64 e]) w'') := fun st' e => by
  rw [e] at hK
  exact retT (r := r) st' 2 rfl 1 rfl rfl h.ok fun w' st' x' => hK a b c w' st'.fr (h.arg pv.mem st').out
 have pe : r.put s at_ d = if (!named s) = true ∨ d.length ≠ 64 ∨ at_ < 0 ∨ ((rsec r.now.files (r.now.find s)).length : Int) < at_ then (r,2)
  else if at_ = 4096 ∨ (r.now.find s = 0 ∧ 256 ≤ r.now.names.length) then (r,5)
  else if r.now.find s ≠ 0 then r.more [⟨1,r.now.find s,at_,d,[],[]⟩]
  else if (r.more [⟨0,r.last + 1,0,zsec,s,[]⟩,⟨1,r.last + 1,at_,d,[],[]⟩]).2 = 0 then ({ (r.more [⟨0,r.last + 1,0,zsec,s,[]⟩,⟨1,r.last + 1,at_,d,[],[]⟩]).1 with last := (r.more [⟨0,r.last + 1,0,zsec,s,[]⟩,⟨1,r.last + 1,at_,d,[],[]⟩]).1.last + 1 },0) else r.more [⟨0,r.last + 1,0,zsec,s,[]⟩,⟨1,r.last + 1,at_,d,[],[]⟩] := rfl
 cases hn : named s with
 | false => exact ifT_t (err st33 (by rw [pe,if_pos (.inl (by rw [hn]; rfl))]))
 | true =>
 have hn' : ¬ (!named s) = true := by rw [hn]; decide
 refine ifT_f ⟨_,(st33.arg pv.mem hd).len',ifT_nd (fun hl => err st33 (by rw [pe,if_pos (.inr (.inl fun e => hl (by omega)))])) fun hl => ifT_d (fun h0 => err st33 (by rw [pe,if_pos (.inr (.inr (.inl h0)))])) fun h0 => ⟨_,_,st33.ldN 0 rfl rfl rfl,?_⟩⟩
 refine s80 (s := r.now) hh st33.P ha3.ok1 (hb3.x x33) (by have := hnow.fl; omega) fun v92 w93 f93 hv92 => ⟨_,hv92.len',?_⟩
 obtain ⟨st93,x93⟩ := st33.call f93
 refine ifT_d (fun hla2 => err st93 (by rw [pe,if_pos (.inr (.inr (.inr hla2)))])) fun hla2 => ?_
 have c1 : ¬ ((!named s) = true ∨ d.length ≠ 64 ∨ at_ < 0 ∨ ((rsec r.now.files (r.now.find s)).length : Int) < at_) := by
  rintro (hx | hx | hx | hx)
  ·exact hn' hx
  ·exact hx (by omega)
  ·exact h0 hx
  ·exact hla2 hx
 rw [if_neg c1] at pe
 refine join_of (fun l w' => l = [] ∧ w' = w93 ∧ ¬ (at_ = 4096 ∨ (r.now.find s = 0 ∧ 256 ≤ r.now.names.length))) ?_ fun J hJ => ?_
 ·rintro l w113 ⟨rfl,rfl,c2⟩
  rw [if_neg c2] at pe
  refine ⟨rfl,fun _ => ?_⟩
  refine s81 hh st93.P (st93.arg pv.mem hd).rsB hdl fun v115 w116 f116 hv => gd_t hv.ok1 ?_
  obtain ⟨st116,x116⟩ := st93.call f116
  have okx : ∀ {f : Int},([.int .i64 2,.int .i64 f,.int .i64 at_,v115,.str [],.str []] : List AV).all okCell = true := fun {f} => by simp only [List.all_cons,hv.ok1]; rfl
  refine st116.new' fun b117 w118 st118 x118 => gd_t okx (st118.put 0 rfl (Nat.le_of_ble_eq_true rfl) fun w119 st119 x119 => ?_)
  have st119 : Ow A [] w w119 [(b117,.row (xC ⟨1,r.now.find s,at_,d,[],[]⟩ v115)),(b27,.row [a2,b2]),(b13,.row z8),(b11,.row (rC r a b c))] := st119
  have x119 : Xt [b27,b13,b11] w116 [b117,b27,b13,b11] w119 := Xt.trans x118 x119
  have hv119 := hv.x x119
  refine ifT_nd (fun hf => ?_) fun hf => ?_
  ·rw [if_pos hf] at pe
   rw [pe] at hK
   refine ⟨_,_,_,_,_,_,_,_,st119.ldN 3 rfl rfl rfl,_,_,_,_,_,_,st119.ldN 0 rfl rfl rfl,gd_t okx (st119.new' fun b134 w135 st135 x135 => ?_)⟩
   obtain ⟨st136,x136,hA,hbx⟩ := st135.drop
   have hx : (rL rXs).rd (fz A [b117,b27,b13,b11]) w135 [.slice b134 0 1 1 none] [⟨1,r.now.find s,at_,d,[],[]⟩] := Box.rd1 hbx hA ⟨v115,d,rfl,hv119.x (Xt.trans x135 x136),fun _ => rfl⟩
   refine s82 hh st136.P (h.arg pv.mem st136) hx (by simp; omega) fun c' w56 f56 hdr => ⟨_,_,_,_,_,_,_,_,_,rfl,?_⟩
   obtain ⟨st56,x56⟩ := st136.call f56
   exact retV (r := (r.more [⟨1,r.now.find s,at_,d,[],[]⟩]).1) st56 2 rfl rfl hdr.ok fun w' st' x' => hK a b c' w' st'.fr (hdr.x x').out
  ·rw [if_neg (not_not_intro hf)] at pe
   refine ⟨r.last,st119.ld 3 rfl rfl,?_⟩
   rw [wi_eq (x := r.last + 1) (by omega) (by omega)]
   refine st119.put 0 rfl (Nat.le_of_ble_eq_true rfl) fun w157 st157 x157 => ?_
   have st157 : Ow A [] w w157 [(b117,.row (xC ⟨1,r.last + 1,at_,d,[],[]⟩ v115)),(b27,.row [a2,b2]),(b13,.row z8),(b11,.row (rC r a b c))] := st157
   have okx2 : ([.int .i64 2,.int .i64 (r.last + 1),.int .i64 at_,v115,.str [],.str []] : List AV).all okCell = true := okx
   refine ⟨_,_,_,_,_,_,_,_,st157.ldN 3 rfl rfl rfl,r.last + 1,st157.ld 0 rfl rfl,_,_,_,_,_,_,st157.ldN 0 rfl rfl rfl,gd_t okx2 (st157.new' fun b173 w174 st174 x174 => ?_)⟩
   obtain ⟨st175,x175,hA,hbx⟩ := st174.drop
   have hv175 : (rL rU).rd (fz A [b117,b27,b13,b11]) w174 [v115] d := (hv119.x x157).x (Xt.trans x174 x175)
   have hx : (rL rXs).rd (fz A [b117,b27,b13,b11]) w174 [.slice b173 0 2 2 none] [⟨0,r.last + 1,0,zsec,s,[]⟩,⟨1,r.last + 1,at_,d,[],[]⟩] := by
    refine Box.sl hbx hA rfl ⟨xC ⟨0,r.last + 1,0,zsec,s,[]⟩ .nilslice,xC ⟨1,r.last + 1,at_,d,[],[]⟩ v115,rfl,⟨.nilslice,[],rfl,Rp.rd.nil,fun h => by cases h⟩,Chk.one ⟨v115,d,rfl,hv175,fun _ => rfl⟩⟩
   refine s82 hh st175.P (h.arg pv.mem st175) hx (by simp; omega) fun c' w176 f176 hdr => ⟨_,_,_,_,_,_,_,_,_,rfl,?_⟩
   obtain ⟨st176,x176⟩ := st175.call f176
   have hml : (r.more [⟨0,r.last + 1,0,zsec,s,[]⟩,⟨1,r.last + 1,at_,d,[],[]⟩]).1.last = r.last := more_last _ _
   generalize hq : r.more [⟨0,r.last + 1,0,zsec,s,[]⟩,⟨1,r.last + 1,at_,d,[],[]⟩] = q at pe hdr hml
   refine st176.new' fun b186 w187 st187 x187 => gd_t hdr.ok (st187.put 0 rfl (Nat.le_of_ble_eq_true rfl) fun w188 st188 x188 => ?_)
   have st188 : Ow A [] w w188 [(b186,.row (rC q.1 a b c')),(b117,.row (xC ⟨1,r.last + 1,at_,d,[],[]⟩ v115)),(b27,.row [a2,b2]),(b13,.row z8),(b11,.row (rC r a b c))] := st188
   have hdr188 : DR (fz A [b186,b117,b27,b13,b11]) w188 a b c' q.1 := hdr.x (Xt.trans x187 x188)
   refine ifT_d (fun he => ?_) fun he => ?_
   ·rw [if_pos he] at pe
    rw [pe] at hK
    refine ⟨q.1.last,st188.ld 0 rfl rfl,?_⟩
    rw [wi_eq (x := q.1.last + 1) (by omega) (by omega),he]
    refine st188.put 0 rfl (Nat.le_of_ble_eq_true rfl) fun w190 st190 x190 => ?_
    exact retT (r := { q.1 with last := q.1.last + 1 }) st190 0 rfl 3 rfl rfl hdr188.ok fun w' st' x' => hK a b c' w' st'.fr ((hdr188.x (Xt.trans x190 x')).out.as)
   ·rw [if_neg he] at pe
    rw [pe] at hK
    exact retT (r := q.1) st188 0 rfl 3 rfl rfl hdr188.ok fun w' st' x' => hK a b c' w' st'.fr (hdr188.x x').out
 ·refine ifT_d (fun h4 => err st93 (by rw [pe,if_pos (.inl h4)])) fun h4 => ifT_d (fun hf => onM_s (v := a2) (st93.ld 0 rfl rfl) ⟨_,((ha3.x x33).x x93).len',ifT_d (fun h5 => err st93 (by rw [pe,if_pos (.inr ⟨hf,by omega⟩)])) fun h5 => hJ _ _ ⟨rfl,rfl,?_⟩⟩) fun hf => hJ _ _ ⟨rfl,rfl,?_⟩
  ·rintro (hx | hx); exact h4 hx; omega
  ·rintro (hx | hx); exact h4 hx; exact hf hx.1
theorem s66 {n : Nat} (hh : HK hk) (pv : Pv A w) (h : DR A w a b c r) (hb : DB n r) (hK : ∀ v w', Fr w.size w w' → (rL rS).rd A w' [v] r.names → K v w') : Cl Try.prog hk 66 [.agg (rC r a b c)] w K := by
  refine in66 (hh.no _ _ _ (by decide) (by decide)) ?_
  unfold F66
  have hnow := hb.now
  have hln := hb.ln
  refine gd_t h.ok (pv.st.new' fun b8 w9 st9 x9 => ⟨_, _, _, _, _, _, _, _, st9.ldN 0 rfl rfl rfl, ?_⟩)
  refine s77 hh st9.P (h.arg pv.mem st9) hb fun a2 b2 w19 f19 ha2 hb2 => ⟨_, _, rfl, _, ha2.len', ?_⟩
  obtain ⟨st19, x19⟩ := st9.call f19
  have hnl := hnow.nm
  have er : r.names = selR (r.now.names.map (·.1)) r.now.names.length [] := rfl
  rw [er] at hK
  generalize r.now.names = ns at ha2 hnl hK
  refine loopP_ind (fun m lv w25 => ∃ (k : Nat) (v : AV) (out : List Byts), k ≤ ns.length ∧ m = ns.length - k ∧ lv = [v, .int .i64 k] ∧ Ow A [] w w25 [(b8, .row (rC r a b c))] ∧ (rL rNm).rd (fz A [b8]) w25 [a2] ns ∧ Ga rS (fz A [b8]) w w25 v out ∧ out.length = k ∧ selR (ns.map (·.1)) ns.length [] = selR (ns.map (·.1)) (ns.length - k) out) ?_ ⟨0, .nilslice, [], Nat.zero_le _, rfl, rfl, st19, ha2, Ga.nil, rfl, rfl⟩
  rintro m lv w25 ⟨k, v, out, hkl, rfl, rfl, st25, ha, hg, hol, hsel⟩ R ih
  refine ⟨_, _, rfl, fun _ => ifT_d (fun hc => ?_) fun hc => ?_⟩
  · have hk : k < ns.length := by omega
    have hgr := hg.rd (by decide)
    refine loopP_ind (fun m lv w30 => ∃ (i : Nat) (ls : Byts), w25 = w30 ∧ i ≤ ns.length ∧ m = ns.length - i ∧ lv = [.str ls, .int .i64 i] ∧ leastR out (ns.map (·.1)) [] = leastR out ((ns.drop i).map (·.1)) ls) ?_ ⟨0, [], rfl, Nat.zero_le _, rfl, rfl, rfl⟩
    rintro m lv w30 ⟨i, ls, rfl, hi, rfl, rfl, hls⟩ R2 ih2
    refine ⟨_, _, rfl, fun _ => ⟨_, ha.len', ifT_d (fun hc2 => ?_) fun hc2 => ?_⟩⟩
    · have hil : i < ns.length := by omega
      rw [List.drop_eq_getElem_cons hil, List.map_cons, leastR] at hls
      refine nm_at ha hil fun bb oo h0 h1 _ => ⟨_, h0, ?_⟩
      have ex : wi ((i : Int) + 1) = ((i + 1 : Nat) : Int) := by rw [wi_eq (by omega) (by omega)]; rfl
      have take1 : leastR out (ns.map (·.1)) [] = leastR out ((ns.drop (i + 1)).map (·.1)) ns[i].1 → R2 [.str ns[i].1, .int .i64 (wi ((i : Int) + 1))] w25 := fun hx => ih2 (ns.length - (i + 1)) (by omega) _ _ ⟨i + 1, _, rfl, hil, rfl, by rw [ex], hx⟩
      have skip1 : leastR out (ns.map (·.1)) [] = leastR out ((ns.drop (i + 1)).map (·.1)) ls → R2 [.str ls, .int .i64 (wi ((i : Int) + 1))] w25 := fun hx => ih2 (ns.length - (i + 1)) (by omega) _ _ ⟨i + 1, _, rfl, hil, rfl, by rw [ex], hx⟩
      have hgd : ∀ {X Y : Prop}, (guardN out ns[i].1 = true → X) → (guardN out ns[i].1 = false → Y) → ∃ x_37 : Int, lenS v = some (.int .i64 x_37) ∧ ifT (decide (x_37 = 0)) X (∃ x_38 : Int, lenS v = some (.int .i64 x_38) ∧ atP (idxS 1 v (.int .i64 (wi (x_38 - 1)))) fun b_39 o_40 => ∃ x_41 : List UInt8, ld w25 b_39 o_40 = some (.str x_41) ∧ ifT (!(cmpBytes ns[i].1 x_41 || ns[i].1 == x_41)) X Y) := fun {X Y} hX hY => by
        refine ⟨_, hgr.len', ifT_d (fun h0 => hX ?_) fun h0 => ⟨_, hgr.len', ?_⟩⟩
        · have : out = [] := List.length_eq_zero_iff.1 (by omega)
          rw [this]; rfl
        · have hol1 : out.length - 1 < out.length := by omega
          have ei : wi ((out.length : Int) - 1) = ((out.length - 1 : Nat) : Int) := by rw [wi_eq (by omega) (by omega)]; omega
          rw [ei]
          refine hgr.at1 rfl hol1 fun bb oo u hu ho => ?_
          have hu : [u] = [AV.str out[out.length - 1]] := hu
          cases hu
          have eg : guardN out ns[i].1 = !(cmpBytes ns[i].1 out[out.length - 1] || ns[i].1 == out[out.length - 1]) := by
            unfold guardN
            rw [List.getLast?_eq_getElem?, List.getElem?_eq_getElem hol1]
          refine ⟨_, ho, ?_⟩
          rw [← eg]
          exact ifT_b hX hY
      cases e1 : (ls == ([] : Byts)) with
      | true =>
        refine ifT_t (hgd (fun hgt => take1 ?_) fun hgt => skip1 ?_)
        · rw [hls, e1, hgt]; rfl
        · rw [hls, e1, hgt]; rfl
      | false =>
        refine ifT_f (ifT_b (fun e2 => hgd (fun hgt => take1 ?_) fun hgt => skip1 ?_) fun e2 => skip1 ?_)
        · rw [hls, e1, hgt, e2]; rfl
        · rw [hls, e1, hgt, e2]; rfl
        · rw [hls, e1, e2]; rfl
    · rw [List.drop_eq_nil_of_le (by omega)] at hls
      have hls : leastR out (ns.map (·.1)) [] = ls := hls
      refine st25.new' fun b47 w48 st48 x48 => ?_
      obtain ⟨st49, x49, hA, hbx⟩ := st48.drop
      refine st49.app (r := rS) (l' := [ls]) (Ga.x (Xt.trans x48 x49) st25 hg) (Box.rd1 hbx hA rfl) (by decide) st49.new (by simp; omega) (by simp; omega) fun v' w' st' x' hg' => ih (ns.length - (k + 1)) (by omega) _ _ ⟨k + 1, v', out ++ [ls], hk, rfl, by rw [wi_eq (by omega) (by omega)]; rfl, st', (ha.x (Xt.trans x48 x49)).y x', hg', by rw [List.length_append, hol]; rfl, ?_⟩
      rw [hsel, show ns.length - k = (ns.length - (k + 1)) + 1 by omega, selR, hls]
  · rw [show ns.length - k = 0 by omega] at hsel
    have hsel : selR (ns.map (·.1)) ns.length [] = out := hsel
    rw [hsel] at hK
    exact hK v w25 st25.fr (hg.rd (by decide)).out
theorem getD_at {keep : List Bool} {i : Nat} (h : i < keep.length) : keep.getD i false = keep[i] := by
 rw [List.getD_eq_getElem?_getD,List.getElem?_eq_getElem h]; rfl
theorem keepR_drop {keep : List Bool} {l : List Stp} {i : Nat} {s : RSt} (h : i < l.length) : keepR keep i (l.drop i) s = keepR keep (i + 1) (l.drop (i + 1)) (if keep.getD i false then s.does l[i] else s) := by
 rw [List.drop_eq_getElem_cons h]; rfl
set_option maxRecDepth 20000 in
theorem s38 {n : Nat} {keep : List Bool} {kv : AV} (hh : HK hk) (pv : Pv A w) (h : DR A w a b c r) (hb : DB n r) (hkv : (rL rT).rd A w [kv] keep) (hK : ∀ a' b' c' w',Fr w.size w w' → DR A w' a' b' c' (r.crash keep) → K (.agg (rC (r.crash keep) a' b' c')) w') : Cl Try.prog hk 38 [.agg (rC r a b c),kv] w K := by
 refine in38 (hh.no _ _ _ (by decide) (by decide)) ?_
 unfold F38
 have hln := hb.ln
 obtain ⟨hb1,hb2,hb3⟩ := hb
 refine gd_t h.ok (pv.st.new' fun b9 w10 st10 x10 => st10.new' fun b11 w12 st12 x12 => ⟨_,_,st12.ldN 1 rfl rfl rfl,st12.new' fun b15 w16 st16 x16 => gd_t (ok2 h.nm.ok1 h.fl.ok1) (st16.put 0 rfl (Nat.le_of_ble_eq_true rfl) fun w17 st17 x17 => ?_)⟩)
 have st17 : Ow A [] w w17 [(b15,.row [a,b]),(b11,.row z8),(b9,.row (rC r a b c))] := st17
 have h17 := h.arg pv.mem st17
 refine loopP_ind (fun m lv w20 => ∃ (i : Nat) (a' b' : AV) (s : RSt),i ≤ r.steps.length ∧ m = r.steps.length - i ∧ lv = [.int .i64 i] ∧ Ow A [] w w20 [(b15,.row [a',b']),(b11,.row z8),(b9,.row (rC r a b c))] ∧
  (rL rNm).rd (fz A [b15,b11,b9]) w20 [a'] s.names ∧ (rL rFl).rd (fz A [b15,b11,b9]) w20 [b'] s.files ∧ RBd (n + i) s ∧ keepR keep 0 r.steps r.safe = keepR keep i (r.steps.drop i) s) ?_ ⟨0,a,b,r.safe,Nat.zero_le _,rfl,rfl,st17,h17.nm,h17.fl,hb1,rfl⟩
 rintro m lv w20 ⟨i,a',b',s,hi,rfl,rfl,st20,ha,hbf,hbd,hkp⟩ R ih
 have h20 := h.arg pv.mem st20
 have hkv20 := st20.arg pv.mem hkv
 refine ⟨_,rfl,fun _ => onM_s (v := c) (st20.ld 2 rfl rfl) ⟨_,h20.st.len',ifT_d (fun hc => ?_) fun hc => ?_⟩⟩
 ·have hil : i < r.steps.length := by omega
  rw [keepR_drop hil] at hkp
  have next0 : keep.getD i false = false → R [.int .i64 (wi ((i : Int) + 1))] w20 := fun e => ih (r.steps.length - (i + 1)) (by omega) _ _ ⟨i + 1,a',b',s,hil,rfl,by rw [wi_eq (by omega) (by omega)]; rfl,st20,ha,hbf,⟨by have := hbd.nm; omega,by have := hbd.fl; omega,hbd.sc⟩,by rw [hkp,if_neg (by rw [e]; decide)]⟩
  refine ⟨_,hkv20.len',ifT_d (fun hc2 => ?_) fun hc2 => next0 ?_⟩
  ·have hik : i < keep.length := by omega
   refine hkv20.at1 rfl hik fun bb oo u hu ho => ?_
   have hu : [u] = [AV.bool keep[i]] := hu
   cases hu
   refine ⟨_,ho,ifT_b (fun e => ?_) fun e => next0 (by rw [getD_at hik]; exact e)⟩
   rw [getD_at hik,if_pos e] at hkp
   obtain ⟨g1,g2⟩ := hb2 _ (List.getElem_mem hil)
   refine ⟨_,_,st20.ldN 0 rfl rfl rfl,onM_s (v := c) (st20.ld 2 rfl rfl) (xs_at h20.st hil fun bb oo u d hu hd hf hn => ⟨_,_,_,_,_,_,hn,?_⟩)⟩
   refine s67 (x := r.steps[i]) hh st20.P ha hbf hu hd ⟨g1.2.1,g1.2.2.1⟩ g2 hbd (by omega) fun a2 b2 w35 f35 ha2 hb2' => ⟨_,_,rfl,?_⟩
   obtain ⟨st35,x35⟩ := st20.call f35
   exact gd_t (ok2 ha2.ok1 hb2'.ok1) (st35.put 0 rfl (Nat.le_of_ble_eq_true rfl) fun w38 st38 x38 => ih (r.steps.length - (i + 1)) (by omega) _ _ ⟨i + 1,a2,b2,_,hil,rfl,by rw [wi_eq (by omega) (by omega)]; rfl,st38,ha2.x x38,hb2'.x x38,hbd.does g2,hkp⟩)
  ·rw [List.getD_eq_getElem?_getD,List.getElem?_eq_none (by omega)]; rfl
 ·clear ih
  rw [List.drop_eq_nil_of_le (by omega)] at hkp
  have hkp : keepR keep 0 r.steps r.safe = s := hkp
  have ec : r.crash keep = ⟨⟨s.names,heldR s⟩,[],r.last,false,-1,-1,0⟩ := by unfold RDk.crash; rw [hkp]
  rw [ec] at hK
  have hfl := hbd.fl
  have hnm := hbd.nm
  refine loopP_ind (fun m lv w46 => ∃ (i : Nat) (v : AV),i ≤ s.files.length ∧ m = s.files.length - i ∧ lv = [v,.int .i64 i] ∧ Ow A [] w w46 [(b15,.row [a',b']),(b11,.row z8),(b9,.row (rC r a b c))] ∧ (rL rNm).rd (fz A [b15,b11,b9]) w46 [a'] s.names ∧ (rL rFl).rd (fz A [b15,b11,b9]) w46 [b'] s.files ∧
   Ga rFl (fz A [b15,b11,b9]) w w46 v ((s.files.take i).filter fun x => s.names.any fun n => decide (n.2 = x.1))) ?_ ⟨0,.nilslice,Nat.zero_le _,rfl,rfl,st20,ha,hbf,Ga.nil⟩
  rintro m lv w46 ⟨i,v,hi,rfl,rfl,st46,ha,hbf,hg⟩ R ih
  refine ⟨_,_,rfl,fun _ => onM_s (v := b') (st46.ld 0 rfl rfl) ⟨_,hbf.len',ifT_d (fun hc => ?_) fun hc => ?_⟩⟩
  ·have hil : i < s.files.length := by omega
   have hft := filter_take (p := fun x => s.names.any fun n => decide (n.2 = x.1)) hil
   have hle : ((s.files.take i).filter fun x => s.names.any fun n => decide (n.2 = x.1)).length ≤ i := by
    have := List.length_filter_le (fun x : Int × List Byts => s.names.any fun n => decide (n.2 = x.1)) (s.files.take i)
    rw [List.length_take] at this
    omega
   refine loopP_ind (fun m lv w53 => ∃ k : Nat,w46 = w53 ∧ k ≤ s.names.length ∧ m = s.names.length - k ∧ lv = [v,.int .i64 k] ∧ (s.names.any fun n => decide (n.2 = s.files[i].1)) = ((s.names.drop k).any fun n => decide (n.2 = s.files[i].1))) ?_ ⟨0,rfl,Nat.zero_le _,rfl,rfl,rfl⟩
   rintro m lv w53 ⟨k,rfl,hk,rfl,rfl,hany⟩ R2 ih2
   refine ⟨_,_,rfl,fun _ => onM_s (v := a') (st46.ld 0 rfl rfl) ⟨_,ha.len',ifT_d (fun hc2 => ?_) fun hc2 => ?_⟩⟩
   ·have hkl : k < s.names.length := by omega
    rw [List.drop_eq_getElem_cons hkl,List.any_cons] at hany
    refine onM_s (v := a') (st46.ld 0 rfl rfl) (nm_at ha hkl fun bb oo h0 h1 _ => ⟨_,h1,onM_s (v := b') (st46.ld 0 rfl rfl) (fl_at hbf hil fun bb oo u hu g0 g1 _ => ⟨_,g0,ifT_d (fun e => ?_) fun e => ?_⟩)⟩)
    ·rw [decide_eq_true e,Bool.true_or] at hany
     rw [if_pos hany] at hft
     refine onM_s (v := b') (st46.ld 0 rfl rfl) (fl_at hbf hil fun bb oo u hu g0 g1 gn => ⟨_,_,gn,gd_t (ok2 rfl hu.ok1) (st46.new' fun b71 w72 st72 x72 => ?_)⟩)
     obtain ⟨st73,x73,hA,hbx⟩ := st72.drop
     have xx : Xt [b15,b11,b9] w46 [b15,b11,b9] w72 := Xt.trans x72 x73
     refine st73.app (r := rFl) (l' := [s.files[i]]) (Ga.x xx st46 hg) (Box.rd1 hbx hA ⟨u,rfl,hu.x xx⟩) (by decide) st73.new (by simp only [List.length_singleton]; omega) (by simp only [List.length_singleton]; omega) fun v' w' st' x' hg' => ih (s.files.length - (i + 1)) (by omega) _ _ ⟨i + 1,v',hil,rfl,by rw [wi_eq (by omega) (by omega)]; rfl,st',(ha.x xx).y x',(hbf.x xx).y x',by rw [hft]; exact hg'⟩
    ·rw [decide_eq_false e,Bool.false_or] at hany
     exact ih2 (s.names.length - (k + 1)) (by omega) _ _ ⟨k + 1,rfl,hkl,rfl,by rw [wi_eq (by omega) (by omega)]; rfl,hany⟩
   ·rw [List.drop_eq_nil_of_le (by omega)] at hany
    rw [if_neg (by rw [hany]; exact Bool.false_ne_true),List.append_nil] at hft
    exact ih (s.files.length - (i + 1)) (by omega) _ _ ⟨i + 1,v,hil,rfl,by rw [wi_eq (by omega) (by omega)]; rfl,st46,ha,hbf,by rw [hft]; exact hg⟩
  ·rw [show s.files.take i = s.files from List.take_of_length_le (by omega)] at hg
   have hv := hg.rd (by decide)
   refine gd_t hv.ok1 (st46.put 0 rfl (Nat.le_of_ble_eq_true rfl) fun w75 st75 x75 => ⟨_,_,st75.ldN 0 rfl rfl rfl,r.last,st75.ld 2 rfl rfl,gd_t (okR (r := ⟨⟨s.names,heldR s⟩,[],r.last,false,-1,-1,0⟩) (c := .nilslice) ha.ok1 hv.ok1 rfl) (st75.put 1 rfl (Nat.le_of_ble_eq_true rfl) fun w79 st79 x79 => ⟨_,_,_,_,_,_,_,_,st79.ldN 1 rfl rfl rfl,?_⟩)⟩)
   have xx : Xt [b15,b11,b9] w46 [b15,b11,b9] w79 := Xt.trans x75 x79
   exact hK a' v .nilslice w79 st79.fr ⟨(ha.x xx).out,(hv.x xx).out,Rp.rd.nil⟩
end
end Go.Proofs.Ytbjeebgdjlemjaa
/-
 The two disks go together; bytes of one kind,of any number.
 No condition beyond those that each theorem names.
-/
set_option linter.unusedSimpArgs false
open Go.Sx
set_option linter.unusedVariables false
set_option linter.unusedSimpArgs false
namespace Go.Proofs.Ytbjeebgdjlemjaa
structure QBo (k : Nat) (r : RDk) : Prop where
 ex : ∃ n,RBd n r.safe ∧ n + r.steps.length ≤ k
section
variable {k k' c : Nat} {d : Dsk} {r r' : RDk}
theorem QBo.same (h : QBo k r) (hk : k ≤ k') (e1 : r'.safe = r.safe := by rfl) (e2 : r'.steps = r.steps := by rfl) : QBo k' r' := by
 obtain ⟨n,h1,h2⟩ := h.ex
 exact ⟨n,by rw [e1]; exact h1,by rw [e2]; omega⟩
theorem QBo.op (h : QBo k r) : QBo k r.op.1 := h.same (Nat.le_refl _) (op_same r).2.1 (op_same r).1
theorem QBo.more (h : QBo k r) (l : List Stp) : QBo (k + l.length) (r.more l).1 := by
 unfold RDk.more
 split
 ·exact h.op.same (by omega)
 ·obtain ⟨n,h1,h2⟩ := h.ex
  exact ⟨n,by show RBd n r.op.1.safe; rw [(op_same r).2.1]; exact h1,by simp only [List.length_append]; omega⟩
theorem QBo.mw (h : QBo k r) {l : List Stp} {n : Nat} (hl : l.length ≤ n) : QBo (k + n) (r.more l).1 := (h.more l).same (by omega)
theorem QBo.put (h : QBo k r) (a : Byts) (at_ : Int) (data : Byts) : QBo (k + 2) (r.put a at_ data).1 := by
 unfold RDk.put
 simp only []
 split
 ·exact h.same (by omega)
 ·split
  ·exact h.same (by omega)
  ·split
   ·exact h.mw (by simp)
   ·split
    ·exact (h.more [⟨0,r.last + 1,0,zsec,a,[]⟩,⟨1,r.last + 1,at_,data,[],[]⟩]).same (by simp)
    ·exact h.mw (by simp)
theorem QBo.cut (h : QBo k r) (a : Byts) (n : Int) : QBo (k + 2) (r.cut a n).1 := by
 unfold RDk.cut
 simp only []
 split
 ·exact h.same (by omega)
 ·split
  ·exact h.same (by omega)
  ·exact h.mw (by simp)
theorem QBo.rename (h : QBo k r) (a b : Byts) : QBo (k + 2) (r.rename a b).1 := by
 unfold RDk.rename
 split
 ·exact h.same (by omega)
 ·simp only []
  split
  ·exact h.same (by omega)
  ·split
   ·exact h.mw (by simp)
   ·exact h.mw (by simp)
theorem QBo.remove (h : QBo k r) (a : Byts) : QBo (k + 2) (r.remove a).1 := by
 unfold RDk.remove
 simp only []
 split
 ·exact h.same (by omega)
 ·exact h.mw (by simp)
theorem settR_bd {so : Nat → Stp → Bool} : ∀ {l : List Stp} {i n : Nat} {s : RSt}, RBd n s → (∀ x ∈ l, x.V) → ∃ m, RBd m (settR so i l s).1 ∧ m + (settR so i l s).2.length = n + l.length
  | [], i, n, s, h, _ => ⟨n, h, rfl⟩
  | x :: l, i, n, s, h, hv => by
    rw [settR]
    split
    · obtain ⟨m, h1, h2⟩ := settR_bd (so := so) (l := l) (i := i + 1) (h.does (hv x List.mem_cons_self)) fun y hy => hv y (List.mem_cons_of_mem _ hy)
      exact ⟨m, h1, by simp only [List.length_cons]; omega⟩
    · obtain ⟨m, h1, h2⟩ := settR_bd (so := so) (l := l) (i := i + 1) h fun y hy => hv y (List.mem_cons_of_mem _ hy)
      exact ⟨m, h1, by simp only [List.length_cons]; omega⟩
theorem QBo.settled (h : QBo k r) (hv : ∀ x ∈ r.steps,x.V) (f : Int) : QBo (k + 2) (r.settled f).1 := by
 unfold RDk.settled
 split
 ·exact h.op.same (by omega)
 ·obtain ⟨n,h1,h2⟩ := h.ex
  rw [← (op_same r).2.1] at h1
  obtain ⟨m,h3,h4⟩ := settR_bd (so := soR f (uptoR f 0 r.steps (-1))) (l := r.steps) (i := 0) h1 hv
  exact ⟨m,h3,by simp only []; omega⟩
theorem QBo.sync (h : QBo k r) (hv : ∀ x ∈ r.steps,x.V) (a : Byts) : QBo (k + 2) (r.sync a).1 := by
 unfold RDk.sync
 simp only []
 split
 ·exact h.same (by omega)
 ·exact h.settled hv _
theorem QBo.armed (h : QBo k r) (n : Int) : QBo (k + 2) (r.armed n).1 := by
 unfold RDk.armed
 split
 ·exact h.same (by omega)
 ·exact h.same (by omega)
theorem QBo.failing (h : QBo k r) (n e : Int) : QBo (k + 2) (r.failing n e).1 := by
 unfold RDk.failing
 split
 ·exact h.same (by omega)
 ·exact h.same (by omega)
theorem keepR_bd {keep : List Bool} : ∀ {l : List Stp} {i n : Nat} {s : RSt}, RBd n s → (∀ x ∈ l, x.V) → RBd (n + l.length) (keepR keep i l s)
  | [], i, n, s, h, _ => h
  | x :: l, i, n, s, h, hv => by
    rw [keepR]
    have hv' : ∀ y ∈ l, y.V := fun y hy => hv y (List.mem_cons_of_mem _ hy)
    have e : n + (x :: l).length = n + 1 + l.length := by simp only [List.length_cons]; omega
    rw [e]
    refine keepR_bd ?_ hv'
    split
    · exact h.does (hv x List.mem_cons_self)
    · exact ⟨by have := h.nm; omega, by have := h.fl; omega, h.sc⟩
theorem QBo.crash (h : QBo k r) (hv : ∀ x ∈ r.steps,x.V) (keep : List Bool) : QBo (k + 2) (r.crash keep) := by
 obtain ⟨n,h1,h2⟩ := h.ex
 have h3 := keepR_bd (keep := keep) (i := 0) h1 hv
 unfold RDk.crash
 refine ⟨n + r.steps.length,⟨h3.nm,?_,fun f => ?_⟩,by simp only [List.length_nil]; omega⟩
 ·have := List.length_filter_le (fun x : Int × List Byts => (keepR keep 0 r.steps r.safe).names.any fun n => decide (n.2 = x.1)) (keepR keep 0 r.steps r.safe).files
  have h4 := h3.fl
  show (heldR _).length ≤ _
  unfold heldR
  omega
 ·show (rsec (heldR _) f).length ≤ 4096
  rw [rsec_held]
  split
  ·exact h3.sc f
  ·simp
theorem QBo.none : QBo 0 RDk.none := ⟨0,⟨Nat.le_refl _,Nat.le_refl _,fun f => by simp [RDk.none,rsec]⟩,Nat.le_refl _⟩
structure PR (k : Nat) (d : Dsk) (r : RDk) : Prop where
 rr : RR k d r
 pb : QBo k r
theorem PR.none : PR 0 Dsk.none RDk.none := ⟨RR.none,QBo.none⟩
theorem PR.le (h : PR k d r) (hk : k ≤ k') : PR k' d r := ⟨h.rr.le hk,h.pb.same hk⟩
theorem PR.sv (h : PR k d r) (hv : d.V c) : ∀ x ∈ r.steps,x.V := fun x hx => hv.sv x (by rw [← h.rr.st]; exact hx)
theorem PR.db (h : PR k d r) (hv : d.V c) (hk : k < 1000) : ∃ n,DB n r := by
 obtain ⟨n,h1,h2⟩ := h.pb.ex
 exact ⟨n,h1,fun x hx => ⟨h.rr.gd x (by rw [← h.rr.st]; exact hx),h.sv hv x hx⟩,by omega⟩
theorem PR.put (h : PR k d r) (hk : k < 1000) (a : Byts) (at_ : Int) (data : Byts) : PR (k + 2) (d.put a at_ data).1 (r.put a at_ data).1 ∧ (r.put a at_ data).2 = (d.put a at_ data).2 := by
 obtain ⟨h1,h2⟩ := h.rr.put hk a at_ data
 exact ⟨⟨h1.le (by omega),h.pb.put _ _ _⟩,h2⟩
theorem PR.cut (h : PR k d r) (hk : k < 1000) (a : Byts) (n : Int) : PR (k + 2) (d.cut a n).1 (r.cut a n).1 ∧ (r.cut a n).2 = (d.cut a n).2 := by
 obtain ⟨h1,h2⟩ := h.rr.cut hk a n
 exact ⟨⟨h1.le (by omega),h.pb.cut _ _⟩,h2⟩
theorem PR.rename (h : PR k d r) (hk : k < 1000) (a b : Byts) : PR (k + 2) (d.rename a b).1 (r.rename a b).1 ∧ (r.rename a b).2 = (d.rename a b).2 := by
 obtain ⟨h1,h2⟩ := h.rr.rename hk a b
 exact ⟨⟨h1.le (by omega),h.pb.rename _ _⟩,h2⟩
theorem PR.remove (h : PR k d r) (hk : k < 1000) (a : Byts) : PR (k + 2) (d.remove a).1 (r.remove a).1 ∧ (r.remove a).2 = (d.remove a).2 := by
 obtain ⟨h1,h2⟩ := h.rr.remove hk a
 exact ⟨⟨h1.le (by omega),h.pb.remove _⟩,h2⟩
theorem PR.sync (h : PR k d r) (hv : d.V c) (hk : k < 1000) (a : Byts) : PR (k + 2) (d.sync a).1 (r.sync a).1 ∧ (r.sync a).2 = (d.sync a).2 := by
 obtain ⟨h1,h2⟩ := h.rr.sync hk a
 exact ⟨⟨h1.le (by omega),h.pb.sync (h.sv hv) _⟩,h2⟩
theorem PR.syncNames (h : PR k d r) (hv : d.V c) (hk : k < 1000) : PR (k + 2) d.syncNames.1 (r.settled 0).1 ∧ (r.settled 0).2 = d.syncNames.2 := by
 obtain ⟨h1,h2⟩ := h.rr.syncNames hk
 exact ⟨⟨h1.le (by omega),h.pb.settled (h.sv hv) _⟩,h2⟩
theorem PR.armed (h : PR k d r) {n : Int} (hn : n < 2 ^ 63) : PR (k + 2) (if n < 0 then (d,(2 : Int)) else ({ d with arm := wi (imin n 4611686018427387904 + 1) },0)).1 (r.armed n).1 ∧ (r.armed n).2 = (if n < 0 then (d,(2 : Int)) else ({ d with arm := wi (imin n 4611686018427387904 + 1) },0)).2 := by
 obtain ⟨h1,h2⟩ := h.rr.armed hn
 exact ⟨⟨h1.le (by omega),h.pb.armed _⟩,h2⟩
theorem PR.failing (h : PR k d r) {n e : Int} (hn : n < 2 ^ 63) : PR (k + 2) (if n < 0 ∨ (e ≠ 4 ∧ e ≠ 5) then (d,(2 : Int)) else ({ d with fault := wi (imin n 4611686018427387904 + 1),wth := e },0)).1 (r.failing n e).1 ∧ (r.failing n e).2 = (if n < 0 ∨ (e ≠ 4 ∧ e ≠ 5) then (d,(2 : Int)) else ({ d with fault := wi (imin n 4611686018427387904 + 1),wth := e },0)).2 := by
 obtain ⟨h1,h2⟩ := h.rr.failing (e := e) hn
 exact ⟨⟨h1.le (by omega),h.pb.failing _ _⟩,h2⟩
theorem PR.crash (h : PR k d r) (hv : d.V c) (keep : List Bool) : PR (k + 2) (d.crash keep) (r.crash keep) := ⟨(h.rr.crash keep).le (by omega),h.pb.crash (h.sv hv) _⟩
end
theorem boxBn {w : AW} {b n : Nat} {s : Byts} (h : Box w b (cellsOfBytes s)) (hl : s.length = n) : RsB w (.slice b 0 n n none) s := boxB h hl
theorem s12g {hk : Hook} {w : AW} {K : AV → AW → Prop} {b : UInt8} {more : Int} (hh : HK hk) (hm : Mem w) (hw : 0 < w.size) (hK : ∀ n w',n ≤ 200 → Fr w.size w w' → Box w' w.size (cellsOfBytes (List.replicate n b)) → n = (imax (imin (wi (64 + more)) 200) 0).toNat → K (.slice w.size 0 n n none) w') : Cl Try.prog hk 12 [.int .u8 b.toNat,.int .i64 more] w K := by
 apply in12 (hh.no _ _ _ (by decide) (by decide))
 unfold F12
 obtain ⟨n,hn,hn2⟩ : ∃ n : Nat,imax (imin (wi (64 + more)) 200) 0 = (n : Int) ∧ n ≤ 200 := by
  refine ⟨(imax (imin (wi (64 + more)) 200) 0).toNat,?_,?_⟩
  ·unfold imax imin; split <;> split <;> omega
  ·unfold imax imin; split <;> split <;> omega
 rw [hn] at hK ⊢
 refine onM_s (v := n) rfl (onM_s (v := n) rfl (gd_t (by rw [show Nat.ble n n = true from by rw [Nat.ble_eq]; exact Nat.le_refl _,show Nat.ble (n * 1) (2 ^ 47) = true from by rw [Nat.ble_eq]; omega,show Nat.blt n (2 ^ 63) = true from by rw [Nat.blt_eq]; omega]; rfl) (new_of hm fun w5 f5 b5 z5 => ?_)))
 rw [repl_eq] at b5
 refine loopP_ind (fun m l w8 => ∃ (i : Nat) (t : Byts),i ≤ n ∧ m = n - i ∧ l = [.int .i64 i] ∧ Fr w.size w w8 ∧ w.size < w8.size ∧ Box w8 w.size (cellsOfBytes t) ∧ t.length = n ∧ ∀ j,j < i → t[j]? = some b) ?_
  ⟨0,List.replicate n 0,Nat.zero_le _,rfl,rfl,f5,by omega,by rw [show cellsOfBytes (List.replicate n 0) = List.replicate n (.int .u8 0) by simp [cellsOfBytes]]; exact b5,by simp,fun j hj => by omega⟩
 rintro m l w8 ⟨i,t,hi,rfl,rfl,f8,z8,b8,htl,ht⟩ R ih
 refine ⟨_,rfl,fun _ => ⟨_,rfl,ifT_d (fun hc => ?_) fun hc => ?_⟩⟩
 ·have hin : i < n := by
   have hc : (i : Int) < ((n : Nat) : Int) := hc
   omega
  refine idx0 (by omega) (b8.put' f8.mem (by omega) (by rw [cellsOfBytes_length]; simp; omega) fun w13 c13 b13 z13 => ?_)
  rw [bytes_set _ _ _ (by omega)] at b13
  refine ih (n - (i + 1)) (by omega) _ _ ⟨i + 1,t.set i b,by omega,rfl,by rw [wi_eq (by omega) (by omega)]; rfl,f8.trans (c13.fr (n := w.size) (by omega) (by simp)) (Nat.le_refl _),by omega,b13,by simp [htl],fun j hj => ?_⟩
  rw [List.getElem?_set]
  by_cases hij : i = j
  ·subst hij; rw [if_pos rfl,if_pos (by omega)]
  ·rw [if_neg hij]; exact ht j (by omega)
 ·have hin : n ≤ i := by
   have hc : ¬ (i : Int) < ((n : Nat) : Int) := hc
   omega
  have e : t = List.replicate n b := by
   apply List.ext_getElem?
   intro j
   by_cases hj : j < n
   ·rw [ht j (by omega),List.getElem?_replicate,if_pos hj]
   ·rw [List.getElem?_eq_none (by omega),List.getElem?_eq_none (by simp; omega)]
  rw [e] at b8
  exact hK n _ hn2 f8 b8 rfl
end Go.Proofs.Ytbjeebgdjlemjaa
