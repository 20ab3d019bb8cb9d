/-
 What a node reads as; which nodes are right.
 No condition beyond those that each theorem names.
-/
import Derived.Test.YtghoifolghelnaaGreatMa
import Derived.Test.YtghoifolghelnaaGreatSxt
set_option linter.unusedSimpArgs false
open Go.Sx
set_option linter.unusedVariables false
set_option linter.unusedSimpArgs false
namespace Go.Proofs.YtghoifolghelnaaGreat
abbrev Byts := List UInt8
abbrev Ent := Int × Byts
def rE : Rp Ent := ⟨2,fun A w cs x => ∃ v,cs = [ii x.1,v] ∧ (rL rU).rd A w [v] x.2,fun ⟨v,h,_⟩ => by rw [h]; rfl,fun ⟨v,h,h2⟩ => by
 rw [h]
 have := h2.ok1
 simp only [List.all_cons,this]; rfl,fun e ⟨v,h,h2⟩ => ⟨v,h,h2.xa e⟩⟩
abbrev Rdg := Int × Int × Int
def rG : Rp Rdg := ⟨3,fun _ _ cs x => cs = [ii x.1,ii x.2.1,ii x.2.2],fun h => by rw [h]; rfl,fun h => by rw [h]; rfl,fun _ h => h⟩
structure Nd where
 id : Int
 size : Int
 role : Int
 term : Int
 vote : Int
 leads : Int
 base : Int
 bt : Int
 snap : Byts
 log : List Ent
 commit : Int
 votes : List Bool
 next : List Int
 mtch : List Int
 seen : List Int
 round : Int
 elapsed : Int
 timeout : Int
 reads : List Rdg
structure Sl where
 snap : AV
 log : AV
 votes : AV
 next : AV
 mtch : AV
 seen : AV
 reads : AV
abbrev ndC (n : Nd) (s : Sl) : List AV := [ii n.id,ii n.size,.int .u8 n.role,ii n.term,ii n.vote,ii n.leads,ii n.base,ii n.bt,s.snap,s.log,ii n.commit,s.votes,s.next,s.mtch,s.seen,ii n.round,ii n.elapsed,ii n.timeout,s.reads]
structure NR (A : Nat → Prop) (w : AW) (n : Nd) (s : Sl) : Prop where
 snap : (rL rU).rd A w [s.snap] n.snap
 log : (rL rE).rd A w [s.log] n.log
 votes : (rL rT).rd A w [s.votes] n.votes
 next : (rL rI).rd A w [s.next] n.next
 mtch : (rL rI).rd A w [s.mtch] n.mtch
 seen : (rL rI).rd A w [s.seen] n.seen
 reads : (rL rG).rd A w [s.reads] n.reads
section
variable {hk : Hook} {A A' B : Nat → Prop} {w w' : AW} {K : AV → AW → Prop} {n : Nd} {s : Sl} {v : AV}
theorem xa_fr (hm : Mem w) (hf : Fr w.size w w') : Xa A w A w' := ⟨fun c f all a b d => ⟨a,b,d.fr hm hf (Nat.le_refl _)⟩⟩
theorem NR.xa (h : NR A w n s) (e : Xa A w A' w') : NR A' w' n s := ⟨h.snap.xa e,h.log.xa e,h.votes.xa e,h.next.xa e,h.mtch.xa e,h.seen.xa e,h.reads.xa e⟩
theorem NR.fr (h : NR A w n s) (hm : Mem w) (hf : Fr w.size w w') : NR A w' n s := h.xa (xa_fr hm hf)
theorem NR.ok (h : NR A w n s) : (ndC n s).all okCell = true := by
 simp only [List.all_cons,h.snap.ok1,h.log.ok1,h.votes.ok1,h.next.ok1,h.mtch.ok1,h.seen.ok1,h.reads.ok1]; rfl
theorem ld_fr {b o : Nat} (h : ld w b o = some v) (hm : Mem w) (hf : Fr w.size w w') : ld w' b o = some v := by
  unfold ld at h ⊢
  cases hc : w.cells? b with
  | none => rw [hc] at h; cases h
  | some cs =>
    rw [hf.cells hm hc (Nat.le_refl _)]
    rw [hc] at h; exact h
structure NB (w : AW) (b : Nat) (n : Nd) (s : Sl) : Prop where
 mem : Mem w
 box : Box w b (ndC n s)
theorem NB.fr {b : Nat} (h : NB w b n s) (hf : Fr w.size w w') : NB w' b n s := ⟨hf.mem,h.box.fr hf (h.box.lt h.mem)⟩
theorem NB.ld {b o : Nat} (h : NB w b n s) (hv : (ndC n s)[o]? = some v) : Sx.ld w b o = some v := by rw [h.box.ld]; exact hv
theorem NB.ldN {b : Nat} (h : NB w b n s) : Sx.ldN 19 w b 0 = some (.agg (ndC n s)) := by rw [h.box.ldN (by simp)]; rfl
theorem nd_new {G : Nat → AW → Prop} (hm : Mem w) (h : NR A w n s) (hG : ∀ b w1,Fr w.size w w1 → NB w1 b n s → NR A w1 n s → G b w1) : gd (List.all (ndC n s) okCell) (new w (ndC n s) G) :=
 gd_t h.ok (new_of hm fun w1 f1 b1 _ => hG _ _ f1 ⟨f1.mem,b1⟩ (h.fr hm f1))
/-! ### Readings -/
theorem log_rse {l : List Ent} (h : (rL rE).rd A w [v] l) : RsE w v (l.map (·.1)) := by
 obtain ⟨all,h1,h2⟩ := h.rs
 refine ⟨all,by rw [List.length_map]; exact h1,fun i hi => ?_⟩
 rw [List.length_map] at hi
 have := h2.get i hi
 obtain ⟨u,e,_⟩ := this
 have e2 := congrArg (fun x => x[0]?) e
 have hsz : rE.sz = 2 := rfl
 rw [hsz] at e2
 rw [List.getElem?_take_of_lt (by omega),List.getElem?_drop] at e2
 rw [e2,List.getD_eq_getElem?_getD,List.getElem?_map,List.getElem?_eq_getElem hi]
 rfl
/-! ### within -/
theorem s81 {x low high : Int} {b3 b5 : Nat} (hh : HK hk) (h3 : Sx.ld w b3 0 = some (ii low)) (h5 : Sx.ld w b5 0 = some (ii high)) (hK : K (.bool (decide (x < low ∨ high < x))) w) : Cl Tryz.prog hk 81 [ii x,.ptr b3 0,.ptr b5 0] w K := by
 refine in81 (hh.no _ _ _ (by decide) (by decide)) ?_
 unfold F81
 refine ⟨_,h3,ifT_d (fun hc => ?_) fun hc => ⟨_,h5,?_⟩⟩
 ·rw [show decide (x < low ∨ high < x) = true by simp [hc]] at hK; exact hK
 ·rw [show decide (x < low ∨ high < x) = decide (high < x) by simp [hc]] at hK; exact hK
theorem s110 {l : List Int} {fv : AV} {p : Int → Bool} (hh : HK hk) (h : RsI w v l) (hs : l.length < 2 ^ 60) (hf : ∀ x ∈ l, ∀ (Q : AV → AW → Prop), Q (.bool (p x)) w → Cv Tryz.prog hk fv [ii x] w Q) (hK : ∀ i, (0 ≤ i ↔ ∃ x ∈ l, p x = true) → K (ii i) w) : Cl Tryz.prog hk 110 [v, fv] w K := by
  refine in110 (hh.no _ _ _ (by decide) (by decide)) ?_
  unfold F110
  refine ⟨_, h.len, ?_⟩
  refine loopP_ind (fun m lv w5 => w5 = w ∧ ∃ i : Nat, i ≤ l.length ∧ m = l.length - i ∧ lv = [ii i] ∧ ∀ x ∈ l.take i, p x = false) ?_ ⟨rfl, 0, Nat.zero_le _, rfl, rfl, by simp⟩
  rintro m lv w5 ⟨rfl, i, hi, rfl, rfl, hno⟩ R ih
  refine ⟨_, rfl, fun _ => ifT_d (fun hc => ?_) fun hc => hK _ ⟨fun h => by omega, fun ⟨x, hx, hp⟩ => ?_⟩⟩
  · have hil : i < l.length := by omega
    refine h.atN hil fun b o hld => ⟨_, hld, ?_⟩
    refine hf _ (List.getElem_mem hil) _ ⟨_, rfl, ?_⟩
    cases hp : p l[i] with
    | true => exact ifT_t (hK _ ⟨fun _ => ⟨_, List.getElem_mem hil, hp⟩, fun _ => by omega⟩)
    | false =>
      refine ifT_f (ih (l.length - (i + 1)) (by omega) _ _ ⟨rfl, i + 1, hil, rfl, by rw [wi_eq (by omega) (by omega)]; rfl, fun x hx => ?_⟩)
      rw [List.take_succ_eq_append_getElem hil] at hx
      rcases List.mem_append.1 hx with hx | hx
      · exact hno x hx
      · simp at hx; rw [hx]; exact hp
  · have : l.take i = l := List.take_of_length_le (by omega)
    rw [this] at hno
    rw [hno x hx] at hp; cases hp
theorem s80 {l : List Int} {fv : AV} {p : Int → Bool} (hh : HK hk) (h : RsI w v l) (hs : l.length < 2 ^ 60) (hf : ∀ x ∈ l,∀ (Q : AV → AW → Prop),Q (.bool (p x)) w → Cv Tryz.prog hk fv [ii x] w Q) (hK : ∀ b : Bool,(b = true ↔ ∃ x ∈ l,p x = true) → K (.bool b) w) : Cl Tryz.prog hk 80 [v,fv] w K := by
 refine in80 (hh.no _ _ _ (by decide) (by decide)) ?_
 unfold F80
 exact s110 hh h hs hf fun i hi => ⟨_,rfl,hK _ (by rw [decide_eq_true_eq]; exact hi)⟩
def Btw (low high : Int) (l : List Int) : Prop := ∀ x ∈ l,low ≤ x ∧ x ≤ high
theorem s37 {l : List Int} {low high : Int} (hh : HK hk) (hm : Mem w) (h : RsI w v l) (hs : l.length < 2 ^ 60) (hK : ∀ (b : Bool) w', Fr w.size w w' → (b = true ↔ Btw low high l) → K (.bool b) w') : Cl Tryz.prog hk 37 [ii low, ii high, v] w K := by
  refine in37 (hh.no _ _ _ (by decide) (by decide)) ?_
  unfold F37
  refine new_of hm fun w4 f4 b4 z4 => new_of f4.mem fun w6 f6 b6 z6 => ?_
  have f := f4.trans f6 f4.size
  have b4' := b4.fr f6 (by rw [z4]; omega)
  refine s80 (p := fun x => decide (x < low ∨ high < x)) hh (h.fr hm f (Nat.le_refl _)) hs (fun x _ Q hQ => ?_) fun b hb => ⟨_, rfl, hK _ _ f ?_⟩
  · exact s81 hh (by rw [b4'.ld]; rfl) (by rw [b6.ld]; rfl) hQ
  · cases b with
    | true =>
      simp only [Bool.not_true, Bool.false_eq_true, false_iff]
      obtain ⟨x, hx, hp⟩ := hb.1 rfl
      intro hB
      have := hB x hx
      simp only [decide_eq_true_eq] at hp
      omega
    | false =>
      simp only [Bool.not_false, true_iff]
      intro x hx
      have hn : ¬ (x < low ∨ high < x) := fun hp => by have := hb.2 ⟨x, hx, by simpa using hp⟩; cases this
      omega
theorem s82 {l : List Bool} {x : Bool} (hh : HK hk) (h : (rL rT).rd A w [v] l) (hs : l.length < 2 ^ 60) (hK : ∀ b : Bool, (b = true ↔ x ∈ l) → K (.bool b) w) : Cl Tryz.prog hk 82 [v, .bool x] w K := by
  refine in82 (hh.no _ _ _ (by decide) (by decide)) ?_
  unfold F82
  refine in111 (hh.no _ _ _ (by decide) (by decide)) ?_
  unfold F111
  refine ⟨_, h.len', ?_⟩
  refine loopP_ind (fun m lv w5 => w5 = w ∧ ∃ i : Nat, i ≤ l.length ∧ m = l.length - i ∧ lv = [ii i] ∧ x ∉ l.take i) ?_ ⟨rfl, 0, Nat.zero_le _, rfl, rfl, by simp⟩
  rintro m lv w5 ⟨rfl, i, hi, rfl, rfl, hno⟩ R ih
  refine ⟨_, rfl, fun _ => ifT_d (fun hc => ?_) fun hc => ⟨_, rfl, hK _ ?_⟩⟩
  · have hil : i < l.length := by omega
    refine h.at1 rfl hil fun b o a hr hld => ?_
    have e : [a] = [.bool l[i]] := hr
    cases e
    refine ⟨_, hld, ?_⟩
    cases hp : x == l[i] with
    | true => exact ifT_t ⟨_, rfl, hK _ ⟨fun _ => by rw [beq_iff_eq.1 hp]; exact List.getElem_mem hil, fun _ => by simp⟩⟩
    | false =>
      refine ifT_f (ih (l.length - (i + 1)) (by omega) _ _ ⟨rfl, i + 1, hil, rfl, by rw [wi_eq (by omega) (by omega)]; rfl, fun hx => ?_⟩)
      rw [List.take_succ_eq_append_getElem hil] at hx
      rcases List.mem_append.1 hx with hx | hx
      · exact hno hx
      · simp at hx; rw [hx] at hp; simp at hp
  · have : l.take i = l := List.take_of_length_le (by omega)
    rw [this] at hno
    simp [hno]
end
end Go.Proofs.YtghoifolghelnaaGreat
/-
 Which nodes are right.
 No condition beyond those that each theorem names.
-/
set_option linter.unusedSimpArgs false
open Go.Sx
set_option linter.unusedVariables false
set_option linter.unusedSimpArgs false
namespace Go.Proofs.YtghoifolghelnaaGreat
def risP : Int → Int → List Ent → Prop
 | low,high,[] => low ≤ high
 | low,high,e :: l => low ≤ e.1 ∧ e.2.length ≤ 60000 ∧ risP e.1 high l
theorem risP_le : ∀ {l : List Ent} {low high : Int},risP low high l → low ≤ high
 | [],_,_,h => h
 | e :: l,_,_,⟨h1,_,h3⟩ => by have := risP_le h3; omega
def rdsP : Int → Int → List Rdg → Prop
 | last,rd,[] => last ≤ rd
 | last,rd,r :: l => last < r.2.2 ∧ rdsP r.2.2 rd l
theorem rdsP_le : ∀ {l : List Rdg} {last rd : Int},rdsP last rd l → last ≤ rd
 | [],_,_,h => h
 | e :: l,_,_,⟨h1,h3⟩ => by have := rdsP_le h3; omega
def lastN (n : Nd) : Int := n.base + n.log.length
def NoneN (n : Nd) : Prop := Btw 0 0 n.next ∧ Btw 0 0 n.mtch ∧ Btw 0 0 n.seen ∧ n.round = 0 ∧ n.reads.length = 0
def RolesP (n : Nd) : Prop := (n.role = 1 ∧ NoneN n ∧ true ∉ n.votes) ∨ (n.role = 2 ∧ NoneN n ∧ n.votes.getD (n.id - 1).toNat false = true) ∨ (n.role = 3 ∧ true ∉ n.votes ∧ n.leads = n.id ∧ Btw 1 (lastN n + 1) n.next ∧ Btw 0 (lastN n) n.mtch ∧ Btw 0 n.round n.seen)
abbrev G40 : Int := 1099511627776
structure RightN (n : Nd) : Prop where
 size : 1 ≤ n.size ∧ n.size ≤ 9
 id : 1 ≤ n.id ∧ n.id ≤ n.size
 vote : 0 ≤ n.vote ∧ n.vote ≤ n.size
 leads : 0 ≤ n.leads ∧ n.leads ≤ n.size
 term : 0 ≤ n.term ∧ n.term ≤ G40
 base : 0 ≤ n.base ∧ n.base ≤ G40
 round : 0 ≤ n.round ∧ n.round ≤ G40
 elapsed : 0 ≤ n.elapsed ∧ n.elapsed ≤ G40
 timeout : 1 ≤ n.timeout ∧ n.timeout ≤ G40
 bt : 0 ≤ n.bt
 log : risP n.bt n.term n.log
 commit : n.base ≤ n.commit ∧ n.commit ≤ lastN n
 snap : n.snap.length ≤ 60000
 votes : (n.votes.length : Int) = n.size
 next : (n.next.length : Int) = n.size
 mtch : (n.mtch.length : Int) = n.size
 seen : (n.seen.length : Int) = n.size
 reads : rdsP 0 n.round n.reads ∧ n.reads.length ≤ 64
 roles : RolesP n
section
variable {hk : Hook} {A A' B : Nat → Prop} {w w' : AW} {K : AV → AW → Prop} {n : Nd} {s : Sl} {v : AV}
theorem box_rsI {b : Nat} {l : List Int} {k : Nat} (h : Box w b (l.map (AV.int .i64))) (hk : k = l.length) : RsI w (.slice b 0 k k none) l := by
 subst hk
 exact .inr ⟨b,0,_,none,_,rfl,h.cells,by rw [List.length_map]; omega,by rw [List.drop_zero,Nat.mul_one,List.take_of_length_le (by rw [List.length_map]; exact Nat.le_refl _)]⟩
theorem ent_at {l : List Ent} (h : (rL rE).rd A w [v] l) {i : Nat} (hi : i < l.length) {K : Nat → Nat → Prop} (hK : ∀ b o u,(rL rU).rd A w [u] l[i].2 → Sx.ld w b (o + 0) = some (ii l[i].1) → Sx.ld w b (o + 1) = some u → Sx.ldN 2 w b o = some (.agg [ii l[i].1,u]) → K b o) : atP (idxS 2 v (ii (i : Int))) K := by
 refine h.at hi fun b o cs hr hf hn => ?_
 obtain ⟨u,rfl,hu⟩ := hr
 exact hK b o u hu (hf 0 (by decide)) (hf 1 (by decide)) hn
theorem rdg_at {l : List Rdg} (h : (rL rG).rd A w [v] l) {i : Nat} (hi : i < l.length) {K : Nat → Nat → Prop} (hK : ∀ b o,Sx.ld w b (o + 0) = some (ii l[i].1) → Sx.ld w b (o + 1) = some (ii l[i].2.1) → Sx.ld w b (o + 2) = some (ii l[i].2.2) → Sx.ldN 3 w b o = some (.agg [ii l[i].1,ii l[i].2.1,ii l[i].2.2]) → K b o) : atP (idxS 3 v (ii (i : Int))) K := by
 refine h.at hi fun b o cs hr hf hn => ?_
 have hr : cs = [ii l[i].1,ii l[i].2.1,ii l[i].2.2] := hr
 subst hr
 exact hK b o (hf 0 (by decide)) (hf 1 (by decide)) (hf 2 (by decide)) hn
theorem s38 {l : List Ent} {low high : Int} (hh : HK hk) (hm : Mem w) (hw : 0 < w.size) (h : (rL rE).rd A w [v] l) (hs : l.length < 2 ^ 60) (hK : ∀ (b : Bool) w',Fr w.size w w' → (b = true ↔ risP low high l) → K (.bool b) w') : Cl Tryz.prog hk 38 [ii low,ii high,v] w K := by
 refine in38 (hh.no _ _ _ (by decide) (by decide)) ?_
 unfold F38
 refine ⟨_,h.len',?_⟩
 refine loopP_ind (fun m lv w5 => ∃ (i : Nat) (lo : Int),Fr w.size w w5 ∧ i ≤ l.length ∧ m = l.length - i ∧ lv = [ii lo,ii i] ∧ (risP low high l ↔ risP lo high (l.drop i))) ?_ ⟨0,low,Fr.refl hm,Nat.zero_le _,rfl,rfl,by simp⟩
 rintro m lv w5 ⟨i,lo,f5,hi,rfl,rfl,hiff⟩ R ih
 have h5 := h.xa (xa_fr hm f5)
 refine ⟨_,_,rfl,fun _ => ifT_d (fun hc => ?_) fun hc => ?_⟩
 ·have hil : i < l.length := by omega
  have hd : l.drop i = l[i] :: l.drop (i + 1) := List.drop_eq_getElem_cons hil
  rw [hd] at hiff
  refine ent_at h5 hil fun b o u hu _ _ hn => ⟨_,_,hn,?_⟩
  have pv5 : Pv (fun _ => True) w5 := ⟨f5.mem,by have := f5.size; omega,fun _ _ => trivial⟩
  refine pv5.st.new' fun b13 w14 st14 x14 => gd_t (by simp only [List.all_cons,hu.ok1]; rfl) (st14.put 0 rfl (by simp) fun w15 st15 x15 => ?_)
  have f15 : Fr w.size w w15 := f5.trans' st15.fr (Nat.le_refl _)
  refine ⟨_,st15.ld 0 rfl rfl,ifT_d (fun hc => hK _ _ f15 ⟨(fun h => by cases h),fun hr => ?_⟩) fun h1 => onM_s (st15.ld 0 rfl rfl) ?_⟩
  ·have := (hiff.1 hr).1; omega
  have hu15 := hu.xa (xa_fr f5.mem st15.fr)
  refine ⟨_,hu15.len',ifT_d (fun hc => hK _ _ f15 ⟨(fun h => by cases h),fun hr => ?_⟩) fun h2 => ⟨_,st15.ld 0 rfl rfl,?_⟩⟩
  ·have := (hiff.1 hr).2.1; omega
  refine ih (l.length - (i + 1)) (by omega) _ _ ⟨i + 1,l[i].1,f15,hil,rfl,by rw [wi_eq (by omega) (by omega)]; rfl,hiff.trans ⟨fun ⟨_,_,h⟩ => h,fun h => ⟨by omega,by omega,h⟩⟩⟩
 ·have : l.drop i = [] := List.drop_eq_nil_of_le (by omega)
  rw [this] at hiff
  exact hK _ _ f5 (by rw [decide_eq_true_eq]; exact hiff.symm)
theorem s36 (hh : HK hk) (hm : Mem w) (h : NR A w n s) (hb : 0 ≤ n.base) (hb2 : n.base < 2 ^ 41) (hs : n.log.length < 2 ^ 40) (hK : ∀ w',Fr w.size w w' → K (ii (lastN n)) w') : Cl Tryz.prog hk 36 [.agg (ndC n s)] w K := by
 refine in36 (hh.no _ _ _ (by decide) (by decide)) ?_
 unfold F36
 refine nd_new hm h fun b w1 f1 nb h1 => ⟨_,nb.ld rfl,onM_s (nb.ld rfl) (s79 hh (log_rse h1.log) hb hb2 (by simpa using hs) ⟨_,rfl,?_⟩)⟩
 have := hK w1 f1
 unfold lastN at this
 rw [List.length_map]; exact this
theorem s58 (hh : HK hk) (hm : Mem w) (h : NR A w n s) (hb : 0 ≤ n.base) (hb2 : n.base < 2 ^ 41) (hs : n.log.length < 2 ^ 40) (hK : ∀ w',Fr w.size w w' → K (ii (lastN n)) w') : Cl Tryz.prog hk 58 [.agg (ndC n s)] w K := by
 refine in58 (hh.no _ _ _ (by decide) (by decide)) ?_
 unfold F58
 refine nd_new hm h fun b w1 f1 nb h1 => ⟨_,nb.ld rfl,onM_s (nb.ld rfl) ⟨_,h1.log.len',?_⟩⟩
 rw [wi_eq (by omega) (by omega)]
 exact hK w1 f1
theorem s53 {i : Int} (hh : HK hk) (hm : Mem w) (h : NR A w n s) (hb : 0 ≤ n.base) (hb2 : n.base < 2 ^ 41) (hs : n.log.length < 2 ^ 40) (hK : ∀ w',Fr w.size w w' → K (.tup [ii (termAt n.base n.bt (n.log.map (·.1)) i).1,.bool (termAt n.base n.bt (n.log.map (·.1)) i).2]) w') : Cl Tryz.prog hk 53 [.agg (ndC n s),ii i] w K := by
 refine in53 (hh.no _ _ _ (by decide) (by decide)) ?_
 unfold F53
 refine nd_new hm h fun b w1 f1 nb h1 => ⟨_,nb.ld rfl,_,nb.ld rfl,onM_s (nb.ld rfl) (s97 hh (log_rse h1.log) hb hb2 (by simpa using hs) ⟨_,_,rfl,hK w1 f1⟩)⟩
theorem s64 {i : Int} (hh : HK hk) (hm : Mem w) (h : NR A w n s) (hb : 0 ≤ n.base) (hb2 : n.base < 2 ^ 41) (hs : n.log.length < 2 ^ 40) (hK : ∀ w',Fr w.size w w' → K (.tup [ii (termAt n.base n.bt (n.log.map (·.1)) i).1,.bool (termAt n.base n.bt (n.log.map (·.1)) i).2]) w') : Cl Tryz.prog hk 64 [.agg (ndC n s),ii i] w K := by
 refine in64 (hh.no _ _ _ (by decide) (by decide)) ?_
 unfold F64
 refine nd_new hm h fun b w1 f1 nb h1 => ⟨_,nb.ld rfl,_,nb.ld rfl,onM_s (nb.ld rfl) (s103 hh (log_rse h1.log) hb hb2 (by simpa using hs) ⟨_,_,rfl,hK w1 f1⟩)⟩
theorem s39 (hh : HK hk) (hm : Mem w) (hw : 0 < w.size) (h : NR A w n s) (hs : n.reads.length < 2 ^ 60) (hK : ∀ (b : Bool) w',Fr w.size w w' → (b = true ↔ (rdsP 0 n.round n.reads ∧ n.reads.length ≤ 64)) → K (.bool b) w') : Cl Tryz.prog hk 39 [.agg (ndC n s)] w K := by
 refine in39 (hh.no _ _ _ (by decide) (by decide)) ?_
 unfold F39
 refine nd_new hm h fun b w1 f1 nb h1 => onM_s (nb.ld rfl) ⟨_,h1.reads.len',?_⟩
 refine loopP_ind (fun m lv w5 => ∃ (i : Nat) (la : Int),Fr w1.size w1 w5 ∧ i ≤ n.reads.length ∧ m = n.reads.length - i ∧ lv = [ii la,ii i] ∧ (rdsP 0 n.round n.reads ↔ rdsP la n.round (n.reads.drop i))) ?_ ⟨0,0,Fr.refl f1.mem,Nat.zero_le _,rfl,rfl,by simp⟩
 rintro m lv w5 ⟨i,la,f5,hi,rfl,rfl,hiff⟩ R ih
 have h5 := h1.reads.xa (xa_fr f1.mem f5)
 have f05 := f1.trans' f5 (Nat.le_refl _)
 have nb5 := nb.fr f5
 refine ⟨_,_,rfl,fun _ => ifT_d (fun hc => ?_) fun hc => ?_⟩
 ·have hil : i < n.reads.length := by omega
  have hd : n.reads.drop i = n.reads[i] :: n.reads.drop (i + 1) := List.drop_eq_getElem_cons hil
  rw [hd] at hiff
  refine rdg_at h5 hil fun b o _ _ _ hn => ⟨_,_,_,hn,?_⟩
  have pv5 : Pv (fun _ => True) w5 := ⟨f5.mem,by have := f05.size; omega,fun _ _ => trivial⟩
  refine pv5.st.new' fun b13 w14 st14 x14 => st14.put 0 rfl (by simp) fun w15 st15 x15 => ?_
  have f15 := f5.trans' st15.fr (Nat.le_refl _)
  refine ⟨_,st15.ld 0 rfl rfl,ifT_d (fun hc => hK _ _ (f1.trans' f15 (Nat.le_refl _)) ⟨(fun h => by cases h),fun hr => ?_⟩) fun h1 => ⟨_,st15.ld 0 rfl rfl,?_⟩⟩
  ·have := (hiff.1 hr.1).1; omega
  refine ih (n.reads.length - (i + 1)) (by omega) _ _ ⟨i + 1,n.reads[i].2.2,f15,hil,rfl,by rw [wi_eq (by omega) (by omega)]; rfl,hiff.trans ⟨fun ⟨_,h⟩ => h,fun h => ⟨by omega,h⟩⟩⟩
 ·have : n.reads.drop i = [] := List.drop_eq_nil_of_le (by omega)
  rw [this] at hiff
  refine ⟨_,nb5.ld rfl,ifT_d (fun hc => onM_s (nb5.ld rfl) ⟨_,h5.len',hK _ _ f05 ?_⟩) fun hc => hK _ _ f05 ⟨(fun h => by cases h),fun hr => absurd (hiff.1 hr.1) hc⟩⟩
  rw [decide_eq_true_eq]
  exact ⟨fun h => ⟨hiff.2 hc,by omega⟩,fun h => by omega⟩
end
end Go.Proofs.YtghoifolghelnaaGreat
/-
 Which nodes are right: the program's Right.
 No condition beyond those that each theorem names.
-/
set_option linter.unusedSimpArgs false
open Go.Sx
set_option linter.unusedVariables false
set_option linter.unusedSimpArgs false
namespace Go.Proofs.YtghoifolghelnaaGreat
structure Sm (n : Nd) : Prop where
 snap : n.snap.length < 2 ^ 60
 log : n.log.length < 2 ^ 40
 votes : n.votes.length < 2 ^ 60
 next : n.next.length < 2 ^ 60
 mtch : n.mtch.length < 2 ^ 60
 seen : n.seen.length < 2 ^ 60
 reads : n.reads.length < 2 ^ 60
theorem rol1 {n : Nd} (h : n.role = 1) : RolesP n ↔ NoneN n ∧ true ∉ n.votes := by
 unfold RolesP; rw [h]; constructor
 ·rintro (⟨_,a,b⟩ | ⟨a,_⟩ | ⟨a,_⟩)
  ·exact ⟨a,b⟩
  ·cases a
  ·cases a
 ·exact fun h => .inl ⟨rfl,h.1,h.2⟩
theorem rol2 {n : Nd} (h : n.role = 2) : RolesP n ↔ NoneN n ∧ n.votes.getD (n.id - 1).toNat false = true := by
 unfold RolesP; rw [h]; constructor
 ·rintro (⟨a,_⟩ | ⟨_,a,b⟩ | ⟨a,_⟩)
  ·cases a
  ·exact ⟨a,b⟩
  ·cases a
 ·exact fun h => .inr (.inl ⟨rfl,h.1,h.2⟩)
theorem rol3 {n : Nd} (h : n.role = 3) : RolesP n ↔ true ∉ n.votes ∧ n.leads = n.id ∧ Btw 1 (lastN n + 1) n.next ∧ Btw 0 (lastN n) n.mtch ∧ Btw 0 n.round n.seen := by
 unfold RolesP; rw [h]; constructor
 ·rintro (⟨a,_⟩ | ⟨a,_⟩ | ⟨_,h⟩)
  ·cases a
  ·cases a
  ·exact h
 ·exact fun h => .inr (.inr ⟨rfl,h⟩)
theorem rol0 {n : Nd} (h1 : n.role ≠ 1) (h2 : n.role ≠ 2) (h3 : n.role ≠ 3) : ¬ RolesP n := by
 rintro (⟨a,_⟩ | ⟨a,_⟩ | ⟨a,_⟩)
 ·exact h1 a
 ·exact h2 a
 ·exact h3 a
section
variable {hk : Hook} {A A' B : Nat → Prop} {w w' : AW} {K : AV → AW → Prop} {n : Nd} {s : Sl} {v : AV}
theorem at_bool {l : List Bool} (h : (rL rT).rd A w [v] l) {i : Int} (h0 : 0 ≤ i) (hi : i < l.length) {K : Nat → Nat → Prop} (hK : ∀ b o,Sx.ld w b o = some (.bool (l.getD i.toNat false)) → K b o) : atP (idxS 1 v (ii i)) K := by
 obtain ⟨k,rfl⟩ := Int.eq_ofNat_of_zero_le h0
 have hk : k < l.length := by omega
 refine h.at1 rfl hk fun b o a hr hld => hK b o ?_
 have e : [a] = [.bool l[k]] := hr
 cases e
 rw [hld,Int.toNat_natCast,List.getD_eq_getElem?_getD,List.getElem?_eq_getElem hk]; rfl
theorem at_int {l : List Int} (h : (rL rI).rd A w [v] l) {i : Int} (h0 : 0 ≤ i) (hi : i < l.length) {K : Nat → Nat → Prop} (hK : ∀ b o,Sx.ld w b o = some (ii (l.getD i.toNat 0)) → K b o) : atP (idxS 1 v (ii i)) K := by
 obtain ⟨k,rfl⟩ := Int.eq_ofNat_of_zero_le h0
 have hk : k < l.length := by omega
 refine h.at1 rfl hk fun b o a hr hld => hK b o ?_
 have e : [a] = [ii l[k]] := hr
 cases e
 rw [hld,Int.toNat_natCast,List.getD_eq_getElem?_getD,List.getElem?_eq_getElem hk]; rfl
theorem s40 (hh : HK hk) (hm : Mem w) (h : NR A w n s) (sm : Sm n) (hb : 0 ≤ n.base) (hb2 : n.base ≤ G40) (hid : 1 ≤ n.id ∧ n.id ≤ n.votes.length) (hid2 : n.id ≤ 9) (hr : 0 ≤ n.round) (hK : ∀ (b : Bool) w', Fr w.size w w' → (b = true ↔ RolesP n) → K (.bool b) w') : Cl Tryz.prog hk 40 [.agg (ndC n s)] w K := by
  refine in40 (hh.no _ _ _ (by decide) (by decide)) ?_
  unfold F40
  refine nd_new hm h fun b w1 f1 nb h1 => ?_
  have hb2' : n.base < 2 ^ 41 := by have := hb2; unfold G40 at this; omega
  have sl := sm.log
  have fin : ∀ (b : Bool) w', Fr w1.size w1 w' → (b = true ↔ RolesP n) → K (.bool b) w' := fun b w' f hb => hK b w' (f1.trans' f (Nat.le_refl _)) hb
  refine join_of (fun l w' => ∃ nn : Bool, l = [.bool nn] ∧ Fr w1.size w1 w' ∧ (nn = true ↔ NoneN n)) ?_ fun J hJ => ?_
  · rintro l w2 ⟨nn, rfl, f2, hnn⟩
    have nb2 := nb.fr f2
    have h2 := h1.fr f1.mem f2
    refine ⟨_, rfl, fun _ => onM_s (nb2.ld rfl) (s82 hh h2.votes sm.votes fun c hc => ⟨_, rfl, _, nb2.ld rfl, ?_⟩)⟩
    refine ifT_d (fun r1 => ?_) fun r1 => ifT_d (fun r2 => ?_) fun r2 => ifT_d (fun r3 => ?_) fun r3 => ?_
    · cases nn with
      | true => exact ifT_t (fin _ _ f2 (by rw [rol1 r1, ← hc]; have := hnn.1 rfl; cases c <;> simp [this]))
      | false => exact ifT_f (fin _ _ f2 (by rw [rol1 r1]; simp only [Bool.false_eq_true, false_iff, not_and]; intro hx; exact absurd (hnn.2 hx) (by decide)))
    · cases nn with
      | true =>
        refine ifT_t (onM_s (nb2.ld rfl) ⟨_, nb2.ld rfl, ?_⟩)
        rw [wi_eq (by omega) (by omega)]
        exact at_bool h2.votes (by omega) (by omega) fun b o hld => ⟨_, hld, fin _ _ f2 (by rw [rol2 r2]; have := hnn.1 rfl; simp [this])⟩
      | false => exact ifT_f (fin _ _ f2 (by rw [rol2 r2]; simp only [Bool.false_eq_true, false_iff, not_and]; intro hx; exact absurd (hnn.2 hx) (by decide)))
    · cases c with
      | true => exact ifT_f (fin _ _ f2 (by rw [rol3 r3]; have := hc.1 rfl; simp [this]))
      | false =>
        have hv : true ∉ n.votes := fun hx => by have := hc.2 hx; cases this
        refine ifT_t ⟨_, nb2.ld rfl, _, nb2.ld rfl, ifT_d (fun hl => ?_) fun hl => fin _ _ f2 (by rw [rol3 r3]; simp [hl])⟩
        refine ⟨_, _, _, _, _, _, _, _, _, _, _, _, _, _, _, _, _, _, _, nb2.ldN, onM_s (nb2.ld rfl) (s36 hh f2.mem h2 hb hb2' sl fun w5 f5 => ⟨_, rfl, (nb2.fr f5).ld rfl, ?_⟩)⟩
        have g5 := f2.trans' f5 (Nat.le_refl _)
        have h5 := h2.fr f2.mem f5
        rw [wi_eq (by unfold lastN; omega) (by unfold lastN; omega)]
        refine s37 hh f5.mem h5.next.rsI sm.next fun c1 w6 f6 hc1 => ⟨_, rfl, ?_⟩
        have g6 := g5.trans' f6 (Nat.le_refl _)
        have h6 := h5.fr f5.mem f6
        have nb6 := nb.fr g6
        cases c1 with
        | false => exact ifT_f (fin _ _ g6 (by rw [rol3 r3]; simp only [Bool.false_eq_true, false_iff]; rintro ⟨_, _, hx, _⟩; exact absurd (hc1.2 hx) (by decide)))
        | true =>
          refine ifT_t ⟨_, _, _, _, _, _, _, _, _, _, _, _, _, _, _, _, _, _, _, nb6.ldN, onM_s (nb6.ld rfl) (s36 hh f6.mem h6 hb hb2' sl fun w7 f7 => ⟨_, rfl, (nb6.fr f7).ld rfl, ?_⟩)⟩
          have g7 := g6.trans' f7 (Nat.le_refl _)
          have h7 := h6.fr f6.mem f7
          refine s37 hh f7.mem h7.mtch.rsI sm.mtch fun c2 w8 f8 hc2 => ⟨_, rfl, ?_⟩
          have g8 := g7.trans' f8 (Nat.le_refl _)
          have h8 := h7.fr f7.mem f8
          have nb8 := nb.fr g8
          cases c2 with
          | false => exact ifT_f (fin _ _ g8 (by rw [rol3 r3]; simp only [Bool.false_eq_true, false_iff]; rintro ⟨_, _, _, hx, _⟩; exact absurd (hc2.2 hx) (by decide)))
          | true =>
            refine ifT_t ⟨_, nb8.ld rfl, onM_s (nb8.ld rfl) (s37 hh f8.mem h8.seen.rsI sm.seen fun c3 w9 f9 hc3 => ⟨_, rfl, fin _ _ (g8.trans' f9 (Nat.le_refl _)) ?_⟩)⟩
            rw [rol3 r3, hc3]
            exact ⟨fun hx => ⟨hv, hl, hc1.1 rfl, hc2.1 rfl, hx⟩, fun hx => hx.2.2.2.2⟩
    · exact fin _ _ f2 (by have := rol0 r1 r2 r3; simp [this])
  · refine onM_s (nb.ld rfl) (s37 hh f1.mem h1.next.rsI sm.next fun c1 w2 f2 hc1 => ⟨_, rfl, ?_⟩)
    have nb2 := nb.fr f2
    have h2 := h1.fr f1.mem f2
    cases c1 with
    | false => exact ifT_f (hJ _ _ ⟨_, rfl, f2, by simp only [Bool.false_eq_true, false_iff]; rintro ⟨hx, _⟩; exact absurd (hc1.2 hx) (by decide)⟩)
    | true =>
      refine ifT_t (onM_s (nb2.ld rfl) (s37 hh f2.mem h2.mtch.rsI sm.mtch fun c2 w3 f3 hc2 => ⟨_, rfl, ?_⟩))
      have g3 := f2.trans' f3 (Nat.le_refl _)
      have nb3 := nb.fr g3
      have h3 := h2.fr f2.mem f3
      cases c2 with
      | false => exact ifT_f (hJ _ _ ⟨_, rfl, g3, by simp only [Bool.false_eq_true, false_iff]; rintro ⟨_, hx, _⟩; exact absurd (hc2.2 hx) (by decide)⟩)
      | true =>
        refine ifT_t (onM_s (nb3.ld rfl) (s37 hh f3.mem h3.seen.rsI sm.seen fun c3 w4 f4 hc3 => ⟨_, rfl, ?_⟩))
        have g4 := g3.trans' f4 (Nat.le_refl _)
        have nb4 := nb.fr g4
        have h4 := h3.fr f3.mem f4
        cases c3 with
        | false => exact ifT_f (hJ _ _ ⟨_, rfl, g4, by simp only [Bool.false_eq_true, false_iff]; rintro ⟨_, _, hx, _⟩; exact absurd (hc3.2 hx) (by decide)⟩)
        | true =>
          refine ifT_t ⟨_, nb4.ld rfl, ifT_d (fun hz => onM_s (nb4.ld rfl) ⟨_, h4.reads.len', hJ _ _ ⟨_, rfl, g4, ?_⟩⟩) fun hz => hJ _ _ ⟨_, rfl, g4, ?_⟩⟩
          · rw [decide_eq_true_eq]
            exact ⟨fun hx => ⟨hc1.1 rfl, hc2.1 rfl, hc3.1 rfl, hz, by omega⟩, fun hx => by have := hx.2.2.2.2; omega⟩
          · simp only [Bool.false_eq_true, false_iff]; rintro ⟨_, _, _, hx, _⟩; exact hz hx
theorem btw1 {low high x : Int} : Btw low high [x] ↔ low ≤ x ∧ x ≤ high := by simp [Btw]
theorem btw2 {low high x y : Int} : Btw low high [x,y] ↔ (low ≤ x ∧ x ≤ high) ∧ (low ≤ y ∧ y ≤ high) := by simp [Btw]
theorem btw4 {low high x y z u : Int} : Btw low high [x,y,z,u] ↔ (low ≤ x ∧ x ≤ high) ∧ (low ≤ y ∧ y ≤ high) ∧ (low ≤ z ∧ z ≤ high) ∧ (low ≤ u ∧ u ≤ high) := by simp [Btw]
theorem s37n {l : List Int} {k : Nat} {low high : Int} (hh : HK hk) (hm : Mem w) (hl : l.length < 100) (hkl : k = l.length) {G : Nat → AW → Prop} (hK : ∀ b w1,Fr w.size w w1 → (∀ G : AV → AW → Prop,(∀ (c : Bool) w',Fr w.size w w' → (c = true ↔ Btw low high l) → G (.bool c) w') → Cl Tryz.prog hk 37 [ii low,ii high,.slice b 0 k k none] w1 G) → G b w1) : new w (l.map (AV.int .i64)) G :=
 new_of hm fun w1 f1 b1 z1 => hK _ _ f1 fun G hG => s37 hh f1.mem (box_rsI b1 hkl) (by omega) fun c w' f hc => hG c w' (f1.trans' f (Nat.le_refl _)) hc
set_option maxRecDepth 20000 in
theorem s8 (hh : HK hk) (hm : Mem w) (hw : 0 < w.size) (h : NR A w n s) (sm : Sm n) (hK : ∀ (b : Bool) w',Fr w.size w w' → (b = true ↔ RightN n) → K (.bool b) w') : Cl Tryz.prog hk 8 [.agg (ndC n s)] w K := by
 refine in8 (hh.no _ _ _ (by decide) (by decide)) ?_
 unfold F8
 refine nd_new hm h fun b w1 f1 nb h1 => ⟨_,nb.ld rfl,?_⟩
 have no : ∀ w',Fr w1.size w1 w' → ¬ RightN n → K (.bool false) w' := fun w' f hx => hK _ _ (f1.trans' f (Nat.le_refl _)) ⟨(fun h => by cases h),fun hr => absurd hr hx⟩
 refine s37n (l := [n.size]) hh f1.mem (by simp) rfl fun b2 w2 f2 hs2 => ⟨(nb.fr f2).ld rfl,hs2 _ fun c1 w3 g3 hc1 => ⟨_,rfl,?_⟩⟩
 rw [btw1] at hc1
 have nb3 := nb.fr g3
 cases c1 with
 | false => exact ifT_f (no _ g3 fun hr => absurd (hc1.2 hr.size) (by decide))
 | true =>
 have i1 := hc1.1 rfl
 refine ifT_t ⟨_,nb3.ld rfl,_,nb3.ld rfl,?_⟩
 refine s37n (l := [n.id]) hh g3.mem (by simp) rfl fun b4 w4 f4 hs4 => ⟨(nb3.fr f4).ld rfl,(nb3.fr f4).ld rfl,hs4 _ fun c2 w5 f5 hc2 => ⟨_,rfl,?_⟩⟩
 rw [btw1] at hc2
 have g5 := g3.trans' f5 (Nat.le_refl _)
 have nb5 := nb.fr g5
 cases c2 with
 | false => exact ifT_f (no _ g5 fun hr => absurd (hc2.2 hr.id) (by decide))
 | true =>
 have i2 := hc2.1 rfl
 refine ifT_t ⟨_,nb5.ld rfl,_,nb5.ld rfl,_,nb5.ld rfl,?_⟩
 refine s37n (l := [n.vote,n.leads]) hh g5.mem (by simp) rfl fun b6 w6 f6 hs6 => ⟨(nb5.fr f6).ld rfl,(nb5.fr f6).ld rfl,(nb5.fr f6).ld rfl,hs6 _ fun c3 w7 f7 hc3 => ⟨_,rfl,?_⟩⟩
 rw [btw2] at hc3
 have g7 := g5.trans' f7 (Nat.le_refl _)
 have nb7 := nb.fr g7
 cases c3 with
 | false => exact ifT_f (no _ g7 fun hr => absurd (hc3.2 ⟨hr.vote,hr.leads⟩) (by decide))
 | true =>
 have i3 := hc3.1 rfl
 refine ifT_t ⟨_,nb7.ld rfl,_,nb7.ld rfl,_,nb7.ld rfl,_,nb7.ld rfl,?_⟩
 refine s37n (l := [n.term,n.base,n.round,n.elapsed]) hh g7.mem (by simp) rfl fun b8 w8 f8 hs8 => ⟨(nb7.fr f8).ld rfl,(nb7.fr f8).ld rfl,(nb7.fr f8).ld rfl,(nb7.fr f8).ld rfl,hs8 _ fun c4 w9 f9 hc4 => ⟨_,rfl,?_⟩⟩
 rw [btw4] at hc4
 have g9 := g7.trans' f9 (Nat.le_refl _)
 have nb9 := nb.fr g9
 cases c4 with
 | false => exact ifT_f (no _ g9 fun hr => absurd (hc4.2 ⟨hr.term,hr.base,hr.round,hr.elapsed⟩) (by decide))
 | true =>
 have i4 := hc4.1 rfl
 refine ifT_t ⟨_,nb9.ld rfl,?_⟩
 refine s37n (l := [n.timeout]) hh g9.mem (by simp) rfl fun b10 w10 f10 hs10 => ⟨(nb9.fr f10).ld rfl,hs10 _ fun c5 w11 f11 hc5 => ⟨_,rfl,?_⟩⟩
 rw [btw1] at hc5
 have g11 := g9.trans' f11 (Nat.le_refl _)
 have nb11 := nb.fr g11
 cases c5 with
 | false => exact ifT_f (no _ g11 fun hr => absurd (hc5.2 hr.timeout) (by decide))
 | true =>
 have i5 := hc5.1 rfl
 have h11 := h1.fr f1.mem g11
 have hw1 := f1.size
 refine ifT_t ⟨_,nb11.ld rfl,ifT_d (fun i6 => ⟨_,nb11.ld rfl,_,nb11.ld rfl,onM_s (nb11.ld rfl) (s38 hh g11.mem (by have := g11.size; omega) h11.log (by have := sm.log; omega) fun c7 w12 f12 hc7 => ⟨_,rfl,?_⟩)⟩) fun i6 => no _ g11 fun hr => i6 hr.bt⟩
 have g12 := g11.trans' f12 (Nat.le_refl _)
 have nb12 := nb.fr g12
 have h12 := h1.fr f1.mem g12
 cases c7 with
 | false => exact ifT_f (no _ g12 fun hr => absurd (hc7.2 hr.log) (by decide))
 | true =>
 have i7 := hc7.1 rfl
 refine ifT_t ⟨_,nb12.ld rfl,_,_,_,_,_,_,_,_,_,_,_,_,_,_,_,_,_,_,_,nb12.ldN,_,nb12.ld rfl,?_⟩
 have hb2 : n.base < 2 ^ 41 := by have := i4.2.1.2; unfold G40 at this; omega
 have sl := sm.log
 refine new_of g12.mem fun w13 f13 b13 z13 => ?_
 have nb13 := nb12.fr f13
 have h13 := h12.fr g12.mem f13
 refine ⟨nb13.ld rfl,nb13.ldN,nb13.ld rfl,s36 hh f13.mem h13 i4.2.1.1 hb2 sl fun w14 f14 => ⟨_,rfl,(nb13.fr f14).ld rfl,(nb13.fr f14).ld rfl,?_⟩⟩
 have g14 := (g12.trans' f13 (Nat.le_refl _)).trans' f14 (Nat.le_refl _)
 refine s37 hh f14.mem (box_rsI (l := [n.commit]) ((show Box w13 _ _ from b13).fr f14 (by rw [z13]; omega)) rfl) (by simp) fun c8 w15 f15 hc8 => ⟨_,rfl,?_⟩
 rw [btw1] at hc8
 have g15 := g14.trans' f15 (Nat.le_refl _)
 have nb15 := nb.fr g15
 have h15 := h1.fr f1.mem g15
 cases c8 with
 | false => exact ifT_f (no _ g15 fun hr => absurd (hc8.2 hr.commit) (by decide))
 | true =>
 have i8 := hc8.1 rfl
 refine ifT_t (onM_s (nb15.ld rfl) ⟨_,h15.snap.len',ifT_d (fun i9 => ?_) fun i9 => no _ g15 fun hr => i9 (by have := hr.snap; omega)⟩)
 refine onM_s (nb15.ld rfl) ⟨_,h15.votes.len',_,nb15.ld rfl,ifT_d (fun i10 => ?_) fun i10 => no _ g15 fun hr => i10 hr.votes⟩
 refine onM_s (nb15.ld rfl) ⟨_,h15.next.len',_,nb15.ld rfl,ifT_d (fun i11 => ?_) fun i11 => no _ g15 fun hr => i11 hr.next⟩
 refine onM_s (nb15.ld rfl) ⟨_,h15.mtch.len',_,nb15.ld rfl,ifT_d (fun i12 => ?_) fun i12 => no _ g15 fun hr => i12 hr.mtch⟩
 refine onM_s (nb15.ld rfl) ⟨_,h15.seen.len',_,nb15.ld rfl,ifT_d (fun i13 => ?_) fun i13 => no _ g15 fun hr => i13 hr.seen⟩
 refine ⟨_,_,_,_,_,_,_,_,_,_,_,_,_,_,_,_,_,_,_,nb15.ldN,s39 hh g15.mem (by have := g15.size; omega) h15 sm.reads fun c9 w16 f16 hc9 => ⟨_,rfl,?_⟩⟩
 have g16 := g15.trans' f16 (Nat.le_refl _)
 have nb16 := nb.fr g16
 have h16 := h1.fr f1.mem g16
 cases c9 with
 | false => exact ifT_f (no _ g16 fun hr => absurd (hc9.2 hr.reads) (by decide))
 | true =>
 have i14 := hc9.1 rfl
 refine ifT_t ⟨_,_,_,_,_,_,_,_,_,_,_,_,_,_,_,_,_,_,_,nb16.ldN,s40 hh g16.mem h16 sm i4.2.1.1 i4.2.1.2 ⟨i2.1,by omega⟩ (by omega) i4.2.2.1.1 fun c10 w17 f17 hc10 => ⟨_,rfl,hK _ _ (f1.trans' (g16.trans' f17 (Nat.le_refl _)) (Nat.le_refl _)) ?_⟩⟩
 rw [hc10]
 exact ⟨fun hx => ⟨i1,i2,i3.1,i3.2,i4.1,i4.2.1,i4.2.2.1,i4.2.2.2,i5,i6,i7,i8,by omega,i10,i11,i12,i13,i14,hx⟩,fun hx => hx.roles⟩
end
end Go.Proofs.YtghoifolghelnaaGreat
/-
 Which nodes are right: the reference's Right.
 No condition beyond those that each theorem names.
-/
set_option linter.unusedSimpArgs false
open Go.Sx
set_option linter.unusedVariables false
set_option linter.unusedSimpArgs false
namespace Go.Proofs.YtghoifolghelnaaGreat
section
variable {hk : Hook} {A A' B : Nat → Prop} {w w' : AW} {K : AV → AW → Prop} {n : Nd} {s : Sl} {v : AV}
theorem s99 {l : List Ent} {low high : Int} (hh : HK hk) (h : (rL rE).rd A w [v] l) (hs : l.length < 2 ^ 60) (hK : ∀ (b : Bool),(b = true ↔ risP low high l) → K (.bool b) w) : Cl Tryz.prog hk 99 [ii low,ii high,v] w K := by
 refine in99 (hh.no _ _ _ (by decide) (by decide)) ?_
 unfold F99
 refine loopP_ind (fun m lv w5 => ∃ (i : Nat) (lo : Int),w5 = w ∧ i ≤ l.length ∧ m = l.length - i ∧ lv = [ii lo,ii i] ∧ (risP low high l ↔ risP lo high (l.drop i))) ?_ ⟨0,low,rfl,Nat.zero_le _,rfl,rfl,by simp⟩
 rintro m lv w5 ⟨i,lo,rfl,hi,rfl,rfl,hiff⟩ R ih
 refine ⟨_,_,rfl,fun _ => ⟨_,h.len',ifT_d (fun hc => ?_) fun hc => ?_⟩⟩
 ·have hil : i < l.length := by omega
  have hd : l.drop i = l[i] :: l.drop (i + 1) := List.drop_eq_getElem_cons hil
  rw [hd] at hiff
  refine ent_at h hil fun b o u hu ho _ _ => ⟨_,ho,ifT_d (fun hc => hK _ ⟨(fun h => by cases h),fun hr => ?_⟩) fun h1 => ent_at h hil fun b o u hu ho _ _ => ⟨_,ho,ifT_d (fun hc => hK _ ⟨(fun h => by cases h),fun hr => ?_⟩) fun h2 => ent_at h hil fun b o u hu _ ho _ => onM_s ho ⟨_,hu.len',ifT_d (fun hc => hK _ ⟨(fun h => by cases h),fun hr => ?_⟩) fun h3 => ent_at h hil fun b o u hu ho _ _ => ⟨_,ho,?_⟩⟩⟩⟩
  ·have := (hiff.1 hr).1; omega
  ·have := risP_le (hiff.1 hr).2.2; omega
  ·have := (hiff.1 hr).2.1; omega
  ·exact ih (l.length - (i + 1)) (by omega) _ _ ⟨i + 1,l[i].1,rfl,hil,rfl,by rw [wi_eq (by omega) (by omega)]; rfl,hiff.trans ⟨fun ⟨_,_,h⟩ => h,fun h => ⟨by omega,by omega,h⟩⟩⟩
 ·have : l.drop i = [] := List.drop_eq_nil_of_le (by omega)
  rw [this] at hiff
  exact hK _ (by rw [decide_eq_true_eq]; exact hiff.symm)
theorem getD_mem {α : Type} {l : List α} {j : Nat} {d : α} (h : j < l.length) : l.getD j d ∈ l := by
 rw [List.getD_eq_getElem?_getD,List.getElem?_eq_getElem h]; exact List.getElem_mem h
theorem mem_getD {α : Type} {l : List α} {x d : α} (h : x ∈ l) : ∃ j,j < l.length ∧ l.getD j d = x := by
 obtain ⟨j,hj,e⟩ := List.getElem_of_mem h
 exact ⟨j,hj,by rw [List.getD_eq_getElem?_getD,List.getElem?_eq_getElem hj]; exact e⟩
def okJ (n : Nd) (j : Nat) : Prop := (n.role = 3 → (1 ≤ n.next.getD j 0 ∧ n.next.getD j 0 ≤ lastN n + 1) ∧ (0 ≤ n.mtch.getD j 0 ∧ n.mtch.getD j 0 ≤ lastN n) ∧ (0 ≤ n.seen.getD j 0 ∧ n.seen.getD j 0 ≤ n.round)) ∧ (n.role ≠ 3 → n.next.getD j 0 = 0 ∧ n.mtch.getD j 0 = 0 ∧ n.seen.getD j 0 = 0) ∧ (n.role ≠ 2 → n.votes.getD j false = false)
def c0 (n : Nd) : Prop := (n.role ≠ 3 → n.round = 0 ∧ n.reads.length = 0) ∧ (n.role = 3 → n.leads = n.id)
structure Ln (n : Nd) : Prop where
 votes : (n.votes.length : Int) = n.size
 next : (n.next.length : Int) = n.size
 mtch : (n.mtch.length : Int) = n.size
 seen : (n.seen.length : Int) = n.size
theorem vote_no {l : List Bool} {j : Nat} (h : true ∉ l) (hj : j < l.length) : l.getD j false = false := by
 cases e : l.getD j false with
 | false => rfl
 | true => exact absurd (e ▸ getD_mem hj) h
theorem roles_c0 {n : Nd} (h : RolesP n) : c0 n := by
 rcases h with ⟨r,h,_⟩ | ⟨r,h,_⟩ | ⟨r,_,h,_⟩
 ·exact ⟨fun _ => ⟨h.2.2.2.1,h.2.2.2.2⟩,fun e => by omega⟩
 ·exact ⟨fun _ => ⟨h.2.2.2.1,h.2.2.2.2⟩,fun e => by omega⟩
 ·exact ⟨fun e => absurd r e,fun _ => h⟩
theorem roles_j {n : Nd} (ln : Ln n) (h : RolesP n) {j : Nat} (hj : (j : Int) < n.size) : okJ n j := by
 obtain ⟨l1,l2,l3,l4⟩ := ln
 have z : NoneN n → n.next.getD j 0 = 0 ∧ n.mtch.getD j 0 = 0 ∧ n.seen.getD j 0 = 0 := fun ⟨a,b,c,_⟩ => by
  have := a _ (getD_mem (d := 0) (j := j) (by omega))
  have := b _ (getD_mem (d := 0) (j := j) (by omega))
  have := c _ (getD_mem (d := 0) (j := j) (by omega))
  omega
 rcases h with ⟨r,h,v⟩ | ⟨r,h,v⟩ | ⟨r,v,h,a,b,c⟩
 ·exact ⟨fun e => by omega,fun _ => z h,fun _ => vote_no v (by omega)⟩
 ·exact ⟨fun e => by omega,fun _ => z h,fun e => absurd r e⟩
 ·exact ⟨fun _ => ⟨a _ (getD_mem (by omega)),b _ (getD_mem (by omega)),c _ (getD_mem (by omega))⟩,fun e => absurd r e,fun _ => vote_no v (by omega)⟩
theorem roles_of {n : Nd} (ln : Ln n) (hr : 1 ≤ n.role ∧ n.role ≤ 3) (h0 : c0 n) (hj : ∀ j : Nat,(j : Int) < n.size → okJ n j) (hv : n.role = 2 → n.votes.getD (n.id - 1).toNat false = true) : RolesP n := by
 obtain ⟨l1,l2,l3,l4⟩ := ln
 have hno : n.role ≠ 2 → true ∉ n.votes := fun e hx => by
  obtain ⟨j,h1,h2⟩ := mem_getD (d := false) hx
  have := (hj j (by omega)).2.2 e
  rw [h2] at this; cases this
 have hnone : n.role ≠ 3 → NoneN n := fun e => ⟨fun x hx => by obtain ⟨j,h1,h2⟩ := mem_getD (d := 0) hx; have := (hj j (by omega)).2.1 e; omega,fun x hx => by obtain ⟨j,h1,h2⟩ := mem_getD (d := 0) hx; have := (hj j (by omega)).2.1 e; omega,fun x hx => by obtain ⟨j,h1,h2⟩ := mem_getD (d := 0) hx; have := (hj j (by omega)).2.1 e; omega,h0.1 e⟩
 rcases (show n.role = 1 ∨ n.role = 2 ∨ n.role = 3 by omega) with e | e | e
 ·exact .inl ⟨e,hnone (by omega),hno (by omega)⟩
 ·exact .inr (.inl ⟨e,hnone (by omega),hv e⟩)
 ·exact .inr (.inr ⟨e,hno (by omega),h0.2 e,fun x hx => by obtain ⟨j,h1,h2⟩ := mem_getD (d := 0) hx; have := (hj j (by omega)).1 e; omega,fun x hx => by obtain ⟨j,h1,h2⟩ := mem_getD (d := 0) hx; have := (hj j (by omega)).1 e; omega,fun x hx => by obtain ⟨j,h1,h2⟩ := mem_getD (d := 0) hx; have := (hj j (by omega)).1 e; omega⟩)
theorem s100 (hh : HK hk) (hm : Mem w) (h : NR A w n s) (ln : Ln n) (sl : n.log.length < 2 ^ 40) (hsz : 1 ≤ n.size ∧ n.size ≤ 9) (hb : 0 ≤ n.base) (hb2 : n.base ≤ G40) (hid : 1 ≤ n.id ∧ n.id ≤ n.size) (hr : 1 ≤ n.role ∧ n.role ≤ 3) (hK : ∀ (b : Bool) w',Fr w.size w w' → (b = true ↔ RolesP n) → K (.bool b) w') : Cl Tryz.prog hk 100 [.agg (ndC n s)] w K := by
 refine in100 (hh.no _ _ _ (by decide) (by decide)) ?_
 unfold F100
 refine nd_new hm h fun b w1 f1 nb h1 => ?_
 have hb2' : n.base < 2 ^ 41 := by have := hb2; unfold G40 at this; omega
 obtain ⟨l1,l2,l3,l4⟩ := id ln
 have fin : ∀ (b : Bool) w',Fr w1.size w1 w' → (b = true ↔ RolesP n) → K (.bool b) w' := fun b w' f hb => hK b w' (f1.trans' f (Nat.le_refl _)) hb
 have no : ∀ w',Fr w1.size w1 w' → ¬ RolesP n → K (.bool false) w' := fun w' f hx => fin _ _ f ⟨(fun h => by cases h),fun hr => absurd hr hx⟩
 have r0 := Fr.refl (n := w1.size) f1.mem
 refine join_of (fun l w' => l = [] ∧ w' = w1 ∧ c0 n) ?_ fun J hJ => ?_
 ·rintro l w2 ⟨rfl,rfl,hc0⟩
  refine ⟨rfl,fun _ => ?_⟩
  refine loopP_ind (fun m lv w5 => ∃ i : Nat,Fr w2.size w2 w5 ∧ (i : Int) ≤ n.size ∧ m = n.size.toNat - i ∧ lv = [ii i] ∧ ∀ j < i,okJ n j) ?_ ⟨0,r0,by omega,rfl,rfl,fun j hj => by omega⟩
  rintro m lv w5 ⟨i,f5,hi,rfl,rfl,hok⟩ R ih
  have nb5 := nb.fr f5
  have h5 := h1.fr f1.mem f5
  refine ⟨_,rfl,fun _ => ⟨_,nb5.ld rfl,ifT_d (fun hc => ?_) fun hc => ?_⟩⟩
  ·have next : ∀ w',Fr w2.size w2 w' → okJ n i → R [ii (wi ((i : Int) + 1))] w' := fun w' f hx => ih (n.size.toNat - (i + 1)) (by omega) _ _ ⟨i + 1,f,by omega,rfl,by rw [wi_eq (by omega) (by omega)]; rfl,fun j hj => by
    rcases (show j < i ∨ j = i by omega) with hj | rfl
    ·exact hok j hj
    ·exact hx⟩
   have noJ : ∀ w',Fr w2.size w2 w' → ¬ okJ n i → K (.bool false) w' := fun w' f hx => no w' f fun hr => hx (roles_j ln hr hc)
   refine join_of (fun l w' => l = [] ∧ Fr w2.size w2 w' ∧ (n.role = 3 → (1 ≤ n.next.getD i 0 ∧ n.next.getD i 0 ≤ lastN n + 1) ∧ (0 ≤ n.mtch.getD i 0 ∧ n.mtch.getD i 0 ≤ lastN n) ∧ (0 ≤ n.seen.getD i 0 ∧ n.seen.getD i 0 ≤ n.round)) ∧ (n.role ≠ 3 → n.next.getD i 0 = 0 ∧ n.mtch.getD i 0 = 0 ∧ n.seen.getD i 0 = 0)) ?_ fun J2 hJ2 => ?_
   ·rintro l w6 ⟨rfl,f6,ha,hb⟩
    have nb6 := nb.fr f6
    have h6 := h1.fr f1.mem f6
    refine ⟨rfl,fun _ => ⟨_,nb6.ld rfl,ifT_nd (fun r2 => ?_) fun r2 => next _ f6 ⟨ha,hb,fun e => absurd r2 e⟩⟩⟩
    refine onM_s (nb6.ld rfl) (at_bool h6.votes (by omega) (by omega) fun b o hld => ⟨_,hld,?_⟩)
    rw [Int.toNat_natCast]
    cases hv : n.votes.getD i false with
    | true => exact ifT_t (noJ _ f6 fun hx => by have := hx.2.2 r2; rw [hv] at this; cases this)
    | false => exact ifT_f (next _ f6 ⟨ha,hb,fun _ => hv⟩)
   ·refine ⟨_,nb5.ld rfl,ifT_d (fun r3 => ?_) fun r3 => ?_⟩
    ·refine onM_s (nb5.ld rfl) (at_int h5.next (by omega) (by omega) fun b o hld => ⟨_,hld,?_⟩)
     rw [Int.toNat_natCast]
     refine ifT_d (fun hx => noJ _ f5 fun hj => by have := (hj.1 r3).1; omega) fun x1 => onM_s (nb5.ld rfl) (at_int h5.next (by omega) (by omega) fun b o hld => ⟨_,hld,?_⟩)
     refine ⟨_,_,_,_,_,_,_,_,_,_,_,_,_,_,_,_,_,_,_,nb5.ldN,s58 hh f5.mem h5 hb hb2' sl fun w7 f7 => ⟨_,rfl,ld_fr hld f5.mem f7,(nb5.fr f7).ld rfl,?_⟩⟩
     have g7 := f5.trans' f7 (Nat.le_refl _)
     have nb7 := nb.fr g7
     have h7 := h1.fr f1.mem g7
     rw [Int.toNat_natCast,wi_eq (by unfold lastN; omega) (by unfold lastN; omega)]
     refine ifT_d (fun hx => noJ _ g7 fun hj => by have := (hj.1 r3).1; omega) fun x2 => onM_s (nb7.ld rfl) (at_int h7.mtch (by omega) (by omega) fun b o hld => ⟨_,hld,?_⟩)
     rw [Int.toNat_natCast]
     refine ifT_d (fun hx => noJ _ g7 fun hj => by have := (hj.1 r3).2.1; omega) fun x3 => onM_s (nb7.ld rfl) (at_int h7.mtch (by omega) (by omega) fun b o hld => ⟨_,hld,?_⟩)
     refine ⟨_,_,_,_,_,_,_,_,_,_,_,_,_,_,_,_,_,_,_,nb7.ldN,s58 hh g7.mem h7 hb hb2' sl fun w8 f8 => ⟨_,rfl,ld_fr hld g7.mem f8,(nb7.fr f8).ld rfl,?_⟩⟩
     have g8 := g7.trans' f8 (Nat.le_refl _)
     have nb8 := nb.fr g8
     have h8 := h1.fr f1.mem g8
     rw [Int.toNat_natCast]
     refine ifT_d (fun hx => noJ _ g8 fun hj => by have := (hj.1 r3).2.1; omega) fun x4 => onM_s (nb8.ld rfl) (at_int h8.seen (by omega) (by omega) fun b o hld => ⟨_,hld,?_⟩)
     rw [Int.toNat_natCast]
     refine ifT_d (fun hx => noJ _ g8 fun hj => by have := (hj.1 r3).2.2; omega) fun x5 => onM_s (nb8.ld rfl) (at_int h8.seen (by omega) (by omega) fun b o hld => ⟨_,hld,_,nb8.ld rfl,?_⟩)
     rw [Int.toNat_natCast]
     refine ifT_d (fun hx => noJ _ g8 fun hj => by have := (hj.1 r3).2.2; omega) fun x6 => hJ2 _ _ ⟨rfl,g8,fun _ => ⟨⟨by omega,by omega⟩,⟨by omega,by omega⟩,⟨by omega,by omega⟩⟩,fun e => absurd r3 e⟩
    ·refine onM_s (nb5.ld rfl) (at_int h5.next (by omega) (by omega) fun b o hld => ⟨_,hld,?_⟩)
     rw [Int.toNat_natCast]
     refine ifT_nd (fun hx => noJ _ f5 fun hj => hx (hj.2.1 r3).1) fun x1 => onM_s (nb5.ld rfl) (at_int h5.mtch (by omega) (by omega) fun b o hld => ⟨_,hld,?_⟩)
     rw [Int.toNat_natCast]
     refine ifT_nd (fun hx => noJ _ f5 fun hj => hx (hj.2.1 r3).2.1) fun x2 => onM_s (nb5.ld rfl) (at_int h5.seen (by omega) (by omega) fun b o hld => ⟨_,hld,?_⟩)
     rw [Int.toNat_natCast]
     exact ifT_nd (fun hx => noJ _ f5 fun hj => hx (hj.2.1 r3).2.2) fun x3 => hJ2 _ _ ⟨rfl,f5,fun e => absurd e r3,fun _ => ⟨x1,x2,x3⟩⟩
  ·have hall : ∀ j : Nat,(j : Int) < n.size → okJ n j := fun j hj => hok j (by omega)
   refine ⟨_,nb5.ld rfl,ifT_nd (fun r2 => fin _ _ f5 ⟨fun _ => roles_of ln hr hc0 hall fun e => absurd e r2,fun _ => rfl⟩) fun r2 => onM_s (nb5.ld rfl) ⟨_,nb5.ld rfl,?_⟩⟩
   rw [wi_eq (by omega) (by omega)]
   refine at_bool h5.votes (by omega) (by omega) fun b o hld => ⟨_,hld,fin _ _ f5 ⟨fun e => roles_of ln hr hc0 hall fun _ => e,fun hr => ?_⟩⟩
   exact ((rol2 r2).1 hr).2
 ·refine ⟨_,nb.ld rfl,ifT_nd (fun r3 => ?_) fun r3 => ?_⟩
  ·refine ⟨_,nb.ld rfl,ifT_nd (fun hx => no _ r0 fun hr => hx ((roles_c0 hr).1 r3).1) fun x1 => onM_s (nb.ld rfl) ⟨_,h1.reads.len',ifT_nd (fun hx => no _ r0 fun hr => hx (by have := ((roles_c0 hr).1 r3).2; omega)) fun x2 => ⟨_,nb.ld rfl,ifT_d (fun e => absurd e r3) fun _ => hJ _ _ ⟨rfl,rfl,fun _ => ⟨x1,by omega⟩,fun e => absurd e r3⟩⟩⟩⟩
  ·exact ⟨_,nb.ld rfl,ifT_d (fun _ => ⟨_,nb.ld rfl,_,nb.ld rfl,ifT_nd (fun hx => no _ r0 fun hr => hx ((roles_c0 hr).2 r3)) fun x1 => hJ _ _ ⟨rfl,rfl,fun e => absurd r3 e,fun _ => x1⟩⟩) fun e => absurd r3 e⟩
theorem rds_pos {l : List Rdg} {rd : Int} {m : Nat} (hok : ∀ j : Nat, j < m → (h : j < l.length) → (if j = 0 then 0 else (l.getD (j - 1) (0, 0, 0)).2.2) < l[j].2.2 ∧ l[j].2.2 ≤ rd) : ∀ k : Nat, k < m → k < l.length → 0 ≤ (if k = 0 then 0 else (l.getD (k - 1) (0, 0, 0)).2.2)
  | 0, _, _ => by simp
  | k + 1, h1, h2 => by
    have ih := rds_pos hok k (by omega) (by omega)
    have := (hok k (by omega) (by omega)).1
    rw [if_neg (by omega), Nat.add_sub_cancel, List.getD_eq_getElem?_getD, List.getElem?_eq_getElem (by omega)]
    show 0 ≤ l[k].2.2
    omega
theorem rds_iff {n : Nd} : (rdsP 0 n.round n.reads ↔ 0 ≤ n.round ∧ ∀ i : Nat, (h : i < n.reads.length) → (if i = 0 then 0 else (n.reads.getD (i - 1) (0, 0, 0)).2.2) < n.reads[i].2.2 ∧ n.reads[i].2.2 ≤ n.round) := by
  have key : ∀ (l : List Rdg) (last rd : Int), (rdsP last rd l ↔ last ≤ rd ∧ ∀ i : Nat, (h : i < l.length) → (if i = 0 then last else (l.getD (i - 1) (0, 0, 0)).2.2) < l[i].2.2 ∧ l[i].2.2 ≤ rd) := by
    intro l
    induction l with
    | nil => intro last rd; simp [rdsP]
    | cons r l ih =>
      intro last rd
      have h1 := ih r.2.2 rd
      constructor
      · rintro ⟨a, b⟩
        have hb := rdsP_le b
        refine ⟨by omega, fun i hi => ?_⟩
        cases i with
        | zero => exact ⟨a, hb⟩
        | succ i =>
          have := (h1.1 b).2 i (by simpa using hi)
          cases i with
          | zero => simpa using this
          | succ i => simpa using this
      · rintro ⟨a, b⟩
        refine ⟨(b 0 (by simp)).1, h1.2 ⟨(b 0 (by simp)).2, fun i hi => ?_⟩⟩
        have := b (i + 1) (by simpa using hi)
        cases i with
        | zero => simpa using this
        | succ i => simpa using this
  exact key _ _ _
theorem roles_r {n : Nd} (h : RolesP n) : 1 ≤ n.role ∧ n.role ≤ 3 := by
 rcases h with ⟨r,_⟩ | ⟨r,_⟩ | ⟨r,_⟩ <;> omega
set_option maxRecDepth 20000 in
theorem s56 (hh : HK hk) (hm : Mem w) (h : NR A w n s) (sm : Sm n) (hK : ∀ (b : Bool) w',Fr w.size w w' → (b = true ↔ RightN n) → K (.bool b) w') : Cl Tryz.prog hk 56 [.agg (ndC n s)] w K := by
 refine in56 (hh.no _ _ _ (by decide) (by decide)) ?_
 unfold F56
 refine nd_new hm h fun b w1 f1 nb h1 => ⟨_,nb.ld rfl,?_⟩
 have no : ∀ w',Fr w1.size w1 w' → ¬ RightN n → K (.bool false) w' := fun w' f hx => hK _ _ (f1.trans' f (Nat.le_refl _)) ⟨(fun h => by cases h),fun hr => absurd hr hx⟩
 have r0 := Fr.refl (n := w1.size) f1.mem
 have sl := sm.log
 refine ifT_d (fun hx => no _ r0 fun hr => by have := hr.size; omega) fun i1 => ⟨_,nb.ld rfl,?_⟩
 refine ifT_d (fun hx => no _ r0 fun hr => by have := hr.size; omega) fun i2 => ⟨_,nb.ld rfl,?_⟩
 refine ifT_d (fun hx => no _ r0 fun hr => by have := hr.id; omega) fun i3 => ⟨_,nb.ld rfl,_,nb.ld rfl,?_⟩
 refine ifT_d (fun hx => no _ r0 fun hr => by have := hr.id; omega) fun i4 => ⟨_,nb.ld rfl,?_⟩
 refine ifT_d (fun hx => no _ r0 fun hr => by have := roles_r hr.roles; omega) fun i5 => ⟨_,nb.ld rfl,?_⟩
 refine ifT_d (fun hx => no _ r0 fun hr => by have := roles_r hr.roles; omega) fun i6 => ⟨_,nb.ld rfl,?_⟩
 refine ifT_d (fun hx => no _ r0 fun hr => by have := hr.term; omega) fun i7 => ⟨_,nb.ld rfl,?_⟩
 refine ifT_d (fun hx => no _ r0 fun hr => by have := hr.term.2; unfold G40 at this; omega) fun i8 => ⟨_,nb.ld rfl,?_⟩
 refine ifT_d (fun hx => no _ r0 fun hr => by have := hr.vote; omega) fun i9 => ⟨_,nb.ld rfl,_,nb.ld rfl,?_⟩
 refine ifT_d (fun hx => no _ r0 fun hr => by have := hr.vote; omega) fun i10 => ⟨_,nb.ld rfl,?_⟩
 refine ifT_d (fun hx => no _ r0 fun hr => by have := hr.leads; omega) fun i11 => ⟨_,nb.ld rfl,_,nb.ld rfl,?_⟩
 refine ifT_d (fun hx => no _ r0 fun hr => by have := hr.leads; omega) fun i12 => ⟨_,nb.ld rfl,?_⟩
 refine ifT_d (fun hx => no _ r0 fun hr => by have := hr.base; omega) fun i13 => ⟨_,nb.ld rfl,?_⟩
 refine ifT_d (fun hx => no _ r0 fun hr => by have := hr.base.2; unfold G40 at this; omega) fun i14 => ⟨_,nb.ld rfl,?_⟩
 refine ifT_d (fun hx => no _ r0 fun hr => by have := hr.bt; omega) fun i15 => ⟨_,nb.ld rfl,_,nb.ld rfl,onM_s (nb.ld rfl) ?_⟩
 refine s99 hh h1.log (by omega) fun c1 hc1 => ⟨_,rfl,?_⟩
 cases c1 with
 | false => exact ifT_t (no _ r0 fun hr => absurd (hc1.2 hr.log) (by decide))
 | true =>
 have i16 := hc1.1 rfl
 refine ifT_f ⟨_,nb.ld rfl,_,nb.ld rfl,?_⟩
 refine ifT_d (fun hx => no _ r0 fun hr => by have := hr.commit; omega) fun i17 => ⟨_,nb.ld rfl,?_⟩
 refine ⟨_,_,_,_,_,_,_,_,_,_,_,_,_,_,_,_,_,_,_,nb.ldN,s58 hh f1.mem h1 (by omega) (by omega) sl fun w2 f2 => ⟨_,rfl,(nb.fr f2).ld rfl,?_⟩⟩
 have nb2 := nb.fr f2
 have h2 := h1.fr f1.mem f2
 refine ifT_d (fun hx => no _ f2 fun hr => by have := hr.commit; omega) fun i18 => onM_s (nb2.ld rfl) ⟨_,h2.snap.len',?_⟩
 refine ifT_d (fun hx => no _ f2 fun hr => by have := hr.snap; omega) fun i19 => ⟨_,nb2.ld rfl,?_⟩
 refine ifT_d (fun hx => no _ f2 fun hr => by have := hr.elapsed; omega) fun i20 => ⟨_,nb2.ld rfl,?_⟩
 refine ifT_d (fun hx => no _ f2 fun hr => by have := hr.elapsed.2; unfold G40 at this; omega) fun i21 => ⟨_,nb2.ld rfl,?_⟩
 refine ifT_d (fun hx => no _ f2 fun hr => by have := hr.timeout; omega) fun i22 => ⟨_,nb2.ld rfl,?_⟩
 refine ifT_d (fun hx => no _ f2 fun hr => by have := hr.timeout.2; unfold G40 at this; omega) fun i23 => ⟨_,nb2.ld rfl,?_⟩
 refine ifT_d (fun hx => no _ f2 fun hr => by have := hr.round; omega) fun i24 => ⟨_,nb2.ld rfl,?_⟩
 refine ifT_d (fun hx => no _ f2 fun hr => by have := hr.round.2; unfold G40 at this; omega) fun i25 => onM_s (nb2.ld rfl) ⟨_,h2.reads.len',?_⟩
 refine ifT_d (fun hx => no _ f2 fun hr => by have := hr.reads.2; omega) fun i26 => onM_s (nb2.ld rfl) ⟨_,h2.votes.len',_,nb2.ld rfl,?_⟩
 refine ifT_nd (fun hx => no _ f2 fun hr => hx hr.votes) fun i27 => onM_s (nb2.ld rfl) ⟨_,h2.next.len',_,nb2.ld rfl,?_⟩
 refine ifT_nd (fun hx => no _ f2 fun hr => hx hr.next) fun i28 => onM_s (nb2.ld rfl) ⟨_,h2.mtch.len',_,nb2.ld rfl,?_⟩
 refine ifT_nd (fun hx => no _ f2 fun hr => hx hr.mtch) fun i29 => onM_s (nb2.ld rfl) ⟨_,h2.seen.len',_,nb2.ld rfl,?_⟩
 refine ifT_nd (fun hx => no _ f2 fun hr => hx hr.seen) fun i30 => ?_
 refine loopP_ind (fun m lv w5 => ∃ i : Nat,w5 = w2 ∧ i ≤ n.reads.length ∧ m = n.reads.length - i ∧ lv = [ii i] ∧ ∀ j : Nat,j < i → (h : j < n.reads.length) → (if j = 0 then 0 else (n.reads.getD (j - 1) (0,0,0)).2.2) < n.reads[j].2.2 ∧ n.reads[j].2.2 ≤ n.round) ?_ ⟨0,rfl,Nat.zero_le _,rfl,rfl,fun j hj => by omega⟩
 rintro m lv w5 ⟨i,rfl,hi,rfl,rfl,hok⟩ R ih
 refine ⟨_,rfl,fun _ => onM_s (nb2.ld rfl) ⟨_,h2.reads.len',ifT_d (fun hc => ?_) fun hc => ?_⟩⟩
 ·have hil : i < n.reads.length := by omega
  have noI : ¬ ((if i = 0 then 0 else (n.reads.getD (i - 1) (0,0,0)).2.2) < n.reads[i].2.2 ∧ n.reads[i].2.2 ≤ n.round) → K (.bool false) w5 := fun hx => no _ f2 fun hr => hx ((rds_iff.1 hr.reads.1).2 i hil)
  refine join_of (fun l w' => l = [ii ((if i = 0 then 0 else (n.reads.getD (i - 1) (0,0,0)).2.2) + 1)] ∧ w' = w5) ?_ fun J hJ => ?_
  ·rintro l w6 ⟨rfl,rfl⟩
   refine ⟨_,rfl,fun _ => onM_s (nb2.ld rfl) (rdg_at h2.reads hil fun b o _ _ ho _ => ⟨_,ho,ifT_d (fun hx => noI fun hp => by omega) fun x1 => ?_⟩)⟩
   refine onM_s (nb2.ld rfl) (rdg_at h2.reads hil fun b o _ _ ho _ => ⟨_,ho,_,nb2.ld rfl,ifT_d (fun hx => noI fun hp => by omega) fun x2 => ?_⟩)
   refine ih (n.reads.length - (i + 1)) (by omega) _ _ ⟨i + 1,rfl,hil,rfl,by rw [wi_eq (by omega) (by omega)]; rfl,fun j hj h => ?_⟩
   rcases (show j < i ∨ j = i by omega) with hj | rfl
   ·exact hok j hj h
   ·exact ⟨by omega,by omega⟩
  ·refine ifT_d (fun hp => ?_) fun hp => ?_
   ·obtain ⟨k,rfl⟩ : ∃ k,i = k + 1 := ⟨i - 1,by omega⟩
    rw [show wi (((k + 1 : Nat) : Int) - 1) = ((k : Nat) : Int) by rw [wi_eq (by omega) (by omega)]; omega]
    have e1 : (if k + 1 = 0 then 0 else (n.reads.getD (k + 1 - 1) (0,0,0)).2.2) = n.reads[k].2.2 := by
     rw [if_neg (by omega),Nat.add_sub_cancel,List.getD_eq_getElem?_getD,List.getElem?_eq_getElem (by omega)]; rfl
    rw [e1] at noI hJ
    have hk := hok k (by omega) (by omega)
    refine onM_s (nb2.ld rfl) (rdg_at h2.reads (show k < n.reads.length by omega) fun b o _ _ ho _ => ⟨_,ho,_,nb2.ld rfl,ifT_d (fun hx => ?_) fun hx => noI fun hp => by omega⟩)
    have hlow := rds_pos hok k (by omega) (by omega)
    have hk1 := hk.1
    rw [wi_eq (by omega) (by omega)]
    exact hJ _ _ ⟨rfl,rfl⟩
   ·have hi0 : i = 0 := by omega
    subst hi0
    exact hJ _ _ ⟨rfl,rfl⟩
 ·have hall := rds_iff (n := n).2 ⟨by omega,fun j h => hok j (by omega) h⟩
  refine ⟨_,_,_,_,_,_,_,_,_,_,_,_,_,_,_,_,_,_,_,nb2.ldN,s100 hh f2.mem h2 ⟨i27,i28,i29,i30⟩ sl ⟨by omega,by omega⟩ (by omega) (by unfold G40; omega) ⟨by omega,by omega⟩ ⟨by omega,by omega⟩ fun c w6 f6 hc6 => ⟨_,rfl,hK _ _ (f1.trans' (f2.trans' f6 (Nat.le_refl _)) (Nat.le_refl _)) ?_⟩⟩
  rw [hc6]
  exact ⟨fun hx => ⟨⟨by omega,by omega⟩,⟨by omega,by omega⟩,⟨by omega,by omega⟩,⟨by omega,by omega⟩,⟨by omega,by unfold G40; omega⟩,⟨by omega,by unfold G40; omega⟩,⟨by omega,by unfold G40; omega⟩,⟨by omega,by unfold G40; omega⟩,⟨by omega,by unfold G40; omega⟩,by omega,i16,⟨by omega,by omega⟩,by omega,i27,i28,i29,i30,⟨hall,by omega⟩,hx⟩,fun hx => hx.roles⟩
end
end Go.Proofs.YtghoifolghelnaaGreat
