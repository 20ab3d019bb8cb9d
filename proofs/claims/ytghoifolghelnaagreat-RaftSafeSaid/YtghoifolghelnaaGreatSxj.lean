/-
 Regions whose order is open: the model does what the abstract machine says.
 No condition beyond those that each theorem names.
-/
import Derived.Test.YtghoifolghelnaaGreatSxi
import Derived.Orders
set_option linter.unusedVariables false
set_option linter.unusedSimpArgs false
/-! Orders of a region: who stands before whom, and what the temporaries hold when a set of operations is done. -/
namespace Go.Sx
/-! ### Who stands before whom -/
def nJb(acc:List Nat)(o:Oper):Nat:=o.after.toList.foldl (fun s e=>if Region.binds .any e then s ||| 2^e.on ||| acc.getD e.on 0 else s) 0
theorem xJn:∀(l:List Oper) (acc:List Nat),l.foldl (fun acc o=>acc++[nJb acc o]) acc=acc++(l.foldl (fun acc o=>acc++[nJb acc o]) acc).drop acc.length∧
    (l.foldl (fun acc o=>acc++[nJb acc o]) acc).length=acc.length+l.length
  | [],acc=>by simp
  | o::l,acc=>by
    obtain⟨h1,h2⟩:=xJn l (acc++[nJb acc o]);constructor
    · simp only[List.foldl_cons]
      rw[h1];simp[yQy]
    · simp only[List.foldl_cons]
      rw[h2];simp;omega
theorem gJ0(l:List Oper):before l=l.foldl (fun acc o=>acc++[nJb acc o]) []:=rfl
theorem yJh(l r:List Oper)(j:Nat)(hj:j<l.length):(before (l++r)).getD j 0=(before l).getD j 0:=by
 rw[gJ0,gJ0,List.foldl_append,(xJn r _).1];rw[yQj,yQj,gQa];rw[(xJn l []).2];simpa using hj
theorem qQy(l r:List Oper)(o:Oper):(before (l++o::r)).getD l.length 0=nJb (before l) o:=by
 have e:l++o::r=(l++[o])++r:=by simp
 rw[e,yJh (l++[o]) r l.length (by simp)];have hl:=(xJn l []).2;simp only[gQw,Nat.zero_add]at hl;rw[gJ0,List.foldl_append];simp only[List.foldl_cons,List.foldl_nil];rw[yQj,gQg (by omega),hl];simp;rfl
theorem hJs(acc:List Nat)(k:Nat):∀(es:List Edge) (s:Nat),(es.foldl (fun s e=>if Region.binds .any e then s ||| 2^e.on ||| acc.getD e.on 0 else s) s).testBit k=true↔
    s.testBit k=true∨∃e∈es,Region.binds .any e=true∧(k=e.on∨(acc.getD e.on 0).testBit k=true)
  | [],s=>by simp
  | e::es,s=>by
    simp only[List.foldl_cons];rw[hJs acc k es];by_cases hb:Region.binds .any e=true
    · simp only[hb,if_true,Nat.testBit_or,Bool.or_eq_true,Nat.testBit_two_pow,decide_eq_true_eq,yQw]
      constructor
      · rintro((((h | h) | h)) | ⟨e',he',h1,h2⟩)
        · exact .inl h
        · exact .inr ⟨e, .inl rfl,hb, .inl h.symm⟩
        · exact .inr ⟨e, .inl rfl,hb, .inr h⟩
        · exact .inr ⟨e', .inr he',h1,h2⟩
      · rintro(h | ⟨e',rfl | he',h1,h2⟩)
        · exact .inl (.inl (.inl h))
        · rcases h2 with h2 | h2
          · exact .inl (.inl (.inr h2.symm))
          · exact .inl (.inr h2)
        · exact .inr ⟨e',he',h1,h2⟩
    · simp only[hb,yQ2,if_false,yQw]
      constructor
      · rintro(h | ⟨e',he',h1,h2⟩)
        · exact .inl h
        · exact .inr ⟨e', .inr he',h1,h2⟩
      · rintro(h | ⟨e',rfl | he',h1,h2⟩)
        · exact .inl h
        · exact absurd h1 hb
        · exact .inr ⟨e',he',h1,h2⟩
def Bf(l:List Oper)(i k:Nat):Prop:=((before l).getD i 0).testBit k=true
theorem kQj {l:List Oper}(hlt:∀(i:Nat) (o:Oper),l[i]? =some o→∀e∈o.after.toList,Region.binds .any e=true→e.on<i){i:Nat}{o:Oper}(ho:l[i]? =some o)(k:Nat):
  Bf l i k↔∃e∈o.after.toList,Region.binds .any e=true∧(k=e.on∨Bf l e.on k):=by
 obtain⟨hi,hoi⟩:=yQt.1 ho;have hsplit:l=l.take i++o::l.drop (i+1):=by
  rw[←hoi];simp
 have hlen:(l.take i).length=i:=by simp;omega
 have h1:(before l).getD i 0=nJb (before (l.take i)) o:=by
  have:=qQy (l.take i) (l.drop (i+1)) o;rw[←hsplit,hlen]at this;exact this
 have h2:∀j,j<i→(before (l.take i)).getD j 0=(before l).getD j 0:=fun j hj=>by
  have:=yJh (l.take i) (o::l.drop (i+1)) j (by omega);rw[←hsplit]at this;exact this.symm
 unfold Bf;rw[h1];unfold nJb;rw[hJs];simp only[Nat.zero_testBit,yQ2,false_or];constructor
 ·rintro⟨e,he,hb,h⟩;refine⟨e,he,hb,?_⟩;rw[←h2 _ (hlt i o ho e he hb)];exact h
 ·rintro⟨e,he,hb,h⟩;refine⟨e,he,hb,?_⟩;rw[h2 _ (hlt i o ho e he hb)];exact h
theorem yQh {l:List Oper}(hlt:∀(i:Nat) (o:Oper),l[i]? =some o→∀e∈o.after.toList,Region.binds .any e=true→e.on<i):∀(i k:Nat),Bf l i k→k<i:=by
  intro i
  induction i using Nat.strongRecOn with
  | _ i ih=>
    intro k hk
    cases ho:l[i]? with
    | none=>
      have hl:=(xJn l []).2;simp only[gQw,Nat.zero_add]at hl;unfold Bf at hk;rw[List.getElem?_eq_none_iff]at ho;rw[gJ0,yQj,yQ6 (by omega)]at hk;simp at hk
    | some o=>
      obtain⟨e,he,hb,h⟩:=(kQj hlt ho k).1 hk;have:=hlt i o ho e he hb;rcases h with rfl | h
      · exact this
      · exact Nat.lt_trans (ih _ this _ h) this
/-! ### What the static look gives -/
structure Reg(P:Program)(l:List Oper):Prop where
 lt:∀(i:Nat) (o:Oper),l[i]? =some o→∀e∈o.after.toList,Region.binds .any e=true→e.on<i
 guard:∀(i:Nat) (o:Oper) g,l[i]? =some o→o.guard=some g→Bf l i g.1
 eff:∀(i j:Nat) (o o':Oper),l[i]? =some o→l[j]? =some o'→opKd P o.op= .eff→opKd P o'.op= .eff→i<j→Bf l j i
 tmp:∀(i:Nat) (o:Oper),l[i]? =some o→∀t∈xJl l o,∀(k:Nat) (o':Oper),l[k]? =some o'→o'.dst=some t→k=i∨Bf l i k∨Bf l k i
theorem rJm {P:Program}{l:List Oper}(h:kJm P l=true):Reg P l:=by
 unfold kJm at h;simp only[gQ3]at h;obtain⟨⟨⟨h1,h2⟩,h3⟩,h4⟩:=h;have zi:∀(i:Nat) (o:Oper),l[i]? =some o→(o,i)∈l.zipIdx:=fun i o ho=>by
  rw[List.mem_zipIdx_iff_getElem?];exact ho
 refine⟨?_,?_,?_,?_⟩
 ·intro i o ho e he hb;have:=yQv.1 (yQv.1 h1 _ (zi i o ho)) e he;simp only[hb,Bool.not_true,Bool.false_or]at this;have h':e.on+1≤i:=yQk this;omega
 ·intro i o g ho hg;have:=yQv.1 h2 _ (zi i o ho);simp only[hg]at this;exact this
 ·intro i j o o' hi hj hk hk' hlt;have mem:∀(i:Nat) (o:Oper),l[i]? =some o→opKd P o.op= .eff→i∈(l.zipIdx.filter fun x=>decide (opKd P x.1.op= .eff)).map (·.2):=fun i o ho hk=>by
   rw[List.mem_map];exact⟨(o,i),List.mem_filter.2 ⟨zi i o ho,by simpa using hk⟩,rfl⟩
  have:=yQv.1 (yQv.1 h3 j (mem j o' hj hk')) i (mem i o hi hk);have hb:Nat.blt i j=true:=Nat.ble_eq_true_of_le hlt;simp only[hb,Bool.not_true,Bool.false_or]at this;exact this
 ·intro i o ho t ht k o' hk hd;unfold eJj at h4;have:=yQv.1 (yQv.1 (yQv.1 h4 _ (zi i o ho)) t ht) _ (zi k o' hk);simp only[hd,decide_true,Bool.not_true,Bool.false_or,Bool.or_eq_true]at this;rcases this with(h | h) | h
  ·exact .inl (yQp h).symm
  ·exact .inr (.inl h)
  ·exact .inr (.inr h)
/-! ### Temporaries -/
def uJ9(l:List Oper)(i:Nat):Option Tmp:=(l[i]?).bind (·.dst)
def TS(l:List Oper)(T0:Tm)(val:Nat→AV)(S:Nat→Bool):Nat→Tm
 | 0=>T0
 | n+1=>if S n then putT (TS l T0 val S n) (uJ9 l n) (val n)else TS l T0 val S n
def upd {α:Type}(f:Nat→α)(i:Nat)(v:α):Nat→α:=fun j=>if j=i then v else f j
theorem eJ3 {tm:Tm}{x y:Option Tmp}(v u:AV)(h:∀d,x=some d→y≠some d):putT (putT tm x v) y u=putT (putT tm y u) x v:=by
  cases x with
  | none=>rfl
  | some d=>
    cases y with
    | none=>rfl
    | some e=>
      have hne:d≠e:=fun he=>h d rfl (he▸rfl);simp only[putT];exact List.set_comm _ _ hne
theorem cJr {l:List Oper}{T0:Tm}{val val':Nat→AV}{S S':Nat→Bool}:∀n,(∀k,k<n→S k=S' k)→(∀k,k<n→S k=true→val k=val' k)→TS l T0 val S n=TS l T0 val' S' n
  | 0,_,_=>rfl
  | n+1,h,hv=>by
    simp only[TS,←h n (Nat.lt_succ_self n)];rw[cJr n (fun k hk=>h k (by omega)) (fun k hk=>hv k (by omega))];by_cases hs:S n=true
    · simp only[hs,if_true,hv n (Nat.lt_succ_self n) hs]
    · simp[hs]
theorem nJj {l:List Oper}{T0:Tm}{val:Nat→AV}{S:Nat→Bool}{i:Nat}(v:AV)(hi:S i=false)(hfree:∀j d,i<j→S j=true→uJ9 l i=some d→uJ9 l j≠some d):
    ∀n,TS l T0 (upd val i v) (upd S i true) n=if i<n then putT (TS l T0 val S n) (uJ9 l i) v else TS l T0 val S n
  | 0=>by simp[TS]
  | n+1=>by
    have ih:=nJj (l:=l) (T0:=T0) (val:=val) v hi hfree n;simp only[TS];rw[ih];by_cases hn:n=i
    · subst hn
      have h1:upd S n true n=true:=by simp[upd]
      have h2:upd val n v n=v:=by simp[upd]
      simp[h1,h2,hi]
    · have h1:upd S i true n=S n:=by simp[upd,hn]
      have h2:upd val i v n=val n:=by simp[upd,hn]
      rw[h1,h2];by_cases hlt:i<n
      · have hlt':i<n+1:=by omega
        simp only[hlt,hlt',if_true];by_cases hs:S n=true
        · simp only[hs,if_true]
          exact eJ3 v (val n) fun d hd=>hfree n d hlt hs hd
        · simp[hs]
      · have hlt':¬ i<n+1:=by omega
        simp[hlt,hlt']
theorem kQg {l:List Oper}{T0:Tm}{val:Nat→AV}{S S':Nat→Bool}{t:Tmp}:∀n,(∀k,k<n→uJ9 l k=some t→S k=S' k)→(TS l T0 val S n)[t]? =(TS l T0 val S' n)[t]?
  | 0,_=>rfl
  | n+1,h=>by
    have ih:=kQg (l:=l) (T0:=T0) (val:=val) n fun k hk=>h k (by omega);have put:∀(tm:Tm) (d:Option Tmp) (v:AV),d≠some t→(putT tm d v)[t]? =tm[t]? :=fun tm d v hd=>by
      cases d with
      | none=>rfl
      | some d=>
        simp only[putT];have hne:d≠t:=fun e=>hd (by rw[e]);exact List.getElem?_set_ne hne
    have lens:∀(S:Nat→Bool) n,(TS l T0 val S n).length=T0.length:=fun S n=>by
      induction n with
      | zero=>rfl
      | succ n ih=>
        simp only[TS];split
        · cases uJ9 l n<;>simp[putT,ih]
        · exact ih
    simp only[TS];by_cases hd:uJ9 l n=some t
    · rw[←h n (Nat.lt_succ_self n) hd]
      split
      · rw[hd]
        show((TS l T0 val S n).set t (val n))[t]? =((TS l T0 val S' n).set t (val n))[t]?;simp[gQo,lens]
      · exact ih
    · have step:∀(b:Bool) (tm:Tm),(if b then putT tm (uJ9 l n) (val n)else tm)[t]? =tm[t]? :=fun b tm=>by
        cases b
        · rfl
        · exact put _ _ _ hd
      rw[step,step];exact ih
end Go.Sx
namespace Go.Sx
abbrev Dn(don:List Bool):Nat→Bool:=fun i=>don.getD i false
def DC(l:List Oper)(S:Nat→Bool):Prop:=∀i,S i=true→∀k,Bf l i k→S k=true
section
variable {P:Program}{W0:World}{N0:Nat}{l:List Oper}
def Pend(P:Program)(l:List Oper)(T0:Tm)(val:Nat→AV)(kf:Nat→Nat)(mk:Nat→Bool)(w0:AW)(don:Nat→Bool)(rds:List Rd)(w:AW)(m:Emb)(i:Nat)(o:Oper):Prop:=
  ∃S:Nat→Bool,DC l S∧S i=false∧(∀k,Bf l i k→S k=true)∧(∀k,S k=true→don k=true)∧
    ((zJc l (TS l T0 val S l.length) o.guard=false∧val i=Go.Sx.undef)∨
     (zJc l (TS l T0 val S l.length) o.guard=true∧
       ((opKd P o.op= .pure∧∀w,qJ7 P w (TS l T0 val S l.length) o.op=some (val i))∨
        (opKd P o.op= .read∧∃r∈rds,r.i=i∧r.v=val i∧r.tm=TS l T0 val S l.length)∨
        (opKd P o.op= .make∧mk i=true∧∃w1 ob,kf i=w1.size∧zJj P w1 (TS l T0 val S l.length) o.op=some (val i,ob)∧m (kf i)=none∧kf i<w.size∧w0.size≤kf i∧w.get (kf i)=some ob))))
structure Inv(P:Program)(W0:World)(N0:Nat)(l:List Oper)(T0:Tm)(m0:Emb)(w0:AW)(L:Nat→Bool)(don:List Bool)(rds:List Rd)(tmps:Tm)(w:AW)(val:Nat→AV)(kf:Nat→Nat)(mk:Nat→Bool)
  (m:Emb) (W:World) (ts:Array Value):Prop where
 len:don.length=l.length
 sub:∀i,L i=true→Dn don i=true
 dcD:DC l (Dn don)
 dcL:DC l L
 eff:∀(i:Nat) (o:Oper),l[i]? =some o→opKd P o.op= .eff→Dn don i=true→L i=true
 tm:tmps=TS l T0 val (Dn don) l.length
 vts:VRs m (TS l T0 val L l.length) ts.toList
 rel:Rel W0 N0 m w W
 ext:Ext m0 m w0 w
 pos:0<w0.size
 pend:∀(i:Nat) (o:Oper),l[i]? =some o→Dn don i=true→L i=false→Pend P l T0 val kf mk w0 (Dn don) rds w m i o
 kfb:∀j,mk j=true→kf j<w.size
 inj:∀i j,mk i=true→mk j=true→i≠j→kf i≠kf j
 mkd:∀j,mk j=true→Dn don j=true
theorem xJp {don:List Bool}{i:Nat}(hi:i<don.length):Dn (don.set i true)=upd (Dn don) i true:=by
 funext j;simp only[Dn,upd,yQj,gQo];by_cases e:i=j
 ·subst e;simp[hi]
 ·have:¬ j=i:=fun h=>e h.symm;simp[e,this]
theorem DC.insert {S:Nat→Bool}(h:DC l S){i:Nat}(hb:∀k,Bf l i k→S k=true):DC l (upd S i true):=by
 intro j hj k hk;by_cases e:k=i
 ·simp[upd,e]
 ·simp only[upd,e,if_false];by_cases ej:j=i
  ·subst ej;exact hb k hk
  ·simp only[upd,ej,if_false]at hj;exact h j hj k hk
theorem agree(reg:Reg P l){T0:Tm}{val:Nat→AV}{S S':Nat→Bool}{i:Nat}{o:Oper}(ho:l[i]? =some o)(h:DC l S)(h':DC l S')(hi:S i=false)(hi':S' i=false)
    (hb:∀k,Bf l i k→S k=true) (hb':∀k,Bf l i k→S' k=true) {t:Tmp} (ht:t∈xJl l o):(TS l T0 val S l.length)[t]? =(TS l T0 val S' l.length)[t]? :=by
  refine kQg _ fun k _ hk=>?_;unfold uJ9 at hk
  cases hok:l[k]? with
  | none=>rw[hok]at hk;simp at hk
  | some ok=>
    rw[hok]at hk;rcases reg.tmp i o ho t ht k ok hok hk with rfl | h1 | h1
    · rw[hi,hi']
    · rw[hb k h1,hb' k h1]
    · have a:S k=false:=by rw[←gQh];intro e;have:=h k e i h1;rw[hi]at this;simp at this
      have a':S' k=false:=by rw[←gQh];intro e;have:=h' k e i h1;rw[hi']at this;simp at this
      rw[a,a']
theorem oJz(reg:Reg P l){T0:Tm}{val:Nat→AV}{S S':Nat→Bool}{i:Nat}{o:Oper}(ho:l[i]? =some o)(h:DC l S)(h':DC l S')(hi:S i=false)(hi':S' i=false)
    (hb:∀k,Bf l i k→S k=true) (hb':∀k,Bf l i k→S' k=true):
    (∀x∈o.op.operands,qJs (TS l T0 val S l.length) x=qJs (TS l T0 val S' l.length) x)∧zJc l (TS l T0 val S l.length) o.guard=zJc l (TS l T0 val S' l.length) o.guard:=by
  constructor
  · intro x hx
    cases x with
    | tmp t=>
      have:t∈xJl l o:=by
        unfold xJl;refine List.mem_append_right _ (List.mem_append_left _ (List.mem_filterMap.2 ⟨.tmp t,by simpa using hx,rfl⟩))
      simp only[qJs,getT,yQj,agree reg ho h h' hi hi' hb hb' this]
    | _=>rfl
  · unfold zJc
    cases hg:o.guard with
    | none=>rfl
    | some g=>
      obtain⟨j,want⟩:=g;simp only[];unfold dJe;cases hd:(l[j]?).bind (·.dst)with
      | none=>rfl
      | some d=>
        have:d∈xJl l o:=by
          unfold xJl;refine List.mem_append_right _ (List.mem_append_right _ ?_);rw[hg];simp[hd]
        simp only[agree reg ho h h' hi hi' hb hb' this]
theorem wQe(reg:Reg P l){S:Nat→Bool}(h:DC l S){i:Nat}{o:Oper}(ho:l[i]? =some o)(hi:S i=false):
    ∀j d,i<j→S j=true→uJ9 l i=some d→uJ9 l j≠some d:=by
  intro j d hij hj hd hdj;unfold uJ9 at hd hdj;rw[ho]at hd
  cases hoj:l[j]? with
  | none=>rw[hoj]at hdj;simp at hdj
  | some oj=>
    rw[hoj]at hdj;have ht:d∈xJl l o:=by
      unfold xJl;have:o.dst=some d:=hd;simp[this]
    rcases reg.tmp i o ho d ht j oj hoj hdj with e | e | e
    · omega
    · have:=yQh reg.lt i j e;omega
    · have:=h j hj i e;rw[hi]at this;simp at this
theorem zQs {α:Type}(f:Nat→α)(i:Nat):upd f i (f i)=f:=by
 funext j;unfold upd;split
 ·rename_i h;rw[h]
 ·rfl
theorem xJg {T0:Tm}{val:Nat→AV}{S:Nat→Bool}{i:Nat}(v:AV)(hi:S i=false)(n:Nat):TS l T0 (upd val i v) S n=TS l T0 val S n:=by
 refine cJr n (fun _ _=>rfl) fun k _ hk=>?_;have:k≠i:=fun e=>by subst e;rw[hi]at hk;simp at hk
 simp[upd,this]
theorem cJq(reg:Reg P l){T0:Tm}{val:Nat→AV}{S:Nat→Bool}(h:DC l S){i:Nat}{o:Oper}(ho:l[i]? =some o)(hi:S i=false)(v:AV):
  TS l T0 (upd val i v) (upd S i true) l.length=putT (TS l T0 val S l.length) o.dst v:=by
 rw[nJj v hi (wQe reg h ho hi)];have hlt:i<l.length:=(yQt.1 ho).1;simp only[hlt,if_true];unfold uJ9;rw[ho];rfl
theorem Pend.out {T0:Tm}{val:Nat→AV}{kf:Nat→Nat}{mk:Nat→Bool}{w0 w w':AW}{don don':Nat→Bool}{rds rds':List Rd}{m m':Emb}{i:Nat}{o:Oper}(h:Pend P l T0 val kf mk w0 don rds w m i o)
  {j:Nat} (v:AV) (k:Nat) (b:Bool) (hj:don j=false) (hij:i≠j) (hdon:∀k,don k=true→don' k=true) (hr:∀r∈rds,r.i=i→r∈rds') (hs:w.size≤w'.size)
  (hm:∀b,b<w.size→m b=none→m' b=none∧w'.get b=w.get b):
  Pend P l T0 (upd val j v) (upd kf j k) (upd mk j b) w0 don' rds' w' m' i o:=by
 obtain⟨S,h1,h2,h3,h4,h5⟩:=h;have hjS:S j=false:=by rw[←gQh];intro e;have:=h4 j e;rw[hj]at this;simp at this
 refine⟨S,h1,h2,h3,fun k hk=>hdon k (h4 k hk),?_⟩;have e1:upd val j v i=val i:=by simp[upd,hij]
 have e2:upd kf j k i=kf i:=by simp[upd,hij]
 have e3:upd mk j b i=mk i:=by simp[upd,hij]
 rw[xJg v hjS,e1,e2,e3];rcases h5 with h5 | ⟨hw,h5⟩
 ·exact .inl h5
 ·refine .inr ⟨hw,?_⟩;rcases h5 with h5 | ⟨hk,r,hr',h6⟩ | ⟨hk,hmk,w1,ob,a1,a2,a3,a4,a5,a6⟩
  ·exact .inl h5
  ·exact .inr (.inl ⟨hk,r,hr r hr' h6.1,h6⟩)
  ·obtain⟨b1,b2⟩:=hm _ a4 a3;exact .inr (.inr ⟨hk,hmk,w1,ob,a1,a2,b1,by omega,a5,by rw[b2];exact a6⟩)
theorem yJ7 {i:Nat}{don:List Bool}(reg:Reg P l):xJu i ((before l).getD i 0) don=true↔∀k,Bf l i k→Dn don k=true:=by
 unfold xJu;rw[yQv];simp only[List.mem_range,Bool.or_eq_true,Bool.not_eq_true'];constructor
 ·intro h k hk;rcases h k (yQh reg.lt i k hk)with h1 | h1
  ·unfold Bf at hk;rw[hk]at h1;simp at h1
  ·exact h1
 ·intro h k _
  cases hb:((before l).getD i 0).testBit k with
  | false=>exact .inl rfl
  | true=>exact .inr (h k hb)
theorem qQ2 {w:AW}{tmps:Tm}{o:Op}{v:AV}{ob:AO}(ha:zJj P w tmps o=some (v,ob)):∀cs f own d,ob= .cells cs f own d→f=w.size:=by
 intro cs f own d e;subst e;unfold zJj at ha;split at ha
 ·simp only[yQi]at ha;obtain⟨z,_,ha⟩:=ha;obtain⟨_,ha⟩:=qJe.1 ha;cases ha;rfl
 ·simp only[yQi]at ha;obtain⟨z,_,ha⟩:=ha;obtain⟨_,ha⟩:=qJe.1 ha;cases ha;rfl
 ·simp only[yQi]at ha;obtain⟨_,_,_,_,_,_,_,_,ha⟩:=ha;obtain⟨_,ha⟩:=qJe.1 ha;simp only[yQl]at ha;obtain⟨_,_,ha⟩:=ha;cases ha;rfl
 ·cases ha
 ·simp only[yQi]at ha;obtain⟨_,_,_,_,_,_,_,_,_,_,ha⟩:=ha;obtain⟨_,ha⟩:=qJe.1 ha;cases ha;rfl
 ·simp only[yQi]at ha;obtain⟨x,_,ha⟩:=ha;split at ha
  ·simp only[yQi]at ha;obtain⟨_,_,_,_,_,_,ha⟩:=ha;obtain⟨_,ha⟩:=qJe.1 ha;cases ha;rfl
  ·simp at ha
 ·simp only[yQi,yQl]at ha;obtain⟨x,_,o,hr,ha⟩:=ha;cases ha;unfold tJ2 at hr;split at hr
  ·simp only[yQi]at hr;obtain⟨_,_,hr⟩:=hr;obtain⟨_,hr⟩:=qJe.1 hr;cases hr
  ·simp only[yQl]at hr;obtain⟨_,_,hr⟩:=hr;cases hr
  ·cases hr
 ·cases ha
theorem bJb(reg:Reg P l){T0:Tm}{m0:Emb}{w0:AW}{L:Nat→Bool}{m:Emb}{W:World}{ts:Array Value}:∀(rest:List (Oper×Nat)) (don:List Bool) (rds:List Rd) (tmps:Tm) (w:AW)
    (val:Nat→AV) (kf:Nat→Nat) (mk:Nat→Bool) (don':List Bool) (rds':List Rd) (tmps':Tm) (w':AW),(∀x∈rest,l[x.2]? =some x.1)→rest.Pairwise (fun x y=>x.2<y.2)→
    Inv P W0 N0 l T0 m0 w0 L don rds tmps w val kf mk m W ts→xJd P l (before l) rest don rds tmps w=some (don',rds',tmps',w')→
    ∃val' kf' mk',Inv P W0 N0 l T0 m0 w0 L don' rds' tmps' w' val' kf' mk' m W ts∧(∀j,(∀x∈rest,x.2≠j)→Dn don' j=Dn don j)∧
      (∀x∈rest,opKd P x.1.op≠ .eff→(∀k,Bf l x.2 k→Dn don' k=true)→Dn don' x.2=true)
  | [],don,rds,tmps,w,val,kf,mk,don',rds',tmps',w',_,_,hi,hq=>by
    simp only[xJd,yQx,Prod.mk.injEq]at hq;obtain⟨rfl,rfl,rfl,rfl⟩:=hq;exact⟨val,kf,mk,hi,fun _ _=>rfl,by simp⟩
  | (o,i)::rest,don,rds,tmps,w,val,kf,mk,don',rds',tmps',w',hx,hp,hi,hq=>by
    rw[List.pairwise_cons]at hp;have ho:l[i]? =some o:=hx (o,i) (by simp);have hlt:i<l.length:=(yQt.1 ho).1;have hltd:i<don.length:=by rw[hi.len];exact hlt
    have hgd:don.getD i true=Dn don i:=by
      simp only[Dn,yQj];rw[yQn hltd];rfl
    have hrest:∀x∈rest,l[x.2]? =some x.1:=fun x h=>hx x (by simp[h])
    -- what the rest gives for i
    have fin:∀{don1:List Bool} {rds1:List Rd} {tmps1:Tm} {w1:AW} {val1:Nat→AV} {kf1:Nat→Nat} {mk1:Nat→Bool},Inv P W0 N0 l T0 m0 w0 L don1 rds1 tmps1 w1 val1 kf1 mk1 m W ts→
        xJd P l (before l) rest don1 rds1 tmps1 w1=some (don',rds',tmps',w')→(∀j,j≠i→Dn don1 j=Dn don j)→
        (opKd P o.op≠ .eff→(∀k,Bf l i k→Dn don1 k=true)→Dn don1 i=true)→
        ∃val' kf' mk',Inv P W0 N0 l T0 m0 w0 L don' rds' tmps' w' val' kf' mk' m W ts∧(∀j,(∀x∈(o,i)::rest,x.2≠j)→Dn don' j=Dn don j)∧
          (∀x∈(o,i)::rest,opKd P x.1.op≠ .eff→(∀k,Bf l x.2 k→Dn don' k=true)→Dn don' x.2=true):=by
      intro don1 rds1 tmps1 w1 val1 kf1 mk1 h1 hq1 hsame hcomp;obtain⟨val',kf',mk',h2,h3,h4⟩:=bJb reg rest don1 rds1 tmps1 w1 val1 kf1 mk1 don' rds' tmps' w' hrest hp.2 h1 hq1;have lateq:∀j,j≤i→Dn don' j=Dn don1 j:=fun j hj=>h3 j fun x hx e=>by
        have:=hp.1 x hx;simp only[]at this;omega
      refine⟨val',kf',mk',h2,fun j hj=>?_,fun x hx hk hb=>?_⟩
      · rw[h3 j fun x hx=>hj x (by simp[hx])]
        exact hsame j fun e=>hj (o,i) (by simp) e.symm
      · rcases yQw.1 hx with rfl | hx
        · rw[lateq i (yQm _)]
          refine hcomp hk fun k hbk=>?_;rw[←lateq k (Nat.le_of_lt (yQh reg.lt i k hbk))];exact hb k hbk
        · exact h4 x hx hk hb
    simp only[xJd]at hq;split at hq
    · rename_i hskip
      refine fin hi hq (fun _ _=>rfl) fun hk hb=>?_;rw[hgd]at hskip;rcases hskip with h | h | h
      · exact h
      · exact absurd h hk
      · have:=(yJ7 reg).2 hb
        rw[this]at h;simp at h
    · rename_i hskip
      rw[hgd]at hskip;simp only[not_or,gQh,Bool.not_eq_false]at hskip;obtain⟨hdi,hkd,had⟩:=hskip;have hbf:=(yJ7 reg).1 had;have hLi:L i=false:=by rw[←gQh];intro e;have:=hi.sub i e;rw[hdi]at this;simp at this
      -- the invariant with i done
      have step:∀(v:AV) (w1:AW) (rds1:List Rd) (k:Nat) (bk:Bool),(∀r∈rds,r∈rds1)→Rel W0 N0 m w1 W→Ext m m w w1→(bk=true→k=w.size∧w.size<w1.size)→
          Pend P l T0 (upd val i v) (upd kf i k) (upd mk i bk) w0 (Dn (don.set i true)) rds1 w1 m i o→
          Inv P W0 N0 l T0 m0 w0 L (don.set i true) rds1 (putT tmps o.dst v) w1 (upd val i v) (upd kf i k) (upd mk i bk) m W ts:=by
        intro v w1 rds1 k bk hr hrel hext hbk hpend;refine⟨by rw[yQ0];exact hi.len,fun j hj=>?_,?_,hi.dcL,fun j oj hoj hkj hdj=>?_,?_,?_,hrel,hi.ext.trans hext,hi.pos,fun j oj hoj hdj hLj=>?_,fun j hj=>?_,fun a b ha hb hab=>?_,fun j hj=>?_⟩
        · rw[xJp hltd]
          simp only[upd];split
          · rfl
          · exact hi.sub j hj
        · rw[xJp hltd];exact hi.dcD.insert hbf
        · rw[xJp hltd]at hdj
          by_cases e:j=i
          · subst e;rw[ho]at hoj;cases hoj;exact absurd hkj hkd
          · simp only[upd,e,if_false]at hdj
            exact hi.eff j oj hoj hkj hdj
        · rw[xJp hltd,cJq reg hi.dcD ho hdi,hi.tm]
        · rw[xJg v hLi];exact hi.vts
        · by_cases e:j=i
          · subst e;rw[ho]at hoj;cases hoj;exact hpend
          · have hdj':Dn don j=true:=by
              rw[xJp hltd]at hdj;simpa [upd,e]using hdj
            refine(hi.pend j oj hoj hdj' hLj).out v k bk hdi e ?_ (fun r hr' _=>hr r hr') hext.size (fun b hb hmb=>⟨hmb,hext.keep b hb hmb⟩);intro k hk;rw[xJp hltd];simp only[upd];split
            · rfl
            · exact hk
        · by_cases e:j=i
          · subst e
            simp only[upd,if_true]at hj ⊢;subst hj;have:=(hbk rfl);omega
          · simp only[upd,e,if_false]at hj ⊢
            have:=hi.kfb j hj;have:=hext.size;omega
        · by_cases e:a=i
          · by_cases e':b=i
            · omega
            · subst e
              simp only[upd,if_true]at ha ⊢;simp only[upd,e',if_false]at hb ⊢;subst ha;have h1:=(hbk rfl).1;have h2:=hi.kfb b hb;omega
          · by_cases e':b=i
            · subst e'
              simp only[upd,if_true]at hb ⊢;simp only[upd,e,if_false]at ha ⊢;subst hb;have h1:=(hbk rfl).1;have h2:=hi.kfb a ha;omega
            · simp only[upd,e,e',if_false]at ha hb ⊢
              exact hi.inj a b ha hb hab
        · rw[xJp hltd]
          by_cases e:j=i
          · simp[upd,e]
          · simp only[upd,e,if_false]at hj ⊢
            exact hi.mkd j hj
      have same:∀j,j≠i→Dn (don.set i true) j=Dn don j:=fun j hj=>by rw[xJp hltd];simp[upd,hj]
      have doni:Dn (don.set i true) i=true:=by rw[xJp hltd];simp[upd]
      have subD:∀k,Dn don k=true→Dn (don.set i true) k=true:=fun k hk=>by
        rw[xJp hltd];simp only[upd];split
        · rfl
        · exact hk
      have hw0:=hi.ext.size;split at hq
      · rename_i hwant
        rw[yQi]at hq;obtain⟨⟨v,w1⟩,hsim,hq⟩:=hq;simp only[]at hq;have hwant':zJc l (TS l T0 (upd val i v) (Dn don) l.length) o.guard=true:=by rw[xJg v hdi,←hi.tm];exact hwant
        have vi:upd val i v i=v:=by simp[upd]
        have ki:∀k,upd kf i k i=k:=fun k=>by simp[upd]
        have bi:∀b,upd mk i b i=b:=fun b=>by simp[upd]
        unfold qJp at hsim;split at hsim
        · rename_i hk
          simp only[yQl]at hsim;obtain⟨v',hp',he⟩:=hsim;cases he;have hnr:¬ opKd P o.op= .read:=by rw[hk];simp
          simp only[hnr,if_false]at hq;refine fin (step v w rds 0 false (fun _ h=>h) hi.rel (Ext.refl _ _) (by simp) ⟨Dn don,hi.dcD,hdi,hbf,subD, .inr ⟨hwant', .inl ⟨hk,fun w'=>?_⟩⟩⟩) hq same fun _ _=>doni;rw[xJg v hdi,←hi.tm,vi,←hp'];exact fJo hk _ _
        · rename_i hk
          simp only[yQl]at hsim;obtain⟨v',hp',he⟩:=hsim;cases he;simp only[hk,if_true]at hq;exact fin (step v w (⟨i,v,tmps⟩::rds) 0 false (fun _ h=>by simp[h]) hi.rel (Ext.refl _ _) (by simp) ⟨Dn don,hi.dcD,hdi,hbf,subD, .inr ⟨hwant', .inr (.inl ⟨hk,⟨i,v,tmps⟩,by simp,rfl,vi.symm,by
            rw[xJg v hdi,←hi.tm]⟩)⟩⟩) hq same fun _ _=>doni
        · rename_i hk
          simp only[yQl]at hsim;obtain⟨⟨v',ob⟩,hp',he⟩:=hsim;cases he;have hnr:¬ opKd P o.op= .read:=by rw[hk];simp
          simp only[hnr,if_false]at hq;have hno:m w.size=none:=by
            cases hm:m w.size with
            | none=>rfl
            | some p=>exact absurd (hi.rel.dom _ _ hm) (gQx _)
          refine fin (step _ (w.push ob) rds w.size true (fun _ h=>h) (hi.rel.grow ob ?_) ⟨m.le_refl,fun _ _ h=> .inl h,fun b hb _=>?_,by simp⟩ (fun _=>⟨rfl,by simp⟩)
            ⟨Dn don,hi.dcD,hdi,hbf,subD, .inr ⟨hwant', .inr (.inr ⟨hk,bi _,w,ob,ki _,?_,by rw[ki];exact hno,by rw[ki];simp,by rw[ki];exact hw0,by rw[ki];simp⟩)⟩⟩) hq same fun _ _=>doni
          · intro cs f own d e
            exact qQ2 hp' cs f own d e
          · have:b≠w.size:=by omega
            simp[this]
          · rw[xJg _ hdi,←hi.tm,vi,hp']
        · rename_i hk
          exact absurd hk hkd
      · rename_i hwant
        have vi:upd val i Go.Sx.undef i=Go.Sx.undef:=by simp[upd]
        refine fin (step Go.Sx.undef w rds 0 false (fun _ h=>h) hi.rel (Ext.refl _ _) (by simp) ⟨Dn don,hi.dcD,hdi,hbf,subD, .inl ⟨?_,vi⟩⟩) hq same fun _ _=>doni;rw[xJg _ hdi,←hi.tm];simpa using hwant
end
end Go.Sx
namespace Go.Sx
section
variable {P:Program}{W0:World}{N0:Nat}{ops:Array Oper}
theorem uJo {m:Emb}{tmps:Tm}{ts:Array Value}{ds:List Deferred}{W W':World}(ht:VRs m tmps ts.toList){i:Nat}{o:Oper}(ho:ops[i]? =some o)(hg:zJc ops.toList tmps o.guard=true)(hnd:∀c,o.op≠ .defer c){cv:Value}
  (hr:(execOp (Act.mk ts ds).eval o).run P W= .ok (.value cv) W') (b:Frame) (rest:List Nat) (k:List Item) (cs:List Frame):
  Steps P (lone (b.atR ⟨ts,ds⟩ (.inRegion ops (i::rest)::k)) cs W) (lone (b.atR ((Act.mk ts ds).put o.dst cv) (.inRegion ops rest::k)) cs W'):=by
 have ha:Applied P (b.atR ⟨ts,ds⟩ (.inRegion ops (i::rest)::k)) cs W (b.atR ⟨ts,ds⟩ (.inRegion ops (i::rest)::k)) cs (execOp (Act.mk ts ds).eval o) W:=by
  unfold Applied;rw[stepGR_op ho (by rw[uJ3 ht];exact hg),Oper.semAt_eq _ _ _ hnd]
 have:=ha.value hr;rw[Frame.finish_atR,ho]at this;exact .one this
theorem Pend.keep {l:List Oper}{T0:Tm}{val:Nat→AV}{kf:Nat→Nat}{mk:Nat→Bool}{w0 w:AW}{don:Nat→Bool}{rds:List Rd}{m m':Emb}{i:Nat}{o:Oper}(h:Pend P l T0 val kf mk w0 don rds w m i o)
  (hm:mk i=true→m (kf i)=none→m' (kf i)=none):Pend P l T0 val kf mk w0 don rds w m' i o:=by
 obtain⟨S,h1,h2,h3,h4,h5⟩:=h;refine⟨S,h1,h2,h3,h4,?_⟩;rcases h5 with h5 | ⟨hw,h5⟩
 ·exact .inl h5
 ·refine .inr ⟨hw,?_⟩;rcases h5 with h5 | h5 | ⟨hk,hmk,w1,ob,a1,a2,a3,a4⟩
  ·exact .inl h5
  ·exact .inr (.inl h5)
  ·exact .inr (.inr ⟨hk,hmk,w1,ob,a1,a2,hm hmk a3,a4⟩)
theorem zQk(ts:Array Value)(ds:List Deferred)(dst:Option Tmp)(v:Value):(Act.mk ts ds).put dst v=⟨((Act.mk ts ds).put dst v).tmps,ds⟩:=by cases dst<;>rfl
theorem cJ2(reg:Reg P ops.toList){T0:Tm}{m0:Emb}{w0:AW}{L:Nat→Bool}{don:List Bool}{rds:List Rd}{tmps:Tm}{w:AW}{val:Nat→AV}{kf:Nat→Nat}{mk:Nat→Bool}{m:Emb}{W:World}{ts:Array Value}
    (hi:Inv P W0 N0 ops.toList T0 m0 w0 L don rds tmps w val kf mk m W ts) (chk:∀r∈rds,xJ8 P ops.toList w r) {i:Nat} {o:Oper} (ho:ops.toList[i]? =some o) (hd:Dn don i=true) (hL:L i=false)
    (hb:∀k,Bf ops.toList i k→L k=true) (ds:List Deferred) (b:Frame) (rest:List Nat) (k:List Item) (cs:List Frame):
    ∃m' W' ts',Inv P W0 N0 ops.toList T0 m0 w0 (upd L i true) don rds tmps w val kf mk m' W' ts'∧
      Steps P (lone (b.atR ⟨ts,ds⟩ (.inRegion ops (i::rest)::k)) cs W) (lone (b.atR ⟨ts',ds⟩ (.inRegion ops rest::k)) cs W'):=by
  have ho':ops[i]? =some o:=by rw[←yQ4];exact ho
  obtain⟨S,hS,hSi,hSb,hSd,hcase⟩:=hi.pend i o ho hd hL;obtain⟨hop,hgu⟩:=oJz reg (T0:=T0) (val:=val) ho hS hi.dcL hSi hL hSb hb;rw[hgu]at hcase
  -- with the value in its place
  have fin:∀{m':Emb} {W':World} {cv:Value},m.le m'→Rel W0 N0 m' w W'→Ext m0 m' w0 w→VR m' (val i) cv→(∀j oj,ops.toList[j]? =some oj→j≠i→Dn don j=true→L j=false→mk j=true→m (kf j)=none→m' (kf j)=none)→
      Steps P (lone (b.atR ⟨ts,ds⟩ (.inRegion ops (i::rest)::k)) cs W) (lone (b.atR ((Act.mk ts ds).put o.dst cv) (.inRegion ops rest::k)) cs W')→
      ∃m' W' ts',Inv P W0 N0 ops.toList T0 m0 w0 (upd L i true) don rds tmps w val kf mk m' W' ts'∧
        Steps P (lone (b.atR ⟨ts,ds⟩ (.inRegion ops (i::rest)::k)) cs W) (lone (b.atR ⟨ts',ds⟩ (.inRegion ops rest::k)) cs W'):=by
    intro m' W' cv hle hrel hext hv hm hst;refine⟨m',W',((Act.mk ts ds).put o.dst cv).tmps,⟨hi.len,fun j hj=>?_,hi.dcD,hi.dcL.insert hb,fun j oj hoj hk hdj=>?_,hi.tm,?_,hrel,hext,hi.pos,fun j oj hoj hdj hLj=>?_,hi.kfb,hi.inj,hi.mkd⟩,?_⟩
    · by_cases e:j=i
      · subst e;exact hd
      · simp only[upd,e,if_false]at hj;exact hi.sub j hj
    · have:=hi.eff j oj hoj hk hdj
      simp only[upd];split
      · rfl
      · exact this
    · have:=cJq reg (T0:=T0) (val:=val) hi.dcL ho hL (val i)
      rw[zQs]at this;rw[this];exact pJ7 (hi.vts.mono hle) hv o.dst
    · have e:j≠i:=fun e=>by subst e;simp[upd]at hLj
      simp only[upd,e,if_false]at hLj;exact(hi.pend j oj hoj hdj hLj).keep (hm j oj hoj e hdj hLj)
    · rw[←zQk];exact hst
  rcases hcase with⟨hw,hv⟩ | ⟨hw,hcase⟩
  · exact fin m.le_refl hi.rel hi.ext (by rw[hv];exact VR.undef) (fun _ _ _ _ _ _ _ h=>h) (uJd hi.vts ho' hw b rest k cs)
  · have nd:∀{w:AW} {T:Tm} {v:AV},qJ7 P w T o.op=some v→∀c,o.op≠ .defer c:=fun h c e=>by rw[e]at h;simp[qJ7]at h
    rcases hcase with⟨hk,hp⟩ | ⟨hk,r,hr,h1,h2,h3⟩ | ⟨hk,hmk,w1,ob,a1,a2,a3,a4,a5,a6⟩
    · have hp':=hp w
      rw[kJ5 hop]at hp';obtain⟨cv,W',hrun,hv,hso⟩:=uJm (ds:=ds) hi.rel hi.vts hp';exact fin m.le_refl (hi.rel.soft hso) hi.ext hv (fun _ _ _ _ _ _ _ h=>h) (uJo hi.vts ho' hw (nd hp') hrun b rest k cs)
    · obtain⟨o',ho1,hp⟩:=chk r hr
      rw[h1,ho]at ho1;cases ho1;rw[h2,h3,kJ5 hop]at hp;obtain⟨cv,W',hrun,hv,hso⟩:=uJm (ds:=ds) hi.rel hi.vts hp;exact fin m.le_refl (hi.rel.soft hso) hi.ext hv (fun _ _ _ _ _ _ _ h=>h) (uJo hi.vts ho' hw (nd hp) hrun b rest k cs)
    · rw[gJ4 hop]at a2
      obtain⟨cv,W',O,room,hrun,hW,hE,hv,hf⟩:=mJc (ds:=ds) (W:=W) hi.vts a1 a2 a3;have hk0:kf i≠0:=by have:=hi.pos;omega
      obtain⟨hle,hrel⟩:=hi.rel.bind a3 a4 hk0 a6 hf hW hE;refine fin hle hrel ⟨Emb.le_trans hi.ext.le hle,fun b' p hb'=>?_,hi.ext.keep,hi.ext.size⟩ hv (fun j oj hoj hji hdj hLj hmkj hno=>?_) (uJo hi.vts ho' hw (fun c e=>by rw[e]at a2;simp[zJj]at a2) hrun b rest k cs)
      · by_cases e:b'=kf i
        · subst e;exact .inr a5
        · exact hi.ext.new b' p (by simpa [Emb.ext,e]using hb')
      · have:=hi.inj j i hmkj hmk hji
        simp[Emb.ext,this,hno]
theorem zQw(reg:Reg P ops.toList){rec:Task→(Res→Prop)→Prop}(hok:Ok P W0 N0 rec){T0:Tm}{m0:Emb}{w0:AW}{L:Nat→Bool}{don:List Bool}{rds:List Rd}{tmps:Tm}{w:AW}{val:Nat→AV}{kf:Nat→Nat}{mk:Nat→Bool}{m:Emb}{W:World}{ts:Array Value}
    (hi:Inv P W0 N0 ops.toList T0 m0 w0 L don rds tmps w val kf mk m W ts) {i:Nat} {o:Oper} (ho:ops.toList[i]? =some o) (hd:Dn don i=false)
    (hb:∀k,Bf ops.toList i k→L k=true) (ds:List Deferred) (b:Frame) (rest:List Nat) (k:List Item) (cs:List Frame) {K:AV→AW→Prop}
    (hs:if zJc ops.toList tmps o.guard=true then wOp P rec w tmps o.op K else K Go.Sx.undef w):
    ∃v w' m' W' ts',K v w'∧Inv P W0 N0 ops.toList T0 m0 w0 (upd L i true) (don.set i true) (rds.filter fun r=>!(((before ops.toList).getD i 0).testBit r.i)) (putT tmps o.dst v) w' (upd val i v) (upd kf i 0) (upd mk i false) m' W' ts'∧
      Steps P (lone (b.atR ⟨ts,ds⟩ (.inRegion ops (i::rest)::k)) cs W) (lone (b.atR ⟨ts',ds⟩ (.inRegion ops rest::k)) cs W'):=by
  have ho':ops[i]? =some o:=by rw[←yQ4];exact ho
  have hlt:i<ops.toList.length:=(yQt.1 ho).1;have hltd:i<don.length:=by rw[hi.len];exact hlt
  have hLi:L i=false:=by rw[←gQh];intro e;have:=hi.sub i e;rw[hd]at this;simp at this
  have hbD:∀k,Bf ops.toList i k→Dn don k=true:=fun k hk=>hi.sub k (hb k hk);obtain⟨hop,hgu⟩:=oJz reg (T0:=T0) (val:=val) ho hi.dcD hi.dcL hd hLi hbD hb;rw[←hi.tm]at hop hgu;have fin:∀{v:AV} {w':AW} {m':Emb} {W':World} {cv:Value},K v w'→VR m' v cv→Rel W0 N0 m' w' W'→Ext m m' w w'→
      Steps P (lone (b.atR ⟨ts,ds⟩ (.inRegion ops (i::rest)::k)) cs W) (lone (b.atR ((Act.mk ts ds).put o.dst cv) (.inRegion ops rest::k)) cs W')→
      ∃v w' m' W' ts',K v w'∧Inv P W0 N0 ops.toList T0 m0 w0 (upd L i true) (don.set i true) (rds.filter fun r=>!(((before ops.toList).getD i 0).testBit r.i)) (putT tmps o.dst v) w' (upd val i v) (upd kf i 0) (upd mk i false) m' W' ts'∧
        Steps P (lone (b.atR ⟨ts,ds⟩ (.inRegion ops (i::rest)::k)) cs W) (lone (b.atR ⟨ts',ds⟩ (.inRegion ops rest::k)) cs W'):=by
    intro v w' m' W' cv hK hv hrel hext hst;refine⟨v,w',m',W',((Act.mk ts ds).put o.dst cv).tmps,hK,⟨by rw[yQ0];exact hi.len,fun j hj=>?_,?_,hi.dcL.insert hb,fun j oj hoj hk hdj=>?_,?_,?_,hrel,hi.ext.trans hext,hi.pos,fun j oj hoj hdj hLj=>?_,fun j hj=>?_,fun a c ha hc hac=>?_,fun j hj=>?_⟩,?_⟩
    · rw[xJp hltd]
      by_cases e:j=i
      · simp[upd,e]
      · simp only[upd,e,if_false]at hj ⊢;exact hi.sub j hj
    · rw[xJp hltd];exact hi.dcD.insert hbD
    · rw[xJp hltd]at hdj
      by_cases e:j=i
      · simp[upd,e]
      · simp only[upd,e,if_false]at hdj ⊢;exact hi.eff j oj hoj hk hdj
    · rw[xJp hltd,cJq reg hi.dcD ho hd,←hi.tm]
    · rw[cJq reg hi.dcL ho hLi]
      exact pJ7 (hi.vts.mono hext.le) hv o.dst
    · have e:j≠i:=fun e=>by subst e;simp[upd]at hLj
      simp only[upd,e,if_false]at hLj;rw[xJp hltd]at hdj;have hdj':Dn don j=true:=by simpa [upd,e]using hdj
      refine(hi.pend j oj hoj hdj' hLj).out v 0 false hd e ?_ (fun r hr hri=>?_) hext.size (fun b' hb' hm=>⟨?_,hext.keep b' hb' hm⟩)
      · intro k hk
        rw[xJp hltd];simp only[upd];split
        · rfl
        · exact hk
      · refine List.mem_filter.2 ⟨hr,?_⟩
        rw[hri]
        cases hbit:((before ops.toList).getD i 0).testBit j with
        | false=>rfl
        | true=>have:=hb j hbit;rw[hLj]at this;simp at this
      · cases hm':m' b' with
        | none=>rfl
        | some p=>
          rcases hext.new b' p hm' with h | h
          · rw[hm]at h;simp at h
          · omega
    · have e:j≠i:=fun e=>by subst e;simp[upd]at hj
      simp only[upd,e,if_false]at hj ⊢;have:=hi.kfb j hj;have:=hext.size;omega
    · have e:a≠i:=fun e=>by subst e;simp[upd]at ha
      have e':c≠i:=fun e=>by subst e;simp[upd]at hc
      simp only[upd,e,e',if_false]at ha hc ⊢;exact hi.inj a c ha hc hac
    · have e:j≠i:=fun e=>by subst e;simp[upd]at hj
      simp only[upd,e,if_false]at hj;rw[xJp hltd];simp only[upd,e,if_false];exact hi.mkd j hj
    · rw[←zQk];exact hst
  split at hs
  · rename_i hw
    rw[hgu]at hw;obtain⟨v,w',m',cv,W',hK,hv,hrel,hext,hst⟩:=hJf (ds:=ds) hok.call hok.yield hi.rel hi.vts ho' hw (eJd hop hs) b rest k cs;exact fin hK hv hrel hext hst
  · rename_i hw
    rw[hgu]at hw;exact fin hs VR.undef hi.rel (Ext.refl _ _) (uJd hi.vts ho' (by simpa using hw) b rest k cs)
end
end Go.Sx
namespace Go.Sx
section
variable {P:Program}{W0:World}{N0:Nat}{ops:Array Oper}
theorem nJl {l:List Oper}{don:List Bool}(hl:don.length=l.length){i:Nat}(hi:i<l.length):
  (l.zipIdx.zip don)[i]'(by simp[hl,hi])=((l[i],i),don[i]'(by omega)):=by
 simp
theorem aJ5 {l:List Oper}{don:List Bool}(hl:don.length=l.length)(h:(l.zipIdx.zip don).find? (fun x=>!x.2)=none):∀i,i<l.length→Dn don i=true:=by
 intro i hi;have hm:((l[i],i),don[i]'(by omega))∈l.zipIdx.zip don:=by
  rw[←nJl hl hi];exact gQp _
 have:=List.find?_eq_none.1 h _ hm;simp only[gQh,Bool.not_eq_false']at this;simp only[Dn,yQj];rw[yQn (by omega:i<don.length)];exact this
theorem lJq {l:List Oper}{don:List Bool}(hl:don.length=l.length){o:Oper}{i:Nat}{bb:Bool}(h:(l.zipIdx.zip don).find? (fun x=>!x.2)=some ((o,i),bb)):
  l[i]? =some o∧Dn don i=false∧∀j,j<i→Dn don j=true:=by
 obtain⟨hp,k,hk,he,hlt⟩:=List.find?_eq_some_iff_getElem.1 h;have hkl:k<l.length:=by simp at hk;omega
 rw[nJl hl hkl]at he;simp only[Prod.mk.injEq]at he;obtain⟨⟨ho,rfl⟩,hb⟩:=he;refine⟨by rw[yQn hkl,ho],?_,fun j hj=>?_⟩
 ·simp only[Dn,yQj];rw[yQn (by omega:k<don.length),hb];simpa using hp
 ·have:=hlt j hj;rw[nJl hl (by omega)]at this;simp only[Dn,yQj];rw[yQn (by omega:j<don.length)];simpa using this
theorem kJr(l:List Oper):l.zipIdx.Pairwise (fun x y=>x.2<y.2):=by
 rw[List.pairwise_iff_getElem];intro i j hi hj hij;simp;exact hij
theorem qQl {n:Nat}{L:Nat→Bool}{i:Nat}(hi:i<n)(hL:L i=false):(List.range n).countP (fun j=>!(upd L i true) j)+1=(List.range n).countP (fun j=>!L j):=by
  induction n with
  | zero=>omega
  | succ n ih=>
    rw[List.range_succ,List.countP_append,List.countP_append];by_cases e:i=n
    · subst e
      have h1:(List.range i).countP (fun j=>!(upd L i true) j)=(List.range i).countP (fun j=>!L j):=by
        refine List.countP_congr fun j hj=>?_;have:j≠i:=by have:=List.mem_range.1 hj;omega
        simp[upd,this]
      rw[h1];simp[upd,hL]
    · have:=ih (by omega)
      have hne:n≠i:=fun h=>e h.symm;have h2:([n].countP fun j=>!(upd L i true) j)=[n].countP fun j=>!L j:=by simp[upd,hne]
      rw[h2];omega
def qQo(P:Program)(rec:Task→(Res→Prop)→Prop)(l:List Oper)(n:Nat)(don:List Bool)(rds:List Rd)(tmps:Tm)(w:AW)(K:Tm→AW→Prop):Prop:=
  match(l.zipIdx.zip don).find? (fun x=>!x.2)with
  | none=>K tmps w
  | some ((o,i),_)=>xJu i ((before l).getD i 0) don=true∧
    if zJc l tmps o.guard=true then
      wOp P rec w tmps o.op fun v w''=>jJo P rec l (before l) n (don.set i true) (rds.filter fun r=>!(((before l).getD i 0).testBit r.i)) (putT tmps o.dst v) w'' K
    else jJo P rec l (before l) n (don.set i true) (rds.filter fun r=>!(((before l).getD i 0).testBit r.i)) (putT tmps o.dst Go.Sx.undef) w K
theorem pJf {rec:Task→(Res→Prop)→Prop}{l:List Oper}{n:Nat}{don:List Bool}{rds:List Rd}{tmps:Tm}{w:AW}{K:Tm→AW→Prop}(h:jJo P rec l (before l) n don rds tmps w K):
    ∃n' don' rds' tmps' w',xJd P l (before l) l.zipIdx don rds tmps w=some (don',rds',tmps',w')∧(∀r∈rds',xJ8 P l w' r)∧qQo P rec l n' don' rds' tmps' w' K:=by
  cases n with
  | zero=>exact h.elim
  | succ n=>
    obtain⟨don',rds',tmps',w',h1,h2,h3⟩:=h;exact⟨n,don',rds',tmps',w',h1,h2,h3⟩
theorem tJl {l:List Oper}{T0:Tm}{val:Nat→AV}{S:Nat→Bool}(h:∀k,S k=false):∀n,TS l T0 val S n=T0
 | 0=>rfl
 | n+1=>by simp only[TS,h n];exact tJl h n
theorem xQp(reg:Reg P ops.toList){rec:Task→(Res→Prop)→Prop}(hok:Ok P W0 N0 rec){T0:Tm}{m0:Emb}{w0:AW}{K:Tm→AW→Prop}(ds:List Deferred)(b:Frame)(k:List Item)(cs:List Frame):
    ∀(fuel t:Nat) (listed:Array Bool) (n:Nat) (don:List Bool) (rds:List Rd) (tmps:Tm) (w:AW) (val:Nat→AV) (kf:Nat→Nat) (mk:Nat→Bool) (m:Emb) (W:World) (ts:Array Value),listed.size=ops.size→
      (List.range ops.size).countP (fun i=>!listed.getD i false)≤fuel→Inv P W0 N0 ops.toList T0 m0 w0 (fun i=>listed.getD i false) don rds tmps w val kf mk m W ts→(∀r∈rds,xJ8 P ops.toList w r)→
      (∀(i:Nat) (o:Oper),ops.toList[i]? =some o→opKd P o.op≠ .eff→(∀k,Bf ops.toList i k→Dn don k=true)→Dn don i=true)→qQo P rec ops.toList n don rds tmps w K→
      ∃tmps' w' m' ts' W',K tmps' w'∧VRs m' tmps' (ts':Array Value).toList∧Rel W0 N0 m' w' W'∧Ext m0 m' w0 w'∧
        Steps P (lone (b.atR ⟨ts,ds⟩ (.inRegion ops (Region.linearise.go .any ops fuel t listed [])::k)) cs W) (lone (b.atR ⟨ts',ds⟩ (.inRegion ops []::k)) cs W'):=by
  -- all is done
  have done:∀(listed:Array Bool) (n:Nat) (don:List Bool) (rds:List Rd) (tmps:Tm) (w:AW) (val:Nat→AV) (kf:Nat→Nat) (mk:Nat→Bool) (m:Emb) (W:World) (ts:Array Value),
      (∀i,i<ops.size→listed.getD i false=true)→Inv P W0 N0 ops.toList T0 m0 w0 (fun i=>listed.getD i false) don rds tmps w val kf mk m W ts→qQo P rec ops.toList n don rds tmps w K→
      ∃tmps' w' m' ts' W',K tmps' w'∧VRs m' tmps' (ts':Array Value).toList∧Rel W0 N0 m' w' W'∧Ext m0 m' w0 w'∧
        Steps P (lone (b.atR ⟨ts,ds⟩ (.inRegion ops []::k)) cs W) (lone (b.atR ⟨ts',ds⟩ (.inRegion ops []::k)) cs W'):=by
    intro listed n don rds tmps w val kf mk m W ts hall hi hc;have hD:∀i,i<ops.toList.length→Dn don i=true:=fun i h=>hi.sub i (hall i (by simpa using h));unfold qQo at hc;split at hc
    · refine⟨tmps,w,m,ts,W,hc,?_,hi.rel,hi.ext, .refl _ _⟩
      rw[hi.tm,cJr (S':=fun i=>listed.getD i false) (val':=val) _ (fun k hk=>by rw[hD k hk];exact(hall k (by simpa using hk)).symm) (fun _ _ _=>rfl)];exact hi.vts
    · rename_i o i bb hf
      obtain⟨ho,hd,_⟩:=lJq hi.len hf;rw[hD i (yQt.1 ho).1]at hd;simp at hd
  intro fuel
  induction fuel with
  | zero=>
    intro t listed n don rds tmps w val kf mk m W ts hsz hcount hi chk hcomp hc;simp only[Region.linearise.go,List.reverse_nil];refine done listed n don rds tmps w val kf mk m W ts (fun i hlt=>?_) hi hc;have h0:(List.range ops.size).countP (fun i=>!listed.getD i false)=0:=by omega
    have:=List.countP_eq_zero.1 h0 i (List.mem_range.2 hlt);simpa using this
  | succ fuel ih=>
    intro t listed n don rds tmps w val kf mk m W ts hsz hcount hi chk hcomp hc;simp only[Region.linearise.go];change∃tmps' w' m' ts' W',K tmps' w'∧VRs m' tmps' (ts':Array Value).toList∧Rel W0 N0 m' w' W'∧Ext m0 m' w0 w'∧
        Steps P (lone (b.atR ⟨ts,ds⟩ (.inRegion ops (match(Region.ready .any ops listed)[t % (Region.ready .any ops listed).length]? with
          | some i=>Region.linearise.go .any ops fuel (t / (Region.ready .any ops listed).length) (listed.setIfInBounds i true) [i]
          | none=>[].reverse)::k)) cs W) (lone (b.atR ⟨ts',ds⟩ (.inRegion ops []::k)) cs W')
    cases hri:(Region.ready .any ops listed)[t % (Region.ready .any ops listed).length]? with
    | none=>
      have hnil:Region.ready .any ops listed=[]:=by
        cases hr:Region.ready .any ops listed with
        | nil=>rfl
        | cons x xs=>
          rw[hr]at hri;have hlt:t % (x::xs).length<(x::xs).length:=Nat.mod_lt _ (by simp);rw[List.getElem?_eq_none_iff]at hri;omega
      refine done listed n don rds tmps w val kf mk m W ts (fun i hlt=>?_) hi hc
      induction i using Nat.strongRecOn with
      | _ i ihi=>
        cases hLi:listed.getD i false with
        | true=>rfl
        | false=>
          exfalso;have hgt:listed.getD i true=false:=by
            simp only[Array.getD_eq_getD_getElem?]at hLi ⊢;rw[Array.getElem?_eq_getElem (by omega:i<listed.size)]at hLi ⊢;exact hLi
          have:i∈Region.ready .any ops listed:=by
            rw[mem_ready];refine⟨hgt,ops[i],Array.getElem?_eq_getElem hlt,fun e he hb=>?_⟩;have hlt':=reg.lt i ops[i] (by rw[yQ4,Array.getElem?_eq_getElem hlt]) e (by simpa using he) hb;exact ihi e.on hlt' (by omega)
          rw[hnil]at this;cases this
    | some i=>
      simp only[];rw[linearise_go_acc,List.reverse_singleton,List.singleton_append];obtain⟨hgt,o,ho',hall⟩:=mem_ready.1 (List.mem_of_getElem? hri);have ho:ops.toList[i]? =some o:=by rw[yQ4];exact ho'
      have hlt:i<ops.size:=(gQe.1 ho').1;have hL:listed.getD i false=false:=by
        simp only[Array.getD_eq_getD_getElem?]at hgt ⊢;rw[Array.getElem?_eq_getElem (by omega:i<listed.size)]at hgt ⊢;exact hgt
      have hb:∀k,Bf ops.toList i k→listed.getD k false=true:=fun k hk=>by
        obtain⟨e,he,hbind,h⟩:=(kQj reg.lt ho k).1 hk;have h1:=hall e (by simpa using he) hbind;rcases h with rfl | h
        · exact h1
        · exact hi.dcL e.on h1 k h
      have hLs:(fun j=>(listed.setIfInBounds i true).getD j false)=upd (fun j=>listed.getD j false) i true:=by
        funext j;simp only[upd,Array.getD_eq_getD_getElem?];by_cases e:j=i
        · subst e
          simp[hsz,hlt]
        · have e':¬ i=j:=fun h=>e h.symm
          simp[e,Array.getElem?_setIfInBounds,e']
      have hcnt:(List.range ops.size).countP (fun j=>!(listed.setIfInBounds i true).getD j false)≤fuel:=by
        have h1:=qQl (L:=fun j=>listed.getD j false) hlt hL;have h2:(fun j=>!(listed.setIfInBounds i true).getD j false)=fun j=>!(upd (fun j=>listed.getD j false) i true) j:=by
          rw[←hLs]
        rw[h2];omega
      have hsz':(listed.setIfInBounds i true).size=ops.size:=by simpa using hsz
      cases hd:Dn don i with
      | true=>
        obtain⟨m1,W1,ts1,hi1,hst⟩:=cJ2 (P:=P) reg hi chk ho hd hL hb ds b (Region.linearise.go .any ops fuel (t / (Region.ready .any ops listed).length) (listed.setIfInBounds i true) []) k cs;rw[←hLs]at hi1;obtain⟨tmps',w',m',ts',W',h1,h2,h3,h4,h5⟩:=ih (t / (Region.ready .any ops listed).length) _ n don rds tmps w val kf mk m1 W1 ts1 hsz' hcnt hi1 chk hcomp hc;exact⟨tmps',w',m',ts',W',h1,h2,h3,h4,hst.trans h5⟩
      | false=>
        have hk:opKd P o.op= .eff:=by
          cases hk:opKd P o.op with
          | eff=>rfl
          | _=>
            have:=hcomp i o ho (by rw[hk];simp) fun k hbk=>hi.sub k (hb k hbk);rw[hd]at this;simp at this
        unfold qQo at hc;split at hc
        · rename_i hf
          have:=aJ5 hi.len hf i (by simpa using hlt);rw[hd]at this;simp at this
        · rename_i o0 i0 bb hf
          obtain⟨ho0,hd0,hless⟩:=lJq hi.len hf;obtain⟨had,hc⟩:=hc;have hbf0:=(yJ7 reg).1 had;have hk0:opKd P o0.op= .eff:=by
            cases hk0:opKd P o0.op with
            | eff=>rfl
            | _=>
              have:=hcomp i0 o0 ho0 (by rw[hk0];simp) hbf0;rw[hd0]at this;simp at this
          have hii:i0=i:=by
            rcases Nat.lt_trichotomy i0 i with h | h | h
            · have hbi:=reg.eff i0 i o0 o ho0 ho hk0 hk h
              have:=hi.sub i0 (hb i0 hbi);rw[hd0]at this;simp at this
            · exact h
            · have:=hless i h
              rw[hd]at this;simp at this
          subst hii;rw[ho]at ho0;cases ho0;obtain⟨v,w1,m1,W1,ts1,hK,hi1,hst⟩:=zQw (P:=P) reg hok hi ho hd hb ds b (Region.linearise.go .any ops fuel (t / (Region.ready .any ops listed).length) (listed.setIfInBounds i0 true) []) k cs (K:=fun v w''=>
            jJo P rec ops.toList (before ops.toList) n (don.set i0 true) (rds.filter fun r=>!(((before ops.toList).getD i0 0).testBit r.i)) (putT tmps o.dst v) w'' K) hc
          rw[←hLs]at hi1;obtain⟨n',don',rds',tmps',w',hq,hchk,hc'⟩:=pJf hK;obtain⟨val',kf',mk',hi2,_,hcomp'⟩:=bJb reg ops.toList.zipIdx _ _ _ _ _ _ _ _ _ _ _ (fun x hx=>by
            obtain⟨o,i⟩:=x;exact List.mem_zipIdx_iff_getElem?.1 hx) (kJr _) hi1 hq
          obtain⟨tmps2,w2,m2,ts2,W2,h1,h2,h3,h4,h5⟩:=ih (t / (Region.ready .any ops listed).length) _ n' don' rds' tmps' w' val' kf' mk' m1 W1 ts1 hsz' hcnt hi2 hchk
            (fun j oj hoj hkj hbj=>hcomp' (oj,j) (List.mem_zipIdx_iff_getElem?.2 hoj) hkj hbj) hc'
          exact⟨tmps2,w2,m2,ts2,W2,h1,h2,h3,h4,hst.trans h5⟩
theorem wQm(P:Program)(W0:World)(N0:Nat)(rec:Task→(Res→Prop)→Prop)(hok:Ok P W0 N0 rec):kQh P W0 N0 rec:=by
 intro ops tmps w K hw m W ts ds b k cs t h ht;obtain⟨hreg,hph⟩:=hw;have reg:=rJm hreg;obtain⟨n',don',rds',tmps',w',hq,hchk,hc⟩:=pJf hph;have hf:∀i,Dn (List.replicate ops.toList.length false) i=false:=fun i=>by
  simp only[Dn,yQj,List.getElem?_replicate];split<;>rfl
 have hL:∀i,(Array.replicate ops.size false).getD i false=false:=fun i=>by
  simp only[Array.getD_eq_getD_getElem?,Array.getElem?_replicate];split<;>rfl
 have init:Inv P W0 N0 ops.toList tmps m w (fun i=>(Array.replicate ops.size false).getD i false) (List.replicate ops.toList.length false) [] tmps w (fun _=>Go.Sx.undef) (fun _=>0) (fun _=>false) m W ts:=by
  refine⟨by simp,fun i hi=>?_,fun i hi=>?_,fun i hi=>?_,fun i o _ _ hi=>?_,?_,?_,h,Ext.refl _ _,h.pos,fun i o _ hi=>?_,by simp,by simp,by simp⟩
  ·rw[hL]at hi;simp at hi
  ·rw[hf]at hi;simp at hi
  ·simp only[hL]at hi;simp at hi
  ·rw[hf]at hi;simp at hi
  ·rw[tJl hf]
  ·rw[tJl hL];exact ht
  ·rw[hf]at hi;simp at hi
 obtain⟨val',kf',mk',hi2,_,hcomp'⟩:=bJb reg ops.toList.zipIdx _ _ _ _ _ _ _ _ _ _ _ (fun x hx=>by
  obtain⟨o,i⟩:=x;exact List.mem_zipIdx_iff_getElem?.1 hx) (kJr _) init hq
 exact xQp reg hok ds b k cs ops.size t (Array.replicate ops.size false) n' don' rds' tmps' w' val' kf' mk' m W ts (by simp) (by
  refine gQt List.countP_le_length ?_;simp) hi2 hchk (fun j oj hoj hkj hbj=>hcomp' (oj,j) (List.mem_zipIdx_iff_getElem?.2 hoj) hkj hbj) hc
end
end Go.Sx
