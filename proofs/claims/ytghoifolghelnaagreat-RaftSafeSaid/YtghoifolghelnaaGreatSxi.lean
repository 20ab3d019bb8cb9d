/-
 Code,calls and loops over functions: the model does what the abstract machine says.
 No condition beyond those that each theorem names.
-/
import Derived.Test.YtghoifolghelnaaGreatSxh
import Derived.AtR
set_option linter.unusedVariables false
set_option linter.unusedSimpArgs false
namespace Go.Sx
section
variable {P:Program}{W0:World}{N0:Nat}{m:Emb}{w:AW}{W:World}{tmps:Tm}{ts:Array Value}{ds:List Deferred}
def Applied(P:Program)(fr0:Frame)(cs0:List Frame)(Wst:World)(fr:Frame)(cs:List Frame)(s:Sem Next)(W:World):Prop:=
 (stepG P true {frame:=fr0,callers:=cs0,status:= .running,dying:=none} Wst).bare=(stepG.apply P true fr cs none s W).bare
def xJw(fr:Frame):Prop:=(match fr.todo with | .call _ true _ _::_=>CallKind.wrapped | _=> .normal)= .normal
theorem Applied.value {fr0 fr:Frame}{cs0 cs:List Frame}{Wst W':World}{s:Sem Next}{v:Value}(h:Applied P fr0 cs0 Wst fr cs s W)(hr:s.run P W= .ok (.value v) W'):
  step P (lone fr0 cs0 Wst)= .next (lone (fr.finish v) cs W'):=step_lone_go (by rw[h];simp[stepG.apply,hr])
theorem Applied.skip {fr0 fr:Frame}{cs0 cs:List Frame}{Wst W':World}{s:Sem Next}(h:Applied P fr0 cs0 Wst fr cs s W)(hr:s.run P W= .ok .skip W'):
  step P (lone fr0 cs0 Wst)= .next (lone (fr.finish Go.undef) cs W'):=step_lone_go (by rw[h];simp[stepG.apply,hr])
theorem Applied.enter {fr0 fr:Frame}{cs0 cs:List Frame}{Wst W':World}{s:Sem Next}{f:FuncId}{args:Array Value}(h:Applied P fr0 cs0 Wst fr cs s W)
  (hk:xJw fr) (hr:s.run P W= .ok (.enter f args) W'):step P (lone fr0 cs0 Wst)= .next (lone (Frame.enter P f args .normal) (fr::cs) W'):=
 step_lone_go (by
  rw[h];unfold xJw at hk;simp only[stepG.apply,Sem.runT_eq,hr,GStep.bare_after,if_true];exact congrArg (fun kd=>GStep.go {frame:=Frame.enter P f args kd,callers:=fr::cs,status:= .running,dying:=none} W') hk)
theorem Applied.round {fr0 fr:Frame}{cs0 cs:List Frame}{Wst W':World}{s:Sem Next}{l:Nat}{f:FuncId}{ts:Array Value}{a b:Code}(h:Applied P fr0 cs0 Wst fr cs s W)
  (hr:s.run P W= .ok (.round l f ts a b) W'):step P (lone fr0 cs0 Wst)= .next (lone (Frame.round l f ts a b .normal) (fr::cs) W'):=
 step_lone_go (by rw[h];simp[stepG.apply,hr])
def yJk(P:Program)(fr:Frame)(cs:List Frame)(s:Sem Next)(W:World)(cv:Value)(W':World):Prop:=
 ∀fr0 cs0 Wst,Applied P fr0 cs0 Wst fr cs s W→Steps P (lone fr0 cs0 Wst) (lone (fr.finish cv) cs W')
def Post(W0:World)(N0:Nat)(K:AV→AW→Prop)(m:Emb)(w:AW)(go:Value→World→Prop):Prop:=
 ∃v w' m' cv W',K v w'∧VR m' v cv∧Rel W0 N0 m' w' W'∧Ext m m' w w'∧go cv W'
theorem Fits.fam {k:Nat}{ob:AO}{O:Obj}{room:Nat}(h:Fits m k ob O room):∀cs f own d,ob= .cells cs f own d→f=k:=by
 intro cs f own d e;subst e;exact h.1
theorem pJj(h:Rel W0 N0 m w W)(ht:VRs m tmps ts.toList){o:Oper}{K:AV→AW→Prop}(hs:kJ0 K (qJp P w tmps o.op))(fr:Frame)(cs:List Frame):
  Post W0 N0 K m w (yJk P fr cs (execOp (Act.mk ts ds).eval o) W):=by
 obtain⟨v,w',he,hK⟩:=hs;unfold qJp at he;have pur:(qJ7 P w tmps o.op).map (fun v=>(v,w))=some (v,w')→Post W0 N0 K m w (yJk P fr cs (execOp (Act.mk ts ds).eval o) W):=by
  intro he;simp only[yQl]at he;obtain⟨v',hp,he⟩:=he;cases he;obtain⟨cv,W',hr,hv,hso⟩:=uJm (ds:=ds) h ht hp;exact⟨v,w,m,cv,W',hK,hv,h.soft hso,Ext.refl _ _,fun fr0 cs0 Wst ha=> .one (ha.value hr)⟩
 split at he
 ·exact pur he
 ·exact pur he
 ·simp only[yQl]at he;obtain⟨⟨v',ob⟩,hp,he⟩:=he;cases he;have hno:m w.size=none:=by
   cases hm:m w.size with
   | none=>rfl
   | some p=>exact absurd (h.dom _ _ hm) (gQx _)
  obtain⟨cv,W',O,room,hr,hW,hE,hv,hf⟩:=mJc (ds:=ds) (W:=W) ht rfl hp hno;obtain⟨hle,hrel⟩:=(h.grow ob hf.fam).bind (k:=w.size) hno (by simp) (by have:=h.pos;omega) (by simp) hf hW hE;exact⟨_,w.push ob,_,cv,W',hK,hv,hrel,Ext.push h ob _,fun fr0 cs0 Wst ha=> .one (ha.value hr)⟩
 ·obtain⟨nx,W',m',hr,hn,hrel,hext⟩:=qQi (ds:=ds) h ht he;cases nx<;>simp only[xQ9]at hn
  case value cv=>exact⟨_,w',m',cv,W',hK,hn,hrel,hext,fun fr0 cs0 Wst ha=> .one (ha.value hr)⟩
  case skip=>
   subst hn;exact⟨_,w',m',Go.undef,W',hK,VR.undef,hrel,hext,fun fr0 cs0 Wst ha=> .one (ha.skip hr)⟩
theorem iJs(h:Rel W0 N0 m w W)(ht:VRs m tmps ts.toList){o:Oper}{i:Operand}{t:Bool}{K:AV→AW→Prop}(ho:o.op= .next i t)(hs:vJz w tmps i t K)(fr:Frame)(cs:List Frame):
  Post W0 N0 K m w (yJk P fr cs (execOp (Act.mk ts ds).eval o) W):=by
 obtain⟨b,hb,hs⟩:=hs;have hvb:=qJj (ds:=ds) ht hb;simp only[VR]at hvb;obtain⟨q,hq,he⟩:=hvb;obtain⟨ob,hg,hob⟩:=h.obj b q hq;have hex:∀{cv:Value} {W':World},(Instr.next (.pointer (some ⟨q.blk,q.off+0,none⟩)) t o.type).run P W= .ok cv W'→(execOp (Act.mk ts ds).eval o).run P W= .ok (.value cv) W':=by
  intro cv W' hr;unfold execOp;rw[ho];refine gJj ?_;rw[he];exact hr
 split at hs
 ·rename_i s p hget;rw[hget]at hg;cases hg;obtain⟨hN,h0,bs,hW,hbs⟩:=hob;have hbs':bs=⟨s.toArray⟩:=by
   cases bs;simp at hbs;congr 1;exact Array.ext' (by simpa using hbs)
  have hsz:bs.size=s.length:=by rw[←hbs];rfl
  unfold fJx at hs;by_cases hlt:p<s.length
  ·have:Nat.blt p s.length=true:=by simp[Nat.blt];omega
   rw[this]at hs;simp only[cond_true]at hs;have hr:(Instr.next (.pointer (some ⟨q.blk,q.off+0,none⟩)) true o.type).run P W=
     .ok (.tuple #[.bool true,goInt p,.int .i32 (Utf8.decode bs p).1]) (zJh W q.blk (.stringIter bs (p+(Utf8.decode bs p).2))):=by
    unfold Instr.next;rw[h0];simp only[];rw[qJb (zJa hW (by simp))];have c:p<bs.size:=by rw[hsz];exact hlt
    simp only[c,if_true];rw[qJb (jJ8 hW (by simp))];rfl
   have hrel:=h.setObj hq (.strIter s p) (.strIter s (p+(Utf8.decode ⟨s.toArray⟩ p).2)) (.stringIter bs (p+(Utf8.decode bs p).2)) hget (by simp) (by simp) (by simp)
    ⟨hN,h0,bs,by rw[←hbs'];exact zJu hW,hbs⟩ hN
   refine⟨_,_,m,_,_,hs,?_,hrel,Ext.setOb hq _,fun fr0 cs0 Wst ha=> .one (ha.value (hex hr))⟩;simp only[VR];refine⟨_,rfl,?_⟩;refine VRs.cons (by simp[VR]) (VRs.cons (by simp[VR];rfl) (VRs.cons (by simp only[VR];rw[hbs']) VRs.nil))
  ·have:Nat.blt p s.length=false:=by rw[←gQh];simp[Nat.blt];omega
   rw[this]at hs;simp only[cond_false]at hs;have hr:(Instr.next (.pointer (some ⟨q.blk,q.off+0,none⟩)) true o.type).run P W= .ok (.tuple #[.bool false]) W:=by
    unfold Instr.next;rw[h0];simp only[];rw[qJb (zJa hW (by simp))];have c:¬ p<bs.size:=by rw[hsz];exact hlt
    simp only[c,if_false];rfl
   refine⟨_,_,m,_,_,hs,?_,h,Ext.refl _ _,fun fr0 cs0 Wst ha=> .one (ha.value (hex hr))⟩;simp only[VR];exact⟨_,rfl,VRs.cons (by simp[VR]) VRs.nil⟩
 ·rename_i hget;rw[hget]at hg;cases hg;obtain⟨hN,h0,s,t',u,hW⟩:=hob;have hr:(Instr.next (.pointer (some ⟨q.blk,q.off+0,none⟩)) false o.type).run P W= .ok (.tuple #[.bool false]) W:=by
   unfold Instr.next;rw[h0];simp only[];rw[qJb (zJa hW (by simp))];rfl
  refine⟨_,_,m,_,_,hs,?_,h,Ext.refl _ _,fun fr0 cs0 Wst ha=> .one (ha.value (hex hr))⟩;simp only[VR];exact⟨_,rfl,VRs.cons (by simp[VR]) VRs.nil⟩
 ·rename_i hget;obtain⟨v,w',cv,W',hK,hv,hrel,hext,hr⟩:=jQr (P:=P) h hq hget hs o.type;exact⟨v,w',m,cv,W',hK,hv,hrel,hext,fun fr0 cs0 Wst ha=> .one (ha.value (hex hr))⟩
 ·exact hs.elim
def hJ4(P:Program)(W0:World)(N0:Nat)(rec:Task→(Res→Prop)→Prop):Prop:=
  ∀f args w Q,rec (.call f args w) Q→∀m W (cargs:Array Value) fr cs s,Rel W0 N0 m w W→VRs m args cargs.toList→xJw fr→s.run P W=(callFunc f cargs).run P W→
    Post W0 N0 (fun v w=>Q (.val v w)) m w (yJk P fr cs s W)
def pJe(P:Program)(W0:World)(N0:Nat)(rec:Task→(Res→Prop)→Prop):Prop:=
  ∀l args w Q,rec (.yield l args w) Q→∀m W q (cargs:Array Value) fr cs s,Rel W0 N0 m w W→m l=some q→VRs m args cargs.toList→xJw fr→
    s.run P W=(Instr.yield q.blk cargs).run P W→Post W0 N0 (fun v w=>Q (.val v w)) m w (yJk P fr cs s W)
theorem gJy {rec:Task→(Res→Prop)→Prop}(hc:hJ4 P W0 N0 rec)(hy:pJe P W0 N0 rec)(h:Rel W0 N0 m w W){args:List AV}{K:AV→AW→Prop}{fv:AV}{cf:Value}{cargs:Array Value}
  (hf:VR m fv cf) (ha:VRs m args cargs.toList) (hs:jJl rec w args K fv) {fr:Frame} {cs:List Frame} (hk:xJw fr) {s:Sem Next}
  (hrun:s.run P W=(do let d←Deferred.ofValue cf cargs;invoke d.target d.args:Sem Next).run P W):Post W0 N0 K m w (yJk P fr cs s W):=by
 unfold jJl at hs;split at hs
 ·simp only[VR]at hf;obtain⟨as',bs',rfl,h1,h2⟩:=hf;refine hc _ _ _ _ hs m W (as'++cargs++bs') fr cs s h ?_ hk ?_
  ·simp only[Array.toList_append,yQy];exact h1.append (ha.append h2)
  ·rw[hrun];rfl
 ·simp only[VR]at hf;obtain⟨q,hq,rfl⟩:=hf;refine hy _ _ _ _ hs m W q cargs fr cs s h hq ha hk ?_;rw[hrun];show(Instr.yield q.blk (#[]++cargs)).run P W=_;simp
 ·exact hs.elim
theorem jQk {rec:Task→(Res→Prop)→Prop}(hc:hJ4 P W0 N0 rec)(hy:pJe P W0 N0 rec)(h:Rel W0 N0 m w W)(ht:VRs m tmps ts.toList){o:Oper}{K:AV→AW→Prop}
  (hs:wOp P rec w tmps o.op K) {fr:Frame} (cs:List Frame) (hk:xJw fr):Post W0 N0 K m w (yJk P fr cs (execOp (Act.mk ts ds).eval o) W):=by
 unfold wOp at hs;split at hs
 ·rename_i c hop;unfold xJ6 at hs;split at hs
  ·rename_i f hcal;obtain⟨fv,as,hfv,has,hcv⟩:=hs;have hargs:VRs m as (c.args.map (Act.mk ts ds).eval).toList:=by rw[Array.toList_map];exact xJ5 ht has
   refine gJy hc hy h (qJj (ds:=ds) ht hfv) hargs hcv hk ?_;unfold execOp;rw[hop];simp only[resolve,hcal]
  ·rw[←hop]at hs;exact pJj h ht hs fr cs
  ·exact hs.elim
 ·rename_i i t hop;exact iJs h ht hop hs fr cs
 ·rename_i x hx hn;exact pJj h ht hs fr cs
end
end Go.Sx
namespace Go.Sx
section
variable {P:Program}{W0:World}{N0:Nat}{m:Emb}{w:AW}{W:World}{tmps:Tm}{ts:Array Value}{ds:List Deferred}
/-! ### Guards -/
theorem VRs.none {as:List AV}{vs:List Value}(h:VRs m as vs){i:Nat}(hi:as[i]? =none):vs[i]? =none:=by
 have:=h.length;rw[List.getElem?_eq_none_iff]at hi ⊢;omega
theorem uJ3(ht:VRs m tmps ts.toList)(ops:Array Oper)(o:Oper):Region.wanted o (yielded ops ts)=zJc ops.toList tmps o.guard:=by
  unfold Region.wanted zJc
  cases o.guard with
  | none=>rfl
  | some g=>
    obtain⟨j,want⟩:=g;simp only[];unfold yielded dJe;rw[yQ4];cases hd:(ops[j]?).bind (·.dst)with
    | none=>rfl
    | some d=>
      simp only[Option.bind_some];rw[←yQ4]
      cases ha:tmps[d]? with
      | none=>rw[ht.none ha];rfl
      | some a=>
        obtain⟨v,hv,hr⟩:=ht.get ha;rw[hv];cases a<;>simp only[VR]at hr
        case bool b=>subst hr;cases b<;>cases want<;>rfl
        case str=>obtain⟨s,rfl,_⟩:=hr;rfl
        case ptr=>obtain⟨p,_,rfl⟩:=hr;rfl
        case slice=>obtain⟨p,a,cc,_,rfl,_⟩:=hr;rfl
        case map=>obtain⟨p,_,rfl⟩:=hr;rfl
        case func=>obtain⟨x,y,rfl,_⟩:=hr;rfl
        case yield=>obtain⟨p,_,rfl⟩:=hr;rfl
        case iface=>obtain⟨x,rfl,_⟩:=hr;rfl
        case agg=>obtain⟨x,rfl,_⟩:=hr;rfl
        case tup=>obtain⟨x,rfl,_⟩:=hr;rfl
        all_goals (subst hr;rfl)
theorem pJ7(ht:VRs m tmps ts.toList){v:AV}{cv:Value}(hv:VR m v cv)(dst:Option Tmp):VRs m (putT tmps dst v) ((Act.mk ts ds).put dst cv).tmps.toList:=by
  cases dst with
  | none=>exact ht
  | some d=>
    show VRs m (tmps.set d v) (ts.setIfInBounds d cv).toList;rw[Array.toList_setIfInBounds];exact ht.set d hv
/-! ### A region in its order -/
theorem bJc(b:Frame)(a:Act)(ops:Array Oper)(l:List Nat)(k:List Item):xJw (b.atR a (.inRegion ops l::k)):=rfl
theorem sJq {rec:Task→(Res→Prop)→Prop}{o:Oper}{K:AV→AW→Prop}(hs:wOp P rec w tmps o.op K):∀c,o.op≠ .defer c:=by
 intro c e;rw[e]at hs;unfold wOp at hs;simp only[kJ0,qJp,opKd]at hs;obtain⟨v,w',h,_⟩:=hs;simp[vJ4]at h
theorem hJf {rec:Task→(Res→Prop)→Prop}(hc:hJ4 P W0 N0 rec)(hy:pJe P W0 N0 rec)(h:Rel W0 N0 m w W)(ht:VRs m tmps ts.toList){ops:Array Oper}{i:Nat}{o:Oper}
    (ho:ops[i]? =some o) {K:AV→AW→Prop} (hg:zJc ops.toList tmps o.guard=true) (hs:wOp P rec w tmps o.op K) (b:Frame) (rest:List Nat) (k:List Item) (cs:List Frame):
    ∃v w' m' cv W',K v w'∧VR m' v cv∧Rel W0 N0 m' w' W'∧Ext m m' w w'∧
      Steps P (lone (b.atR ⟨ts,ds⟩ (.inRegion ops (i::rest)::k)) cs W) (lone (b.atR ((Act.mk ts ds).put o.dst cv) (.inRegion ops rest::k)) cs W'):=by
  obtain⟨v,w',m',cv,W',hK,hv,hrel,hext,hgo⟩:=jQk (ds:=ds) hc hy h ht hs cs (bJc b ⟨ts,ds⟩ ops (i::rest) k);refine⟨v,w',m',cv,W',hK,hv,hrel,hext,?_⟩;have:=hgo (b.atR ⟨ts,ds⟩ (.inRegion ops (i::rest)::k)) cs W (by
    unfold Applied;rw[stepGR_op ho (by rw[uJ3 ht];exact hg),Oper.semAt_eq _ _ _ (sJq hs)])
  rw[Frame.finish_atR,ho]at this;exact this
theorem uJd(ht:VRs m tmps ts.toList){ops:Array Oper}{i:Nat}{o:Oper}(ho:ops[i]? =some o)(hg:zJc ops.toList tmps o.guard=false)(b:Frame)(rest:List Nat)(k:List Item)(cs:List Frame):
  Steps P (lone (b.atR ⟨ts,ds⟩ (.inRegion ops (i::rest)::k)) cs W) (lone (b.atR ((Act.mk ts ds).put o.dst Go.undef) (.inRegion ops rest::k)) cs W):=by
 have:=stepR_op_skip (P:=P) (b:=b) (a:=⟨ts,ds⟩) (k:=k) (cs:=cs) (w:=W) (ops:=ops) (i:=i) (rest:=rest) (by rw[ho];simp only[Option.map_some,Option.getD_some];rw[uJ3 ht];exact hg);rw[ho]at this;exact .one this
theorem eJ5 {rec:Task→(Res→Prop)→Prop}(hc:hJ4 P W0 N0 rec)(hy:pJe P W0 N0 rec){ops:Array Oper}(b:Frame)(k:List Item)(cs:List Frame){K:Tm→AW→Prop}:
    ∀(l:List Oper) (i:Nat) (m:Emb) (w:AW) (W:World) (tmps:Tm) (ts:Array Value),ops.toList.drop i=l→Rel W0 N0 m w W→VRs m tmps ts.toList→wOps P rec ops.toList l tmps w K→
      ∃tmps' w' m' ts' W',K tmps' w'∧VRs m' tmps' ts'.toList∧Rel W0 N0 m' w' W'∧Ext m m' w w'∧
        Steps P (lone (b.atR ⟨ts,ds⟩ (.inRegion ops (List.range' i l.length)::k)) cs W) (lone (b.atR ⟨ts',ds⟩ (.inRegion ops []::k)) cs W'):=by
  intro l
  induction l with
  | nil=>
    intro i m w W tmps ts hl h ht hs;exact⟨tmps,w,m,ts,W,hs,ht,h,Ext.refl _ _, .refl _ _⟩
  | cons o l ih=>
    intro i m w W tmps ts hl h ht hs;have ho:ops[i]? =some o:=by
      rw[←yQ4];have:=congrArg (fun l=>l[0]?) hl;simpa using this
    have hl':ops.toList.drop (i+1)=l:=by
      have:=congrArg List.tail hl;simpa using this
    rw[gQd,List.range'_succ];simp only[wOps]at hs;split at hs
    · rename_i hg
      obtain⟨v,w',m',cv,W',hK,hv,hrel,hext,hgo⟩:=hJf (ds:=ds) hc hy h ht ho hg hs b (List.range' (i+1) l.length) k cs;have ht':=pJ7 (ds:=ds) (ht.mono hext.le) hv o.dst;obtain⟨tmps2,w2,m2,ts2,W2,hK2,ht2,hrel2,hext2,hgo2⟩:=ih (i+1) m' w' W' _ ((Act.mk ts ds).put o.dst cv).tmps hl' hrel ht' hK;refine⟨tmps2,w2,m2,ts2,W2,hK2,ht2,hrel2,hext.trans hext2,hgo.trans ?_⟩;have e:(Act.mk ts ds).put o.dst cv=⟨((Act.mk ts ds).put o.dst cv).tmps,ds⟩:=by cases o.dst<;>rfl
      rw[e];exact hgo2
    · rename_i hg
      have hgo:=uJd (P:=P) (ds:=ds) (W:=W) ht ho (by simpa using hg) b (List.range' (i+1) l.length) k cs;obtain⟨tmps2,w2,m2,ts2,W2,hK2,ht2,hrel2,hext2,hgo2⟩:=ih (i+1) m w W _ ((Act.mk ts ds).put o.dst Go.undef).tmps hl' h (pJ7 (ds:=ds) ht VR.undef o.dst) hs;refine⟨tmps2,w2,m2,ts2,W2,hK2,ht2,hrel2,hext2,hgo.trans ?_⟩;have e:(Act.mk ts ds).put o.dst Go.undef=⟨((Act.mk ts ds).put o.dst Go.undef).tmps,ds⟩:=by cases o.dst<;>rfl
      rw[e];exact hgo2
end
end Go.Sx
namespace Go.Sx
def DR(m:Emb):List Nat→List Deferred→Prop
 | [],ds=>ds=[]
 | a::as,ds=>∃q ds',ds={target:= .collected q.blk,args:=#[]}::ds'∧m a=some q∧DR m as ds'
theorem DR.mono {m m':Emb}(h:m.le m'):∀{as:List Nat} {ds:List Deferred},DR m as ds→DR m' as ds
  | [],_,hd=>hd
  | _::_,_,hd=>by
    obtain⟨q,ds',rfl,hq,hr⟩:=hd;exact⟨q,ds',rfl,h _ _ hq,hr.mono h⟩
def RoR(m:Emb):Option Nat→Option Nat→Prop
 | none,x=>x=none
 | some l,x=>∃q,m l=some q∧x=some q.blk
theorem RoR.mono {m m':Emb}(h:m.le m'){a b:Option Nat}(hr:RoR m a b):RoR m' a b:=by
 cases a with
 | none=>exact hr
 | some l=>obtain⟨q,hq,e⟩:=hr;exact⟨q,h _ _ hq,e⟩
def ArrA(P:Program)(M:Machine)(b:Frame)(k:List Item)(cs:List Frame)(a:Act)(W:World):zJo→Prop
 | .normal=>Steps P M (lone (b.atR a k) cs W)
 | .exit id=>∃k0,Steps P M (lone (b.atR a (.code (.exit id)::k0)) cs W)∧exitTo id k0=exitTo id k
 | .goto l=>∃k0,Steps P M (lone (b.atR a (.code (.goto l)::k0)) cs W)∧gotoIn l k0=gotoIn l k
 | .ret=>∃k0,Steps P M (lone (b.atR a (.code .ret::k0)) cs W)
theorem ArrA.of_steps {P:Program}{M M1:Machine}{b:Frame}{k:List Item}{cs:List Frame}{a:Act}{W:World}{e:zJo}(h:Steps P M M1)(ha:ArrA P M1 b k cs a W e):ArrA P M b k cs a W e:=by
 cases e with
 | normal=>exact h.trans ha
 | exit id=>obtain⟨k0,h1,h2⟩:=ha;exact⟨k0,h.trans h1,h2⟩
 | goto l=>obtain⟨k0,h1,h2⟩:=ha;exact⟨k0,h.trans h1,h2⟩
 | ret=>obtain⟨k0,h1⟩:=ha;exact⟨k0,h.trans h1⟩
theorem ArrA.pass {P:Program}{M:Machine}{b:Frame}{x:Item}{k:List Item}{cs:List Frame}{a:Act}{W:World}{e:zJo}(he:e≠ .normal)
  (hx:∀id,exitTo id (x::k)=exitTo id k) (hg:∀l,gotoIn l (x::k)=gotoIn l k) (ha:ArrA P M b (x::k) cs a W e):ArrA P M b k cs a W e:=by
 cases e with
 | normal=>exact absurd rfl he
 | exit id=>obtain⟨k0,h1,h2⟩:=ha;exact⟨k0,h1,h2.trans (hx id)⟩
 | goto l=>obtain⟨k0,h1,h2⟩:=ha;exact⟨k0,h1,h2.trans (hg l)⟩
 | ret=>exact ha
def oJ2(c:Code)(x:Item):Prop:=x= .code c∨∃b,c= .loop b∧x= .inLoop b
structure Host(P:Program)(hk:Hook)(W0:World)(N0:Nat):Prop where
 mixed:P.follows .mixedOrders=true
 num : ∀ (f : FuncId) (fn : Func), P.funcs[f]? = some fn → fn.body.isSome = true → (fn.name == "runtime.NumGoroutine") = false
 ext:∀(f:FuncId) (fn:Func) args w v w',P.funcs[f]? =some fn→fn.body=none→yJ2 w fn.name args=some (v,w')→∀m W (cargs:Array Value),Rel W0 N0 m w W→VRs m args cargs.toList→
  ∃cv W' m',(callFunc f cargs).run P W= .ok (.value cv) W'∧VR m' v cv∧Rel W0 N0 m' w' W'∧Ext m m' w w'
 hook:∀(f:FuncId) args w v w',hk f args w=some (some (v,w'))→(∃(fn:Func) (c:Code),P.funcs[f]? =some fn∧fn.body=some c)∧∀m W (cargs:Array Value),Rel W0 N0 m w W→VRs m args cargs.toList→
  Calls P f cargs W fun e W'=>∃cv m',e= .returned cv∧VR m' v cv∧Rel W0 N0 m' w' W'∧Ext m m' w w'
def kQi(P:Program)(W0:World)(N0:Nat)(rec:Task→(Res→Prop)→Prop):Prop:=
  ∀ro c s Q,rec (.code ro c s) Q→∀m W (ts:Array Value) ds (b:Frame) k cs x,Rel W0 N0 m s.w W→VRs m s.tmps ts.toList→DR m s.defers ds→RoR m ro b.roundOf→b.kind= .normal→oJ2 c x→
    ∃e s' m' ts' ds' W',Q (.ex e s')∧Rel W0 N0 m' s'.w W'∧VRs m' s'.tmps (ts':Array Value).toList∧DR m' s'.defers ds'∧Ext m m' s.w s'.w∧
      ArrA P (lone (b.atR ⟨ts,ds⟩ (x::k)) cs W) b k cs ⟨ts',ds'⟩ W' e
def zQn(P:Program)(W0:World)(N0:Nat)(rec:Task→(Res→Prop)→Prop):Prop:=
  ∀ro b0 c s Q,rec (.scope ro b0 c s) Q→∀m W (ts:Array Value) ds (b:Frame) k cs,Rel W0 N0 m s.w W→VRs m s.tmps ts.toList→DR m s.defers ds→RoR m ro b.roundOf→b.kind= .normal→
    ∃e s' m' ts' ds' W',Q (.ex e s')∧Rel W0 N0 m' s'.w W'∧VRs m' s'.tmps (ts':Array Value).toList∧DR m' s'.defers ds'∧Ext m m' s.w s'.w∧
      ArrA P (lone (b.atR ⟨ts,ds⟩ (.code c:: .inScope b0::k)) cs W) b k cs ⟨ts',ds'⟩ W' e
def kQh(P:Program)(W0:World)(N0:Nat)(rec:Task→(Res→Prop)→Prop):Prop:=
  ∀(ops:Array Oper) tmps w K,zQq P rec ops.toList tmps w K→∀m W (ts:Array Value) ds (b:Frame) k cs t,Rel W0 N0 m w W→VRs m tmps ts.toList→
    ∃tmps' w' m' ts' W',K tmps' w'∧VRs m' tmps' (ts':Array Value).toList∧Rel W0 N0 m' w' W'∧Ext m m' w w'∧
      Steps P (lone (b.atR ⟨ts,ds⟩ (.inRegion ops (Region.linearise .any ops t)::k)) cs W) (lone (b.atR ⟨ts',ds⟩ (.inRegion ops []::k)) cs W')
section
variable {P:Program}{W0:World}{N0:Nat}{m:Emb}{w:AW}{W:World}{tmps:Tm}{ts:Array Value}{ds:List Deferred}
theorem vJ3:∀(c:Code) (l:Nat),zJ6 c l=findLabel c l
  | .seq a b,l=>by
    simp only[zJ6,findLabel,vJ3 a l,vJ3 b l];cases findLabel a l<;>rfl
  | .label l',l=>by
    simp only[zJ6,findLabel];by_cases e:l'=l
    · subst e;simp
    · have h1:Nat.beq l' l=false:=by rw[←gQh];intro h;exact e (yQp h)
      have h2:(l'==l)=false:=by simpa using e
      simp[h1,h2]
  | .skip,_=>rfl
  | .ret,_=>rfl
  | .exit _,_=>rfl
  | .goto _,_=>rfl
  | .cond ..,_=>rfl
  | .block ..,_=>rfl
  | .loop _,_=>rfl
  | .region ..,_=>rfl
  | .scope _,_=>rfl
  | .rangeFunc ..,_=>rfl
  | .refuse _,_=>rfl
theorem nJv {b:Frame}{a:Act}{k:List Item}{cs:List Frame}{c:Code}:
  step P (lone (b.atR a (.code (.scope c)::k)) cs W)= .next (lone (b.atR a (.code c:: .inScope c::k)) cs W):=
 step_lone_go (by simp[stepG,stepG.exec,Frame.atR])
theorem fJd {b:Frame}{a:Act}{k:List Item}{cs:List Frame}{c:Code}:
  step P (lone (b.atR a (.inScope c::k)) cs W)= .next (lone (b.atR a k) cs W):=
 step_lone_go (by simp[stepG,stepG.exec,Frame.atR])
theorem dJ5(h:Rel W0 N0 m w W)(ht:VRs m tmps ts.toList):∀{rs:List ResultVar} {vs:List AV},jJb P w tmps rs=some vs→
    ∃cvs,(rs.mapM (fun | .tmp t=>pure (ts.getD t Go.undef) | .cell a t=>do loadVar t (←asAddr (ts.getD a Go.undef)):ResultVar→Sem Value)).run P W= .ok cvs W∧VRs m vs cvs
  | [],vs,hr=>by
    simp[jJb]at hr;subst hr;exact⟨[],rfl,VRs.nil⟩
  | r::rs,vs,hr=>by
    simp only[jJb,yQi,yQl]at hr;obtain⟨v,hv,vs',hvs,rfl⟩:=hr;obtain⟨cvs,hrun,hcv⟩:=dJ5 h ht hvs;rw[List.mapM_cons];have hgd:∀t,VR m (getT tmps t) (ts.getD t Go.undef):=fun t=>by
      have:=ht.getD t;simpa [getT,Array.getD_eq_getD_getElem?,yQj]using this
    cases r with
    | tmp t=>
      simp[yJs]at hv;subst hv;refine⟨ts.getD t Go.undef::cvs,?_,VRs.cons (hgd t) hcv⟩;simp only[bind_pure_comp,map_pure,pure_bind];exact qJb hrun
    | cell a t=>
      simp only[yJs,yQi]at hv;obtain⟨p,hp,hl⟩:=hv;rw[gJ1]at hp;have hva:=hgd a;rw[hp]at hva;simp only[VR]at hva;obtain⟨q,hq,he⟩:=hva;obtain⟨cv,hr,hcvr⟩:=dJz (P:=P) h hl hq;refine⟨cv::cvs,?_,VRs.cons hcvr hcv⟩;refine(qJb (s:=do loadVar t (←asAddr (ts.getD a Go.undef))) (by rw[he];exact hr)).trans ?_;rw[qJb hrun];rfl
theorem kJl(h:Rel W0 N0 m w W)(ht:VRs m tmps ts.toList){fn:Func}{vs:List AV}(hr:jJb P w tmps fn.results.toList=some vs):
    ∃cv,(results fn ts).run P W= .ok cv W∧VR m (one vs) cv:=by
  obtain⟨cvs,hrun,hv⟩:=dJ5 h ht hr;unfold results;rw[Array.mapM_eq_mapM_toList,bind_map_left];refine⟨_,(qJb hrun).trans rfl,?_⟩
  cases vs with
  | nil=>simp only[VRs]at hv;subst hv;simp[one,VR,VRs]
  | cons v vs=>
    simp only[VRs]at hv;obtain⟨c,cvs',rfl,hc,hs⟩:=hv
    cases vs with
    | nil=>simp only[VRs]at hs;subst hs;exact hc
    | cons v2 vs=>
      simp only[VRs]at hs;obtain⟨c2,cvs2,rfl,hc2,hs⟩:=hs;have:¬ (c::c2::cvs2).toArray.size=1:=by simp
      simp only[this,dif_neg,not_false_iff];show VR m (.tup (v::v2::vs)) _;simp only[VR];exact⟨_,rfl,VRs.cons hc (VRs.cons hc2 hs)⟩
theorem wJr(b:Frame)(todo:List Item)(cs:List Frame)(ts:Array Value):∀(as:List Nat) (m:Emb) (w w':AW) (W:World) (ds:List Deferred),Rel W0 N0 m w W→DR m as ds→kJj w as=some w'→
    ∃W',Rel W0 N0 m w' W'∧Ext m m w w'∧
      Steps P (lone {b.atR ⟨ts,ds⟩ todo with mode:= .returning} cs W) (lone {b.atR ⟨ts,[]⟩ todo with mode:= .returning} cs W')
  | [],m,w,w',W,ds,h,hd,ht=>by
    simp only[DR]at hd;subst hd;cases ht;exact⟨W,h,Ext.refl _ _, .refl _ _⟩
  | a::as,m,w,w',W,ds,h,hd,ht=>by
    obtain⟨q,ds',rfl,hq,hr⟩:=hd;simp only[kJj]at ht;split at ht
    · rename_i hg
      obtain⟨ob,hgo,hob⟩:=h.obj a q hq;rw[hg]at hgo;cases hgo;obtain⟨hN,hW⟩:=hob;have hrel:=h.setObj hq .deferred .gone (.deferred none) hg (by simp) (by simp) (by simp) ⟨hN,by simp[zJh];exact(gQe.1 hW).1⟩ hN;obtain⟨W',h1,h2,h3⟩:=wJr b todo cs ts as m _ w' _ ds' hrel hr ht;refine⟨W',h1,(Ext.setOb hq _).trans h2, .head (step_lone_go ?_) h3⟩;have hrun:(Instr.takeDeferred q.blk).run P W= .ok [] (zJh W q.blk (.deferred none)):=by
        unfold Instr.takeDeferred;rw[qJb (zJa hW (by simp))];simp only[];rw[qJb (jJ8 hW (by simp))];rfl
      simp[stepG,unwind,Frame.atR,Sem.runT_eq,hrun]
    · simp at ht
theorem sJ1(h:Rel W0 N0 m w W)(ht:VRs m tmps ts.toList){b c:Frame}{todo:List Item}{cs:List Frame}{as:List Nat}(hd:DR m as ds){w':AW}(hw:kJj w as=some w'){fn:Func}
  (hf:P.funcs[b.fn]? =some fn) (hk:b.kind= .normal) {vs:List AV} (hr:jJb P w' tmps fn.results.toList=some vs):
  ∃cv W',Rel W0 N0 m w' W'∧Ext m m w w'∧VR m (one vs) cv∧Steps P (lone {b.atR ⟨ts,ds⟩ todo with mode:= .returning} (c::cs) W) (lone (c.finish cv) cs W'):=by
 obtain⟨W',h1,h2,h3⟩:=wJr (P:=P) b todo (c::cs) ts as m w w' W ds h hd hw;obtain⟨cv,hrun,hv⟩:=kJl (P:=P) h1 ht hr;exact⟨cv,W',h1,h2,hv,h3.trans (.one (step_leave_returned ⟨rfl,rfl,hk,fn,hf,hrun⟩))⟩
end
end Go.Sx
namespace Go.Sx
structure Ok(P:Program)(W0:World)(N0:Nat)(rec:Task→(Res→Prop)→Prop):Prop where
 code:kQi P W0 N0 rec
 scope:zQn P W0 N0 rec
 call:hJ4 P W0 N0 rec
 yield:pJe P W0 N0 rec
section
variable {P:Program}{W0:World}{N0:Nat}{m:Emb}{w:AW}{W:World}{tmps:Tm}{ts:Array Value}{ds:List Deferred}{rec:Task→(Res→Prop)→Prop}{hk:Hook}
theorem bJl {l:Nat}{r:LoopA}:zJ4 w l=some r↔w.get l=some r.ob:=by
 unfold zJ4;rw[yQi];constructor
 ·rintro⟨o,ho,h⟩;cases o<;>simp[oLoop]at h;subst h;exact ho
 ·intro h;exact⟨_,h,rfl⟩
theorem Rel.loop(h:Rel W0 N0 m w W){l:Nat}{q:Pl}(hl:m l=some q){r:LoopA}(hr:zJ4 w l=some r):
  N0≤q.blk∧∃fn ts ps qd,m r.defers=some qd∧
   W.heap[q.blk]? =some (.loop {state:=r.st,pending:=r.pending,fn,tmps:=ts,params:=ps,assign:=r.assign,body:=r.body,defers:=qd.blk})∧VRs m r.tmps ts.toList∧ps.toList=r.params:=by
 obtain⟨o,hg,ho⟩:=h.obj l q hl;rw[bJl.1 hr]at hg;cases hg;obtain⟨hN,fn,ts,ps,qd,h1,_,h2,h3,h4⟩:=ho;exact⟨hN,fn,ts,ps,qd,h1,h2,h3,h4⟩
theorem Rel.setLoop(h:Rel W0 N0 m w W){l:Nat}{q:Pl}(hl:m l=some q){r:LoopA}(hr:zJ4 w l=some r)(st:LoopState)(pending:Option Code)
  {fn:FuncId} {ts:Array Value} {ps:Array Tmp} {qd:Pl} (hd:m r.defers=some qd)
  (hW:W.heap[q.blk]? =some (.loop {state:=r.st,pending:=r.pending,fn,tmps:=ts,params:=ps,assign:=r.assign,body:=r.body,defers:=qd.blk})) (ht:VRs m r.tmps ts.toList) (hp:ps.toList=r.params) (hN:N0≤q.blk):
  Rel W0 N0 m (w.set l (LoopA.ob {r with st,pending})) (zJh W q.blk (.loop {state:=st,pending,fn,tmps:=ts,params:=ps,assign:=r.assign,body:=r.body,defers:=qd.blk})):=by
 refine h.setObj hl r.ob _ _ (bJl.1 hr) (by simp[LoopA.ob]) (by simp[LoopA.ob]) (by simp[LoopA.ob]) ?_ hN;exact⟨hN,fn,ts,ps,qd,hd,trivial,zJu hW,ht,hp⟩
theorem uJg {o:Obj}:(newObj o).run P W= .ok W.heap.size (jJ4 W o):=rfl
theorem xJ9 {l:Nat}{r:Loop}(h:W.heap[l]? =some (.loop r)):(Instr.getLoop l).run P W= .ok r W:=by
 unfold Instr.getLoop;rw[qJb (zJa h (by simp))];rfl
theorem dJu(h:Rel W0 N0 m w W){ro:Option Nat}{ro':Option Nat}(hro:RoR m ro ro'){s:St}(hsw:s.w=w)(hd:DR m s.defers ds){d:Nat}{defers:List Nat}{w1:AW}(hs:kJy ro s=some (d,defers,w1)):
    ∃m1 W1 qd mark,Rel W0 N0 m1 w1 W1∧m1 d=some qd∧DR m1 defers (mark++ds)∧Ext m m1 w w1∧
      ∀fn tmps params assign body,(Instr.enterLoop fn tmps params assign body ro').run P W=
        .ok (W1.heap.size,mark) (jJ4 W1 (.loop {state:= .ready,pending:=none,fn,tmps,params,assign,body,defers:=qd.blk})):=by
  subst hsw;unfold kJy at hs
  cases ro with
  | some l=>
    simp only[yQl]at hs;obtain⟨r,hr,he⟩:=hs;cases he;obtain⟨q,hq,rfl⟩:=hro;obtain⟨hN,fn,ts,ps,qd,h1,hW,_⟩:=h.loop hq hr;refine⟨m,W,qd,[],h,h1,hd,Ext.refl _ _,fun fn tmps params assign body=>?_⟩;unfold Instr.enterLoop;simp only[];have hg:=xJ9 (P:=P) hW;rw[qJb hg,qJn,qJb uJg];rfl
  | none=>
    simp only[yQx,Prod.mk.injEq]at hs;obtain⟨rfl,rfl,rfl⟩:=hs;obtain rfl:ro'=none:=hro;obtain⟨hle,hrel⟩:=h.push .deferred (.deferred (some [])) 0 (fun _=>⟨h.old.1,kJb⟩) (by simp);refine⟨_,_,⟨W.heap.size,0,0⟩,[{target:= .collected W.heap.size,args:=#[]}],hrel,by simp[Emb.ext],⟨⟨W.heap.size,0,0⟩,ds,rfl,by simp[Emb.ext],hd.mono hle⟩,Ext.push h _ _,fun fn tmps params assign body=>?_⟩;unfold Instr.enterLoop;simp only[];rw[qJb uJg,qJn,qJb uJg];rfl
theorem mJi {b:Frame}{a:Act}{k:List Item}{cs:List Frame}{l:Nat}{jump:Option Code}{W':World}(hr:(Instr.endLoop l).run P W= .ok jump W'):
  step P (lone (b.atR a (.endRangeFunc l::k)) cs W)= .next (lone (b.atR a ((jump.map Item.code).toList++k)) cs W'):=
 step_lone_go (by simp[stepG,stepG.exec,Frame.atR,Sem.runT_eq,hr])
theorem zQ9(hok:Ok P W0 N0 rec){ro:Option Nat}{f:Operand}{params:Array Tmp}{assign body:Code}{s:St}{Q:Res→Prop}(hw:vQd rec ro f params assign body s Q){b:Frame}{k:List Item}{cs:List Frame}
    (h:Rel W0 N0 m s.w W) (ht:VRs m s.tmps ts.toList) (hd:DR m s.defers ds) (hro:RoR m ro b.roundOf) (hk:b.kind= .normal):
    ∃e s' m' ts' ds' W',Q (.ex e s')∧Rel W0 N0 m' s'.w W'∧VRs m' s'.tmps (ts':Array Value).toList∧DR m' s'.defers ds'∧Ext m m' s.w s'.w∧
      ArrA P (lone (b.atR ⟨ts,ds⟩ (.code (.rangeFunc f params assign body)::k)) cs W) b k cs ⟨ts',ds'⟩ W' e:=by
  obtain⟨d,defers,w1,fv,hs,hf,hcall⟩:=hw;obtain⟨m1,W1,qd,mark,h1,hqd,hd1,hext1,hent⟩:=dJu (P:=P) h hro rfl hd hs
  -- the loop's own object
  let L:Loop:={state:= .ready,pending:=none,fn:=b.fn,tmps:=ts,params,assign,body,defers:=qd.blk}
  let ob:LoopA:=⟨.ready,none,0,s.tmps,params.toList,assign,body,d⟩
  have hno1:m1 w1.size=none:=by
    cases hm:m1 w1.size with
    | none=>rfl
    | some p=>exact absurd (h1.dom _ _ hm) (gQx _)
  obtain⟨hle2,h2⟩:=h1.push ob.ob (.loop L) 0 (fun _=>⟨h1.old.1,b.fn,ts,params,qd,m1.le_ext _ hno1 _ _ hqd,trivial,kJb,(ht.mono hext1.le).mono (m1.le_ext _ hno1),rfl⟩) (by simp[LoopA.ob]);have hext2:=Ext.push h1 ob.ob ⟨W1.heap.size,0,0⟩;have hql:(m1.ext w1.size ⟨W1.heap.size,0,0⟩) w1.size=some ⟨W1.heap.size,0,0⟩:=by simp[Emb.ext]
  let fr:Frame:=b.atR ⟨ts,mark++ds⟩ (.inRangeFunc W1.heap.size::k)
  let call:Call:={callee:= .value f,args:=#[.const (.func (.yield W1.heap.size) #[] #[])],argTypes:=#[]}
  have hfv:VR m fv ((Act.mk ts (mark++ds)).eval f):=qJj ht hf;obtain⟨v,w3,m3,cv,W3,hK,hv,h3,hext3,hgo⟩:=gJy (fr:=fr) (cs:=cs) (s:=do let d←resolve fr.eval call 0;invoke d.target d.args) hok.call hok.yield h2
    ((hfv.mono hext1.le).mono hext2.le) (args:=[.yield w1.size]) (cargs:=#[.func (.yield W1.heap.size) #[] #[]]) (VRs.cons (by simp only[VR];exact⟨_,hql,rfl⟩) VRs.nil) hcall rfl (by
      show(do let d←resolve (Frame.eval (b.atR ⟨ts,mark++ds⟩ (.inRangeFunc W1.heap.size::k))) call 0;invoke d.target d.args:Sem Next).run P _=_;rw[Frame.eval_atR];have e1:(#[Operand.const (.func (.yield W1.heap.size) #[] #[])]:Array Operand).map (Act.mk ts (mark++ds)).eval=#[.func (.yield W1.heap.size) #[] #[]]:=by simp[Act.eval]
      simp only[resolve,call,e1])
  have hmm:m.le m3:=Emb.le_trans (Emb.le_trans hext1.le hext2.le) hext3.le;have hst:Steps P (lone (b.atR ⟨ts,ds⟩ (.code (.rangeFunc f params assign body)::k)) cs W) (lone (b.atR ⟨ts,mark++ds⟩ (.endRangeFunc W1.heap.size::k)) cs W3):=by
    refine hgo _ _ _ ?_;unfold Applied;have:=hent b.fn ts params assign body;simp only[stepG,stepG.exec,Frame.atR,Sem.runT_eq,this,GStep.bare_after];rfl
  -- behind the loop
  obtain⟨r,hr,hbusy,hend⟩:=hK;have hql3:m3 w1.size=some ⟨W1.heap.size,0,0⟩:=hext3.le _ _ hql;obtain⟨hN,fn',ts',ps',qd',hdq,hWl,htl,hpl⟩:=h3.loop hql3 hr;have h4:=h3.setLoop hql3 hr .exhausted r.pending hdq hWl htl hpl hN;have hext4:=Ext.setOb (w:=w3) hql3 (LoopA.ob {r with st:= .exhausted});have hrun:(Instr.endLoop W1.heap.size).run P W3= .ok r.pending (zJh W3 W1.heap.size (.loop {state:= .exhausted,pending:=r.pending,fn:=fn',tmps:=ts',params:=ps',assign:=r.assign,body:=r.body,defers:=qd'.blk})):=by
    unfold Instr.endLoop;rw[qJb (xJ9 hWl)];have:(r.st== .busy)=false:=by simpa using hbusy
    simp only[this,yQ2,if_false];rw[qJb (jJ8 hWl (by simp))];rfl
  have hext:=((hext1.trans hext2).trans hext3).trans hext4;have hst2:∀j,r.pending=j→Steps P (lone (b.atR ⟨ts,ds⟩ (.code (.rangeFunc f params assign body)::k)) cs W) (lone (b.atR ⟨ts,mark++ds⟩ ((j.map Item.code).toList++k)) cs _):=fun j hj=>by
    rw[←hj];exact hst.trans (.one (mJi (b:=b) (a:=⟨ts,mark++ds⟩) (k:=k) (cs:=cs) hrun))
  split at hend
  · rename_i hp
    exact⟨.normal,_,m3,ts,mark++ds,_,hend,h4,ht.mono hmm,hd1.mono (Emb.le_trans hext2.le hext3.le),hext,hst2 _ hp⟩
  · rename_i c hp
    obtain⟨e,s5,m5,ts5,ds5,W5,hq,h5,ht5,hd5,hext5,harr⟩:=hok.code _ _ _ _ hend m3 _ ts (mark++ds) b k cs (.code c) h4 (ht.mono hmm) (hd1.mono (Emb.le_trans hext2.le hext3.le)) (hro.mono hmm) hk (.inl rfl);exact⟨e,s5,m5,ts5,ds5,W5,hq,h5,ht5,hd5,hext.trans hext5, .of_steps (hst2 _ hp) harr⟩
theorem yJc:∀(ps:List Tmp) (as:List AV) (cas:List Value) (tmps:Tm) (ts:Array Value),VRs m tmps ts.toList→VRs m as cas→
    VRs m (zJx (ps.zip as) tmps) ((ps.zip cas).foldl (fun tmps (t,a)=>tmps.setIfInBounds t a) ts).toList
  | [],_,_,tmps,ts,h,_=>by simpa [zJx]using h
  | p::ps,[],cas,tmps,ts,h,ha=>by
    simp only[VRs]at ha;subst ha;simpa [zJx]using h
  | p::ps,a::as,cas,tmps,ts,h,ha=>by
    simp only[VRs]at ha;obtain⟨c,cs,rfl,hc,hs⟩:=ha;simp only[List.zip_cons_cons,zJx,List.foldl_cons];refine yJc ps as cs _ _ ?_ hs;rw[Array.toList_setIfInBounds];exact h.set p hc
theorem zQo(hok:Ok P W0 N0 rec):pJe P W0 N0 (vJk P rec hk):=by
 intro l args w Q hw m W q cargs fr cs s h hq ha hk hrun;unfold vJk vQc at hw;obtain⟨r,hr,hlen,hw⟩:=hw;obtain⟨hN,fn,ts,ps,qd,hdq,hWl,htl,hpl⟩:=h.loop hq hr
 let ts0:=(ps.zip cargs).foldl (fun tmps (t,a)=>tmps.setIfInBounds t a) ts
 have hent:s.run P W= .ok (.round q.blk fn ts0 r.assign r.body) W:=by
  rw[hrun];unfold Instr.yield;rw[qJb (xJ9 hWl)];have:cargs.size=ps.size:=by
   rw[←Array.length_toList,←ha.length,hlen,←hpl,Array.length_toList]
  simp only[this,ne_eq,not_true_eq_false,if_false];rfl
 have ht0:VRs m (zJx (r.params.zip args) r.tmps) ts0.toList:=by
  have:=yJc (m:=m) ps.toList args cargs.toList r.tmps ts htl ha;rw[hpl]at this;have e:ts0=(r.params.zip cargs.toList).foldl (fun tmps (t,a)=>tmps.setIfInBounds t a) ts:=by
   show(ps.zip cargs).foldl _ ts=_;rw[←Array.foldl_toList,Array.toList_zip,hpl]
  rw[e];exact this
 let b:Frame:={fn:=fn,tmps:=#[],todo:=[],defers:=[],mode:= .run,kind:= .normal,roundOf:=some q.blk}
 have he:Frame.round q.blk fn ts0 r.assign r.body .normal=b.atR ⟨ts0,[]⟩ [.code r.assign,.beginRound,.code r.body]:=rfl;obtain⟨e,s1,m1,ts1,ds1,W1,hqq,h1,ht1,hd1,hext1,harr⟩:=hok.code _ _ _ _ hw m W ts0 [] b [.beginRound,.code r.body] (fr::cs) (.code r.assign) h ht0 rfl ⟨q,hq,rfl⟩ rfl (.inl rfl);obtain⟨rfl,r1,hr1,hready,hw⟩:=hqq;have hq1:=hext1.le _ _ hq;obtain⟨hN1,fn1,tsl1,ps1,qd1,hdq1,hWl1,htl1,hpl1⟩:=h1.loop hq1 hr1;have h2:=h1.setLoop hq1 hr1 .busy r1.pending hdq1 hWl1 htl1 hpl1 hN1;have hext2:=Ext.setOb (w:=s1.w) hq1 (LoopA.ob {r1 with st:= .busy});have hbegin:(Instr.beginRound q.blk).run P W1= .ok () (zJh W1 q.blk (.loop {state:= .busy,pending:=r1.pending,fn:=fn1,tmps:=tsl1,params:=ps1,assign:=r1.assign,body:=r1.body,defers:=qd1.blk})):=by
  unfold Instr.beginRound;rw[qJb (xJ9 hWl1),qJb (jJ8 hWl1 (by simp))];simp only[hready];rfl
 obtain⟨e,s3,m3,ts3,ds3,W3,hqq,h3,ht3,hd3,hext3,harr3⟩:=hok.code _ _ _ _ hw m1 _ ts1 ds1 b [] (fr::cs) (.code r.body) h2 ht1 hd1 ⟨q,hq1,rfl⟩ rfl (.inl rfl);obtain⟨r3,hr3,hQ⟩:=hqq;have hq3:=hext3.le _ _ hq1;obtain⟨hN3,fn3,tsl3,ps3,qd3,hdq3,hWl3,htl3,hpl3⟩:=h3.loop hq3 hr3;have h4:=h3.setLoop hq3 hr3 (if(jJ5 e).isNone then .ready else .done) (jJ5 e) hdq3 hWl3 htl3 hpl3 hN3;have hext4:=Ext.setOb (w:=s3.w) hq3 (LoopA.ob {r3 with st:=if(jJ5 e).isNone then .ready else .done,pending:=jJ5 e});have hendr:(Instr.endRound q.blk (jJ5 e)).run P W3= .ok (.bool (jJ5 e).isNone) (zJh W3 q.blk (.loop {state:=if(jJ5 e).isNone then .ready else .done,pending:=jJ5 e,fn:=fn3,tmps:=tsl3,params:=ps3,assign:=r3.assign,body:=r3.body,defers:=qd3.blk})):=by
  unfold Instr.endRound;rw[qJb (xJ9 hWl3),qJb (jJ8 hWl3 (by simp))];rfl
 refine⟨_,_,m3,.bool (jJ5 e).isNone,_,hQ,by simp[VR],h4,((hext1.trans hext2).trans hext3).trans hext4,fun fr0 cs0 Wst happ=>?_⟩;refine .head (happ.round hent) ?_;rw[he];refine Steps.trans harr (.head (stepR_beginRound rfl hbegin) ?_)
 cases e with
 | normal=>exact Steps.trans harr3 (.one (stepR_round_end rfl rfl hendr))
 | ret=>obtain⟨k0,hs⟩:=harr3;exact hs.trans (.one (stepR_round_ret rfl rfl hendr))
 | exit id=>obtain⟨k0,hs,hx⟩:=harr3;exact hs.trans (.one (stepR_round_exit rfl rfl (hx.trans rfl) hendr))
 | goto t=>obtain⟨k0,hs,hx⟩:=harr3;exact hs.trans (.one (stepR_round_goto rfl rfl (hx.trans rfl) hendr))
theorem wQp(hh:Host P hk W0 N0)(hok:Ok P W0 N0 rec)(hdraw:kQh P W0 N0 rec):kQi P W0 N0 (vJk P rec hk):=by
  intro ro c s Q hw m W ts ds b k cs x h ht hd hro hk hx;unfold vJk cJy at hw;simp only[]at hw
  -- the item of a code that is no loop
  have plain:(∀b,c≠ .loop b)→x= .code c:=fun hn=>by
    rcases hx with rfl | ⟨b,rfl,_⟩
    · rfl
    · exact absurd rfl (hn b)
  have keep:∀{k1:List Item} {e:zJo},Q (.ex e s)→ArrA P (lone (b.atR ⟨ts,ds⟩ (x::k)) cs W) b k cs ⟨ts,ds⟩ W e→
      ∃e s' m' ts' ds' W',Q (.ex e s')∧Rel W0 N0 m' s'.w W'∧VRs m' s'.tmps (ts':Array Value).toList∧DR m' s'.defers ds'∧Ext m m' s.w s'.w∧
        ArrA P (lone (b.atR ⟨ts,ds⟩ (x::k)) cs W) b k cs ⟨ts',ds'⟩ W' e:=fun hq ha=>⟨_,s,m,ts,ds,W,hq,h,ht,hd,Ext.refl _ _,ha⟩
  cases c with
  | skip=>rw[plain (by simp)];rw[plain (by simp)]at keep;exact keep (k1:=k) hw (.one stepR_skip)
  | label l=>rw[plain (by simp)];rw[plain (by simp)]at keep;exact keep (k1:=k) hw (.one stepR_label)
  | ret=>rw[plain (by simp)];rw[plain (by simp)]at keep;exact keep (k1:=k) hw ⟨k, .refl _ _⟩
  | exit id=>rw[plain (by simp)];rw[plain (by simp)]at keep;exact keep (k1:=k) hw ⟨k, .refl _ _,rfl⟩
  | goto l=>rw[plain (by simp)];rw[plain (by simp)]at keep;exact keep (k1:=k) hw ⟨k, .refl _ _,rfl⟩
  | refuse why=>exact hw.elim
  | seq p q=>
    rw[plain (by simp)];obtain⟨e,s1,m1,ts1,ds1,W1,hq,h1,ht1,hd1,hext,harr⟩:=hok.code _ _ _ _ hw m W ts ds b (.code q::k) cs (.code p) h ht hd hro hk (.inl rfl);have st:Steps P (lone (b.atR ⟨ts,ds⟩ (.code (.seq p q)::k)) cs W) (lone (b.atR ⟨ts,ds⟩ (.code p:: .code q::k)) cs W):= .one stepR_seq
    cases e with
    | normal=>
      obtain⟨e2,s2,m2,ts2,ds2,W2,hq2,h2,ht2,hd2,hext2,harr2⟩:=hok.code _ _ _ _ hq m1 W1 ts1 ds1 b k cs (.code q) h1 ht1 hd1 (hro.mono hext.le) hk (.inl rfl);exact⟨e2,s2,m2,ts2,ds2,W2,hq2,h2,ht2,hd2,hext.trans hext2, .of_steps (st.trans harr) harr2⟩
    | exit id=>exact⟨_,s1,m1,ts1,ds1,W1,hq,h1,ht1,hd1,hext, .of_steps st (harr.pass (by simp) (fun _=>rfl) (fun _=>rfl))⟩
    | goto l=>exact⟨_,s1,m1,ts1,ds1,W1,hq,h1,ht1,hd1,hext, .of_steps st (harr.pass (by simp) (fun _=>rfl) (fun _=>rfl))⟩
    | ret=>exact⟨_,s1,m1,ts1,ds1,W1,hq,h1,ht1,hd1,hext, .of_steps st (harr.pass (by simp) (fun _=>rfl) (fun _=>rfl))⟩
  | cond c p q=>
    rw[plain (by simp)];obtain⟨t,hc,hw⟩:=hw;have hv:=qJj (ds:=ds) ht hc;simp only[VR]at hv;obtain⟨e,s1,m1,ts1,ds1,W1,hq,h1,ht1,hd1,hext,harr⟩:=hok.code _ _ _ _ hw m W ts ds b k cs _ h ht hd hro hk (.inl rfl);exact⟨e,s1,m1,ts1,ds1,W1,hq,h1,ht1,hd1,hext, .of_steps (.one (stepR_cond hv)) harr⟩
  | block id p=>
    rw[plain (by simp)];obtain⟨e,s1,m1,ts1,ds1,W1,hq,h1,ht1,hd1,hext,harr⟩:=hok.code _ _ _ _ hw m W ts ds b (.inBlock id::k) cs (.code p) h ht hd hro hk (.inl rfl);have st:Steps P (lone (b.atR ⟨ts,ds⟩ (.code (.block id p)::k)) cs W) (lone (b.atR ⟨ts,ds⟩ (.code p:: .inBlock id::k)) cs W):= .one stepR_block
    cases e with
    | normal=>exact⟨.normal,s1,m1,ts1,ds1,W1,hq,h1,ht1,hd1,hext,st.trans (Steps.trans harr (.one stepR_inBlock))⟩
    | exit i=>
      obtain⟨k0,hs,he⟩:=harr;simp only[exK,pJg]at hq;by_cases hi:i=id
      · subst hi
        rw[if_pos rfl]at hq;have he':exitTo i k0=some k:=by rw[he];simp[exitTo]
        exact⟨.normal,s1,m1,ts1,ds1,W1,hq,h1,ht1,hd1,hext,st.trans (hs.trans (.one (stepR_exit he')))⟩
      · rw[if_neg hi]at hq
        have:(id==i)=false:=by simpa using fun e=>hi e.symm
        exact⟨.exit i,s1,m1,ts1,ds1,W1,hq,h1,ht1,hd1,hext,k0,st.trans hs,by rw[he];simp[exitTo,this]⟩
    | goto l=>exact⟨_,s1,m1,ts1,ds1,W1,hq,h1,ht1,hd1,hext,by obtain⟨k0,hs,he⟩:=harr;exact⟨k0,st.trans hs,he⟩⟩
    | ret=>exact⟨_,s1,m1,ts1,ds1,W1,hq,h1,ht1,hd1,hext, .of_steps st harr⟩
  | loop p=>
    have st:Steps P (lone (b.atR ⟨ts,ds⟩ (x::k)) cs W) (lone (b.atR ⟨ts,ds⟩ (.code p:: .inLoop p::k)) cs W):=by
      rcases hx with rfl | ⟨b',e,rfl⟩
      · exact .one stepR_loop
      · cases e;exact .one stepR_inLoop
    obtain⟨e,s1,m1,ts1,ds1,W1,hq,h1,ht1,hd1,hext,harr⟩:=hok.code _ _ _ _ hw m W ts ds b (.inLoop p::k) cs (.code p) h ht hd hro hk (.inl rfl)
    cases e with
    | normal=>
      obtain⟨e2,s2,m2,ts2,ds2,W2,hq2,h2,ht2,hd2,hext2,harr2⟩:=hok.code _ _ _ _ hq m1 W1 ts1 ds1 b k cs (.inLoop p) h1 ht1 hd1 (hro.mono hext.le) hk (.inr ⟨p,rfl,rfl⟩);exact⟨e2,s2,m2,ts2,ds2,W2,hq2,h2,ht2,hd2,hext.trans hext2, .of_steps (st.trans harr) harr2⟩
    | exit id=>exact⟨_,s1,m1,ts1,ds1,W1,hq,h1,ht1,hd1,hext, .of_steps st (harr.pass (by simp) (fun _=>rfl) (fun _=>rfl))⟩
    | goto l=>exact⟨_,s1,m1,ts1,ds1,W1,hq,h1,ht1,hd1,hext, .of_steps st (harr.pass (by simp) (fun _=>rfl) (fun _=>rfl))⟩
    | ret=>exact⟨_,s1,m1,ts1,ds1,W1,hq,h1,ht1,hd1,hext, .of_steps st (harr.pass (by simp) (fun _=>rfl) (fun _=>rfl))⟩
  | region id ops draw=>
    rw[plain (by simp)];unfold kJs at hw
    cases draw with
    | false=>
      simp only[]at hw;obtain⟨tmps2,w2,m2,ts2,W2,hK,ht2,h2,hext,hgo⟩:=eJ5 (ds:=ds) hok.call hok.yield b k cs ops.toList 0 m s.w W s.tmps ts rfl h ht hw;refine⟨.normal,⟨tmps2,s.defers,w2⟩,m2,ts2,ds,W2,hK,h2,ht2,hd.mono hext.le,hext,?_⟩;refine .head stepR_region (Steps.trans ?_ (.one (stepR_region_end (ops:=ops))));rw[List.range_eq_range'];have hl:ops.toList.length=ops.size:=by simp
      rw[←hl];exact hgo
    | true=>
      simp only[]at hw;obtain⟨tmps2,w2,m2,ts2,W2,hK,ht2,h2,hext,hgo⟩:=hdraw ops _ _ _ hw m {W with drawn:=W.drawn+1} ts ds b k cs (W.tape W.drawn (.order b.fn id)) (h.same rfl ⟨rfl,rfl⟩) ht;refine⟨.normal,⟨tmps2,s.defers,w2⟩,m2,ts2,ds,W2,hK,h2,ht2,hd.mono hext.le,hext,?_⟩;refine .head stepR_region_draw (Steps.trans ?_ (.one (stepR_region_end (ops:=ops))));have:Region.schedule (P.follows .mixedOrders) ops (W.tape W.drawn (.order b.fn id))=Region.linearise .any ops (W.tape W.drawn (.order b.fn id)):=by
        unfold Region.schedule;rw[hh.mixed];rfl
      rw[this];exact hgo
  | scope p=>
    rw[plain (by simp)];obtain⟨e,s1,m1,ts1,ds1,W1,hq,h1,ht1,hd1,hext,harr⟩:=hok.scope _ _ _ _ _ hw m W ts ds b k cs h ht hd hro hk;exact⟨e,s1,m1,ts1,ds1,W1,hq,h1,ht1,hd1,hext, .of_steps (.one nJv) harr⟩
  | rangeFunc f params assign body=>
    rw[plain (by simp)];exact zQ9 hok hw h ht hd hro hk
theorem zQ1(hok:Ok P W0 N0 rec):zQn P W0 N0 (vJk P rec hk):=by
  intro ro b0 c s Q hw m W ts ds b k cs h ht hd hro hk;unfold vJk at hw;obtain⟨e,s1,m1,ts1,ds1,W1,hq,h1,ht1,hd1,hext,harr⟩:=hok.code _ _ _ _ hw m W ts ds b (.inScope b0::k) cs (.code c) h ht hd hro hk (.inl rfl)
  cases e with
  | normal=>exact⟨.normal,s1,m1,ts1,ds1,W1,hq,h1,ht1,hd1,hext,Steps.trans harr (.one fJd)⟩
  | exit id=>exact⟨_,s1,m1,ts1,ds1,W1,hq,h1,ht1,hd1,hext,by obtain⟨k0,hs,he⟩:=harr;exact⟨k0,hs,he⟩⟩
  | ret=>exact⟨_,s1,m1,ts1,ds1,W1,hq,h1,ht1,hd1,hext,harr⟩
  | goto l=>
    obtain⟨k0,hs,he⟩:=harr;simp only[exK,wJ9,vJ3]at hq;split at hq
    · rename_i rest hf
      have he':gotoIn l k0=some (.code rest:: .inScope b0::k):=by rw[he];simp[gotoIn,hf]
      obtain⟨e2,s2,m2,ts2,ds2,W2,hq2,h2,ht2,hd2,hext2,harr2⟩:=hok.scope _ _ _ _ _ hq m1 W1 ts1 ds1 b k cs h1 ht1 hd1 (hro.mono hext.le) hk;exact⟨e2,s2,m2,ts2,ds2,W2,hq2,h2,ht2,hd2,hext.trans hext2, .of_steps (hs.trans (.one (stepR_goto he'))) harr2⟩
    · rename_i hf
      exact⟨.goto l,s1,m1,ts1,ds1,W1,hq,h1,ht1,hd1,hext,k0,hs,by rw[he];simp[gotoIn,hf]⟩
theorem uJ8 {args:List AV}{cargs:Array Value}(ha:VRs m args cargs.toList)(n:Nat):VRs m (args++List.replicate (n - args.length) Go.Sx.undef) (cargs++Array.replicate (n - cargs.size) Go.undef).toList:=by
 have:args.length=cargs.size:=by rw[←Array.length_toList];exact ha.length
 rw[Array.toList_append,Array.toList_replicate,this];exact ha.append (VRs.replicate VR.undef _)
theorem wQs(hh:Host P hk W0 N0)(hok:Ok P W0 N0 rec):hJ4 P W0 N0 (vJk P rec hk):=by
 intro f args w Q hw m W cargs fr cs s h ha hk' hrun;unfold vJk yJl at hw;simp only[]at hw;have callEnter:∀{fn:Func} {c:Code},P.funcs[f]? =some fn→fn.body=some c→s.run P W= .ok (.enter f cargs) W:=by
  intro fn c hf hb;rw[hrun];unfold callFunc;have hp:(program).run P W= .ok P W:=rfl;rw[qJb hp,hf];simp only[hh.num f fn hf (by simp[hb]),hb,Option.isNone_some,yQ2,if_false];rfl
 split at hw
 ·-- known otherwise
  rename_i r hr;obtain⟨v,w',rfl,hq⟩:=hw;obtain⟨⟨fn,c,hf,hb⟩,hcon⟩:=hh.hook f args w v w' hr;obtain⟨e,W',fr1,⟨cv,m',rfl,hv,hrel,hext⟩,hcomes,_,hleave⟩:=hcon m W cargs h ha (fr::cs);refine⟨v,w',m',cv,W',hq,hv,hrel,hext,fun fr0 cs0 Wst happ=>?_⟩;exact .head (happ.enter hk' (callEnter hf hb)) (Steps.trans hcomes (.one (step_leave_returned hleave)))
 obtain⟨fn,hf,hw⟩:=hw;unfold kJv at hw;split at hw
 ·rename_i c hb;have hent:=callEnter hf hb
  let b:Frame:={fn:=f,tmps:=#[],todo:=[],defers:=[],mode:= .run,kind:= .normal}
  have he:Frame.enter P f cargs .normal=b.atR ⟨cargs++Array.replicate (fn.ntmps - cargs.size) Go.undef,[]⟩ [.code c]:=by
   simp[Frame.enter,hf,hb,Frame.atR,b]
  obtain⟨e,s1,m1,ts1,ds1,W1,hq,h1,ht1,hd1,hext,harr⟩:=hok.code _ _ _ _ hw m W _ [] b [] (fr::cs) (.code c) h (uJ8 ha fn.ntmps) rfl rfl rfl (.inl rfl);obtain⟨hne,w',vs,htk,hres,hq⟩:=hq;have fin:∀todo,Steps P (lone (b.atR ⟨cargs++Array.replicate (fn.ntmps - cargs.size) Go.undef,[]⟩ [.code c]) (fr::cs) W) (lone {b.atR ⟨ts1,ds1⟩ todo with mode:= .returning} (fr::cs) W1)→
    Post W0 N0 (fun v w=>Q (.val v w)) m w (yJk P fr cs s W):=by
   intro todo hst;obtain⟨cv,W2,h2,hext2,hv,hst2⟩:=sJ1 (b:=b) (c:=fr) (cs:=cs) (todo:=todo) h1 ht1 hd1 htk hf rfl hres;refine⟨_,w',m1,cv,W2,hq,hv,h2,hext.trans hext2,fun fr0 cs0 Wst happ=>?_⟩;refine .head (happ.enter hk' hent) ?_;rw[he];exact hst.trans hst2
  rcases hne with rfl | rfl
  ·exact fin [] (Steps.trans harr (.one (stepR_end rfl)))
  ·obtain⟨k0,hs⟩:=harr;exact fin _ (hs.trans (.one (stepR_ret rfl)))
 ·rename_i hb;obtain⟨v,w',he,hq⟩:=hw;obtain⟨cv,W',m',hr,hv,hrel,hext⟩:=hh.ext f fn args w v w' hf hb he m W cargs h ha;exact⟨v,w',m',cv,W',hq,hv,hrel,hext,fun fr0 cs0 Wst happ=> .one (happ.value (by rw[hrun];exact hr))⟩
end
end Go.Sx
/-! What an operation looks at: its operands' temporaries alone. -/
namespace Go.Sx
section
variable {P:Program}{w:AW}{T T':Tm}{rec:Task→(Res→Prop)→Prop}
theorem xJm:∀{xs:List Operand},(∀x∈xs,qJs T x=qJs T' x)→jJi T xs=jJi T' xs
  | [],_=>rfl
  | x::xs,h=>by
    simp only[jJi,h x (by simp),xJm (xs:=xs) fun y hy=>h y (by simp[hy])]
theorem uJw {x:Option Operand}(h:∀y∈x.toArray,qJs T y=qJs T' y):mapO T x=mapO T' x:=by
 cases x with
 | none=>rfl
 | some x=>simp only[mapO,h x (by simp)]
theorem pJk {ps:Array (Nat×Operand)}(h:∀x∈(ps.toList.map (·.2)).toArray,qJs T x=qJs T' x):kJ7 T ps=kJ7 T' ps:=by
 unfold kJ7;rw[xJm fun x hx=>h x (by simpa using hx)]
theorem pJc {c:Call}(h:∀x∈c.operands,qJs T x=qJs T' x):jJi T c.args.toList=jJi T' c.args.toList:=
 xJm fun x hx=>h x (by
  have:x∈c.args:=by simpa using hx
  unfold Call.operands;simp[this])
theorem kJ5 {o:Op}(h:∀x∈o.operands,qJs T x=qJs T' x):qJ7 P w T o=qJ7 P w T' o:=by
 cases o<;>simp only[Op.operands]at h<;>simp only[qJ7]<;>try rfl
 case slice t x l hi m=>
  rw[h x (by simp),uJw (x:=l) fun y hy=>h y (by simp at hy ⊢;simp[hy]),uJw (x:=hi) fun y hy=>h y (by simp at hy ⊢;simp[hy]),uJw (x:=m) fun y hy=>h y (by simp at hy ⊢;simp[hy])]
 case build t ps=>rw[pJk h]
 case makeFunc fn first captured=>
  unfold fJ0;rw[xJm (xs:=first.toList) fun x hx=>h x (by simp at hx ⊢;simp[hx]),xJm (xs:=captured.toList) fun x hx=>h x (by simp at hx ⊢;simp[hx])]
 case call c=>
  unfold jJm;split
  ·unfold wJ0;rw[pJc h]
  ·rfl
 case pick c a b=>rw[h c (by simp),h a (by simp),h b (by simp)]
 case binOp op t x y t'=>rw[h x (by simp),h y (by simp)]
 case indexAddr t x y=>rw[h x (by simp),h y (by simp)]
 case index t x y=>rw[h x (by simp),h y (by simp)]
 case lookup t x y ok=>rw[h x (by simp),h y (by simp)]
 case move x=>rw[h x (by simp)]
 case assign x=>rw[h x (by simp)]
 case nilCheck x=>rw[h x (by simp)]
 case unOp op t x=>rw[h x (by simp)]
 case convert s d x=>rw[h x (by simp)]
 case sliceToArrayPointer t x=>rw[h x (by simp)]
 case makeInterface t x=>rw[h x (by simp)]
 case fieldAddr t x f=>rw[h x (by simp)]
 case field t x f=>rw[h x (by simp)]
 case extract x i=>rw[h x (by simp)]
 case load t x=>rw[h x (by simp)]
 case typeAssert x a b ok=>rw[h x (by simp)]
theorem gJ4 {o:Op}(h:∀x∈o.operands,qJs T x=qJs T' x):zJj P w T o=zJj P w T' o:=by
 cases o<;>simp only[Op.operands]at h<;>simp only[zJj]<;>try rfl
 case box t x=>rw[h x (by simp)]
 case buildSlice t n ps=>rw[pJk h]
 case makeSlice t x y=>rw[h x (by simp),h y (by simp)]
 case convert s d x=>rw[h x (by simp)]
 case range t x=>rw[h x (by simp)]
 case makeMap t r=>cases r<;>rfl
theorem tJd {o:Op}(h:∀x∈o.operands,qJs T x=qJs T' x):vJ4 P w T o=vJ4 P w T' o:=by
 cases o<;>simp only[Op.operands]at h<;>simp only[vJ4]<;>try rfl
 case store t x y=>rw[h x (by simp),h y (by simp)]
 case mapUpdate t x y z=>rw[h x (by simp),h y (by simp),h z (by simp)]
 case insert t x y z=>rw[h x (by simp),h y (by simp),h z (by simp)]
 case range t x=>rw[h x (by simp)]
 case entry i=>rw[h i (by simp)]
 case call c=>
  unfold wJk;split
  ·unfold gJz;rw[pJc h]
  ·rfl
theorem yJb {o:Op}(h:∀x∈o.operands,qJs T x=qJs T' x):qJp P w T o=qJp P w T' o:=by
 unfold qJp;rw[kJ5 h,gJ4 h,tJd h]
theorem eJd {o:Op}{K:AV→AW→Prop}(h:∀x∈o.operands,qJs T x=qJs T' x)(hs:wOp P rec w T o K):wOp P rec w T' o K:=by
 unfold wOp at hs ⊢;split
 ·rename_i c;simp only[]at hs;unfold xJ6 at hs ⊢;split
  ·rename_i f hc;simp only[hc]at hs;rw[←h f (by simp[Op.operands,Call.operands,hc]),←pJc h];exact hs
  ·rename_i b hc;simp only[hc]at hs;rw[←yJb h];exact hs
  ·rename_i a b hc;simp only[hc]at hs
 ·rename_i i t;simp only[]at hs;unfold vJz at hs ⊢;rw[←h i (by simp[Op.operands])];exact hs
 ·rename_i x h1 h2;rw[←yJb h];split at hs
  ·exact absurd rfl (h1 _)
  ·exact absurd rfl (h2 _ _)
  ·exact hs
theorem fJo {o:Op}(hk:opKd P o= .pure)(w w':AW):qJ7 P w T o=qJ7 P w' T o:=by
  cases o<;>simp only[opKd]at hk<;>simp only[qJ7]<;>try (simp at hk;done)
  case convert s d x=>
    congr 1;funext v;unfold pJv at hk;unfold tJe
    cases hs:P.underlying s with
    | none=>rfl
    | some us=>
      cases hd:P.underlying d with
      | none=>rfl
      | some ud=>
        simp only[hs,hd,Option.map_some,Option.bind_some]at hk ⊢;cases v<;>try rfl
        have:jJe us=none:=by
          cases e:jJe us with
          | none=>rfl
          | some e'=>
            rw[e]at hk
            cases h1:zJi us with
            | false=>rw[h1]at hk;simp at hk
            | true=>rw[zJl]at h1;subst h1;simp[jJe]at e
        simp[this]
  case call c=>
    unfold vJf at hk;unfold jJm;split
    · rename_i b hc
      simp only[hc]at hk;unfold wJ0;congr 1;funext vs;split
      · cases b<;>simp only[jJk]at hk<;>try (simp at hk;done)
        case len=>
          simp only[]
          cases ht:c.argTypes[0]? with
          | none=>rfl
          | some t=>
            simp only[ht,Option.bind_some]at hk ⊢;have hm:((P.underlying t).bind xJj)=none:=by
              cases e:(P.underlying t).bind xJj with
              | none=>rfl
              | some x=>simp only[e]at hk;simp at hk
            unfold lenA;split<;>simp[hm]
        all_goals rfl
      · rfl
    · rfl
end
end Go.Sx
