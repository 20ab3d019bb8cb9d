/-
 From a call of the abstract machine to the model's call,in the statement's own words.
 No condition beyond those that each theorem names.
-/
import Derived.Test.YtghoifolghelnaaGreatSxj
import Derived.ProofKit
import Derived.OpenShut
import Derived.ChangeReads
import Derived.ChangeArms
import Derived.WalkKit
import Derived.Below
set_option linter.unusedVariables false
set_option linter.unusedSimpArgs false
/-! From the meaning to the statement's own words. -/
namespace Go.Sx
open Go.ChangeShapes Go.WideShapes
section
variable {P:Program}{W0:World}{N0:Nat}{m:Emb}{w:AW}{W:World}
theorem Rel.kept(h:Rel W0 W0.heap.size m w W)(may:MemPlace→Prop):W0.keptBut W may:=by
 refine⟨h.env.1,h.env.2,fun i hi=>?_⟩;rw[h.old.2 i hi]
 cases W0.heap[i]? with
 | none=>rfl
 | some o=>cases o<;>first | rfl | exact⟨rfl,rfl,rfl,fun _ _=>rfl⟩ | exact .inr ⟨rfl,rfl⟩
theorem Rel.frozen(h:Rel W0 W0.heap.size m w W)(a:Addr)(ha:a.block<W0.heap.size):W.frozen? a=W0.frozen? a:=by
 unfold World.frozen?;rw[h.old.2 _ ha]
theorem Rel.start(W:World):Rel W W.heap.size (fun _=>none) ⟨1,.nil⟩ W:=by
 refine⟨⟨rfl,rfl⟩,by simp,by simp,⟨yQm _,fun _ _=>rfl⟩,by simp,by simp,by simp,fun b x hx=>?_,by simp,by simp,by simp⟩;simp[AW.fam?]at hx
end
section
variable {H:Type}{enc:TypeId×Value→H}{P:Program}
theorem eJ4 {f:Func}{s:ChangeSpec}{apart fresh handsOn again:Bool}{W W':World}{args:Array Value}{v:Value}{ds gs:List (DataW H)}{before pa pv:List MemPlace}
  (hW:DataW.Whole enc P f.params.toList s.vars apart W args.toList ds gs before)
  (hres:∀(b:Nat) (sp:Nat→Bool) (hd:Bool),DataW.TrodAll enc P W' b sp hd f.resultTypes.toList (v.resultList f.resultTypes.size) (s.fn H (ds++gs)).results [])
  (hargs:∀sp:Nat→Bool,(∀p∈before,sp p.block=true)→DataW.TrodAll enc P W' 0 sp true f.params.toList args.toList (s.fn H (ds++gs)).args pa)
  (hvars:∀sp:Nat→Bool,(∀p∈before,sp p.block=true)→DataW.TrodVars enc P W' sp s.vars (s.fn H (ds++gs)).vars pv)
  (hps:before=pa++pv) (hk:W.keptBut W' (· ∈before)) (hfz:∀a:Addr,a.block<W.heap.size→W'.frozen? a=W.frozen? a)
  (hok:∀(j:Nat) (t:TypeId) (r:Value),f.resultTypes[j]? =some t→(v.resultList f.resultTypes.size)[j]? =some r→Value.okWide P W' .any 0 t r):
  s.post enc P f apart fresh handsOn again W args v W':=by
 have hold:∀p∈before,(fun b=>decide (b<W.heap.size)) p.block=true:=fun p hp=>by simpa using hW.lt p hp
 have hlt:=hW.lt;refine⟨ds,gs,before,[],pa,pv,hW,hres _ _ _,hargs _ hold,hvars _ hold,World.keptBut_mono (fun p hp=>⟨hp,?_⟩) hk,fun _=>?_⟩
 ·rw[hps,yQ1]at hp;exact Or.inr hp
 ·obtain⟨_,_,_,_,_,hz,hn⟩:=hW;refine⟨hok,_,_,([]++pa)++pv,⟨[]++pa,pv,trodAll_append (hargs _ (fun _ _=>rfl)) (hres _ _ _),hvars _ (fun _ _=>rfl),rfl,?_,?_⟩,?_⟩
  ·intro b off hp;have hp':MemPlace.cell b off∈before:=by rw[hps];simpa using hp
   rw[hfz _ (hlt _ hp')];exact hz b off hp'
  ·intro ha;have:=hn ha;rw[hps]at this;simpa using this
  ·intro p hp _;rw[hps];simpa using hp
end
end Go.Sx
/-! The machine does what the meaning without levels says. -/
namespace Go.Sx
open Go.ChangeShapes Go.WideShapes
section
variable {P:Program}{W0:World}{N0:Nat}{m:Emb}{w:AW}{W:World}{hk:Hook}
theorem nJm {t:Task}{Q:Res→Prop}(h:wpL P hk t Q):vJk P (wpL P hk) hk t Q:=
 h (vJk P (wpL P hk) hk) (oJ5 qJu) fun t Q hw=>tJp (rec:=vJk P (wpL P hk) hk) (rec':=wpL P hk) (fun t Q Q' hq hw=>qJu t Q Q' hq (qJy hw)) t Q Q (fun _ h=>h) hw
def aJb(P:Program)(W0:World)(N0:Nat):Task→(Res→Prop)→Prop
  | .code ro c s,Q=>∀m W (ts:Array Value) ds (b:Frame) k cs x,Rel W0 N0 m s.w W→VRs m s.tmps ts.toList→DR m s.defers ds→RoR m ro b.roundOf→b.kind= .normal→oJ2 c x→
    ∃e s' m' ts' ds' W',Q (.ex e s')∧Rel W0 N0 m' s'.w W'∧VRs m' s'.tmps (ts':Array Value).toList∧DR m' s'.defers ds'∧Ext m m' s.w s'.w∧
      ArrA P (lone (b.atR ⟨ts,ds⟩ (x::k)) cs W) b k cs ⟨ts',ds'⟩ W' e
  | .scope ro b0 c s,Q=>∀m W (ts:Array Value) ds (b:Frame) k cs,Rel W0 N0 m s.w W→VRs m s.tmps ts.toList→DR m s.defers ds→RoR m ro b.roundOf→b.kind= .normal→
    ∃e s' m' ts' ds' W',Q (.ex e s')∧Rel W0 N0 m' s'.w W'∧VRs m' s'.tmps (ts':Array Value).toList∧DR m' s'.defers ds'∧Ext m m' s.w s'.w∧
      ArrA P (lone (b.atR ⟨ts,ds⟩ (.code c:: .inScope b0::k)) cs W) b k cs ⟨ts',ds'⟩ W' e
  | .call f args w,Q=>∀m W (cargs:Array Value) fr cs s,Rel W0 N0 m w W→VRs m args cargs.toList→xJw fr→s.run P W=(callFunc f cargs).run P W→
    Post W0 N0 (fun v w=>Q (.val v w)) m w (yJk P fr cs s W)
  | .yield l args w,Q=>∀m W q (cargs:Array Value) fr cs s,Rel W0 N0 m w W→m l=some q→VRs m args cargs.toList→xJw fr→
    s.run P W=(Instr.yield q.blk cargs).run P W→Post W0 N0 (fun v w=>Q (.val v w)) m w (yJk P fr cs s W)
theorem jQn:Ok P W0 N0 (aJb P W0 N0):=⟨fun _ _ _ _ h=>h,fun _ _ _ _ _ h=>h,fun _ _ _ _ h=>h,fun _ _ _ _ h=>h⟩
theorem iJp:wJ7 (aJb P W0 N0):=by
  intro t Q Q' hq h
  cases t with
  | code ro c s=>
    intro m W ts ds b k cs x h1 h2 h3 h4 h5 h6;obtain⟨e,s',m',ts',ds',W',hQ,hr⟩:=h m W ts ds b k cs x h1 h2 h3 h4 h5 h6;exact⟨e,s',m',ts',ds',W',hq _ hQ,hr⟩
  | scope ro b0 c s=>
    intro m W ts ds b k cs h1 h2 h3 h4 h5;obtain⟨e,s',m',ts',ds',W',hQ,hr⟩:=h m W ts ds b k cs h1 h2 h3 h4 h5;exact⟨e,s',m',ts',ds',W',hq _ hQ,hr⟩
  | call f args w=>
    intro m W cargs fr cs s h1 h2 h3 h4;obtain⟨v,w',m',cv,W',hQ,hr⟩:=h m W cargs fr cs s h1 h2 h3 h4;exact⟨v,w',m',cv,W',hq _ hQ,hr⟩
  | yield l args w=>
    intro m W q cargs fr cs s h1 h2 h3 h4 h5;obtain⟨v,w',m',cv,W',hQ,hr⟩:=h m W q cargs fr cs s h1 h2 h3 h4 h5;exact⟨v,w',m',cv,W',hq _ hQ,hr⟩
theorem vQk(hh:Host P hk W0 N0):Ok P W0 N0 (wpL P hk):=by
 have hstep:∀t Q,vJk P (aJb P W0 N0) hk t Q→aJb P W0 N0 t Q:=fun t Q h=>by
  have ih:=jQn (P:=P) (W0:=W0) (N0:=N0)
  cases t with
  | code ro c s=>exact wQp hh ih (wQm P W0 N0 _ ih) _ _ _ _ h
  | scope ro b0 c s=>exact zQ1 ih _ _ _ _ _ h
  | call f args w=>exact wQs hh ih _ _ _ _ h
  | yield l args w=>exact zQo ih _ _ _ _ h
 have key:∀t Q,wpL P hk t Q→aJb P W0 N0 t Q:=fun t Q h=>h _ iJp hstep;exact⟨fun ro c s Q h=>key _ _ h,fun ro b0 c s Q h=>key _ _ h,fun f args w Q h=>key _ _ h,fun l args w Q h=>key _ _ h⟩
theorem lJ3 {hk:Hook}(hh:Host P hk W0 N0){f:FuncId}{args:List AV}{K:AV→AW→Prop}(hnk:hk f args w=none)(hwp:wpL P hk (.call f args w) (valK K)){fn:Func}{c:Code}(hf:P.funcs[f]? =some fn)(hb:fn.body=some c)
  (h:Rel W0 N0 m w W) {cargs:Array Value} (ha:VRs m args cargs.toList):
  Calls P f cargs W fun e W'=>∃v w' m' cv,e= .returned cv∧K v w'∧VR m' v cv∧Rel W0 N0 m' w' W'∧m.le m':=by
 intro cs
 case' _=>
  have hok:=vQk (P:=P) (W0:=W0) (N0:=N0) hh
  replace hwp:=nJm hwp
  unfold vJk yJl at hwp;simp only[hnk]at hwp;obtain⟨fn',hf',hw⟩:=hwp;rw[hf]at hf';cases hf';unfold kJv at hw;simp only[hb]at hw
  let b:Frame:={fn:=f,tmps:=#[],todo:=[],defers:=[],mode:= .run,kind:= .normal}
  have he:Frame.enter P f cargs .normal=b.atR ⟨cargs++Array.replicate (fn.ntmps - cargs.size) Go.undef,[]⟩ [.code c]:=by
   simp[Frame.enter,hf,hb,Frame.atR,b]
  obtain⟨e,s1,m1,ts1,ds1,W1,hq,h1,ht1,hd1,hext,harr⟩:=hok.code _ _ _ _ hw m W _ [] b [] cs (.code c) h (uJ8 ha fn.ntmps) rfl rfl rfl (.inl rfl);obtain⟨hne,w',vs,htk,hres,hq⟩:=hq;have fin:∀todo,Steps P (lone (b.atR ⟨cargs++Array.replicate (fn.ntmps - cargs.size) Go.undef,[]⟩ [.code c]) cs W) (lone {b.atR ⟨ts1,ds1⟩ todo with mode:= .returning} cs W1)→
    ∃e W' fr,(∃v w' m' cv,e= .returned cv∧K v w'∧VR m' v cv∧Rel W0 N0 m' w' W'∧m.le m')∧Comes P (lone (Frame.enter P f cargs .normal) cs W) (lone fr cs W') e∧fr.fn=f∧fr.leaving P W' e:=by
   intro todo hst;obtain⟨W2,h2,hext2,hst2⟩:=wJr (P:=P) b todo cs ts1 s1.defers m1 s1.w w' W1 ds1 h1 hd1 htk;obtain⟨cv,hrun,hv⟩:=kJl (P:=P) h2 ht1 hres;refine⟨.returned cv,W2,{b.atR ⟨ts1,[]⟩ todo with mode:= .returning},⟨_,w',m1,cv,rfl,hq,hv,h2,hext.le⟩,?_,rfl,⟨rfl,rfl,rfl,fn,hf,hrun⟩⟩;show Steps _ _ _;rw[he];exact hst.trans hst2
  rcases hne with rfl | rfl
  ·exact fin [] (Steps.trans harr (.one (stepR_end rfl)))
  ·obtain⟨k0,hs⟩:=harr;exact fin _ (hs.trans (.one (stepR_ret rfl)))
theorem cJm {hk:Hook}(hh:Host P hk W0 N0){f:FuncId}{args:List AV}{K:AV→AW→Prop}(hnk:hk f args w=none)(hwp:wpL P hk (.call f args w) (valK K)){fn:Func}{c:Code}(hf:P.funcs[f]? =some fn)(hb:fn.body=some c)
  (h:Rel W0 N0 m w W) {cargs:Array Value} (ha:VRs m args cargs.toList):
  Calls P f cargs W fun e W'=>∃v w' m' cv,e= .returned cv∧K v w'∧VR m' v cv∧Rel W0 N0 m' w' W'∧Ext m m' w w':=by
 intro cs
 case' _=>
  have hok:=vQk (P:=P) (W0:=W0) (N0:=N0) hh
  replace hwp:=nJm hwp
  unfold vJk yJl at hwp;simp only[hnk]at hwp;obtain⟨fn',hf',hw⟩:=hwp;rw[hf]at hf';cases hf';unfold kJv at hw;simp only[hb]at hw
  let b:Frame:={fn:=f,tmps:=#[],todo:=[],defers:=[],mode:= .run,kind:= .normal}
  have he:Frame.enter P f cargs .normal=b.atR ⟨cargs++Array.replicate (fn.ntmps - cargs.size) Go.undef,[]⟩ [.code c]:=by
   simp[Frame.enter,hf,hb,Frame.atR,b]
  obtain⟨e,s1,m1,ts1,ds1,W1,hq,h1,ht1,hd1,hext,harr⟩:=hok.code _ _ _ _ hw m W _ [] b [] cs (.code c) h (uJ8 ha fn.ntmps) rfl rfl rfl (.inl rfl);obtain⟨hne,w',vs,htk,hres,hq⟩:=hq;have fin:∀todo,Steps P (lone (b.atR ⟨cargs++Array.replicate (fn.ntmps - cargs.size) Go.undef,[]⟩ [.code c]) cs W) (lone {b.atR ⟨ts1,ds1⟩ todo with mode:= .returning} cs W1)→
    ∃e W' fr,(∃v w' m' cv,e= .returned cv∧K v w'∧VR m' v cv∧Rel W0 N0 m' w' W'∧Ext m m' w w')∧Comes P (lone (Frame.enter P f cargs .normal) cs W) (lone fr cs W') e∧fr.fn=f∧fr.leaving P W' e:=by
   intro todo hst;obtain⟨W2,h2,hext2,hst2⟩:=wJr (P:=P) b todo cs ts1 s1.defers m1 s1.w w' W1 ds1 h1 hd1 htk;obtain⟨cv,hrun,hv⟩:=kJl (P:=P) h2 ht1 hres;refine⟨.returned cv,W2,{b.atR ⟨ts1,[]⟩ todo with mode:= .returning},⟨_,w',m1,cv,rfl,hq,hv,h2,hext.trans hext2⟩,?_,rfl,⟨rfl,rfl,rfl,fn,hf,hrun⟩⟩;show Steps _ _ _;rw[he];exact hst.trans hst2
  rcases hne with rfl | rfl
  ·exact fin [] (Steps.trans harr (.one (stepR_end rfl)))
  ·obtain⟨k0,hs⟩:=harr;exact fin _ (hs.trans (.one (stepR_ret rfl)))
end
end Go.Sx
/-! The externs that the machine knows: atomics of int64, maps.clone. -/
namespace Go.Sx
section
variable {P:Program}{W0:World}{N0:Nat}{m:Emb}{w:AW}{W:World}
theorem mJ5 {i b:Nat}{c:Array Value}{e:TypeId}{fr:Nat×Nat}{v:Value}(h:W.heap[b]? =some (.cells c e fr))(hv:c[i]? =some v)(md:Mode):
  (load ⟨b,i,none⟩ md).run P W= .ok v W:=by
 simp[load,Sem.run,gJx h,hv]
theorem tJ1(h:Rel W0 N0 m w W){b o:Nat}{a:AV}(hr:w.read b o 1=some [a]){q:Pl}(hq:m b=some q):
  ∃(c:Array Value) (e:TypeId) (fr:Nat×Nat) (v:Value),W.heap[q.blk]? =some (.cells c e fr)∧c[q.off+o]? =some v∧VR m a v:=by
 unfold AW.read at hr;split at hr
 ·rename_i cells hcells;obtain⟨hle,he⟩:=zJq hr;obtain⟨c,e,fr,hW,hroom,hlen,hok,hv⟩:=h.row hq hcells;have hg:cells[o]? =some a:=by
   have:=congrArg (fun l=>l[0]?) he;simpa [List.getElem?_take,gQj]using this.symm
  obtain⟨v,hvv,hr⟩:=hv.get hg;refine⟨c,e,fr,v,hW,?_,hr⟩;have hlt:o<cells.length:=(yQt.1 hg).1;rw[gQr hlt,gQj]at hvv;rw[←yQ4];exact hvv
 ·simp at hr
theorem cJu(h:Rel W0 N0 m w W){b o:Nat}{a:AV}{v:Value}{w':AW}(hp:w.putCells b o [a]=some w'){q:Pl}(hq:m b=some q)(hv:VR m a v)(ha:qJc a=true)(md:Mode):
  ∃W',(store ⟨q.blk,q.off+o,none⟩ v md).run P W= .ok () W'∧Rel W0 N0 m w' W':=by
 have hvs:VRs m [a] [v]:=VRs.cons hv VRs.nil;have hok:∀x∈[a],qJc x=true:=by simpa using ha
 obtain⟨c,e,fr,hW,hlen,hfr,hrel⟩:=h.put hp hq hvs hok;have hi:q.off+o<c.size:=by simp at hlen;omega
 have hr:=rJd (P:=P) hW hi hfr (hJi hv ha) md;have e1:c.setIfInBounds (q.off+o) v=jJz c (q.off+o) [v]:=by
  apply Array.ext';rw[Array.toList_setIfInBounds];show _=c.toList.take (q.off+o)++[v]++c.toList.drop (q.off+o+1);rw[List.set_eq_take_append_cons_drop,if_pos (by simpa using hi)];simp
 rw[e1]at hr;exact⟨_,hr,hrel⟩
theorem eJn(a b:Value):Extern.Atomic.storeT #[a,b]=(do store (←asAddr a) b .atomic;pure Extern.Atomic.none_):=rfl
theorem qQr(t:TypeId)(r:Nat):Extern.MapsClone.clone #[.iface t (.map (some r))]=(do
  let .map entries clock ← getObj r | stuck "maps.clone: a map expected"
  pure (.iface t (.map (some (←newObj (.map entries clock)))))):=rfl
theorem wQ1(a y:Value):Extern.Atomic.update (Op.intArith .add) .i64 true #[a,y]=(do
  let a←asAddr a
  let old←Extern.Atomic.read (.int .i64) a
  let new←Op.intArith .add .i64 (←asInt old) (←asInt y)
  store a new .atomic
  pure (if true then new else old)):=rfl
structure Knows(P:Program):Prop where
 load : ∀ (f : FuncId) (fn : Func), P.funcs[f]? = some fn → fn.body = none → fn.name = "sync/atomic.LoadInt64" → Extern.findNext fn = none ∧ Extern.find fn = some (Extern.Atomic.loadT (.int .i64))
 store : ∀ (f : FuncId) (fn : Func), P.funcs[f]? = some fn → fn.body = none → fn.name = "sync/atomic.StoreInt64" → Extern.findNext fn = none ∧ Extern.find fn = some Extern.Atomic.storeT
 add : ∀ (f : FuncId) (fn : Func), P.funcs[f]? = some fn → fn.body = none → fn.name = "sync/atomic.AddInt64" → Extern.findNext fn = none ∧ Extern.find fn = some (Extern.Atomic.update (Op.intArith .add) .i64 true)
 clone : ∀ (f : FuncId) (fn : Func), P.funcs[f]? = some fn → fn.body = none → fn.name = "maps.clone" → Extern.findNext fn = none ∧ Extern.find fn = some Extern.MapsClone.clone
theorem wJt {f : FuncId} {fn : Func} {cargs : Array Value} {ex : Array Value → Sem Value} {cv : Value} {W' : World} (hf : P.funcs[f]? = some fn) (hb : fn.body = none) (hn : fn.name ≠ "runtime.NumGoroutine")
  (h:Extern.findNext fn=none∧Extern.find fn=some ex) (hr:(ex cargs).run P W= .ok cv W'):(callFunc f cargs).run P W= .ok (.value cv) W':=by
 unfold callFunc;have hp:(program).run P W= .ok P W:=rfl;rw[qJb hp,hf]
 have h1 : (fn.name == "runtime.NumGoroutine") = false := by simpa using hn
 simp only[h1,hb,Option.isNone_none,yQ2,if_false,if_true,h.1,h.2];have hm:(mark (.extern f)).run P W= .ok () W:=rfl;rw[qJb hm];exact gJj hr
theorem qQe(hkn:Knows P){f:FuncId}{fn:Func}{args:List AV}{v:AV}{w':AW}(hf:P.funcs[f]? =some fn)(hb:fn.body=none)(he:yJ2 w fn.name args=some (v,w'))(h:Rel W0 N0 m w W)
  {cargs:Array Value} (ha:VRs m args cargs.toList):∃cv W' m',(callFunc f cargs).run P W= .ok (.value cv) W'∧VR m' v cv∧Rel W0 N0 m' w' W'∧Ext m m' w w':=by
 have arr:∀{l:List Value},cargs.toList=l→cargs=l.toArray:=fun e=>by rw[←e]
 unfold yJ2 at he;split at he
 ·rename_i hn;split at he
  ·rename_i b o;simp only[yQi]at he;obtain⟨cs,hcs,he⟩:=he;split at he
   ·rename_i n;cases he;simp only[VRs,VR]at ha;obtain⟨cp,_,hca,⟨q,hq,rfl⟩,rfl⟩:=ha;rw[arr hca];obtain⟨c,e,fr,cv,hW,hc,hcv⟩:=tJ1 h hcs hq;simp only[VR]at hcv;subst hcv;refine⟨.int .i64 n,W,m,wJt hf hb (by rw[hn];decide) (hkn.load f fn hf hb hn) ?_,by simp[VR],h,Ext.refl _ _⟩;have e1:(asAddr (.pointer (some ⟨q.blk,q.off+o,none⟩))).run P W= .ok ⟨q.blk,q.off+o,none⟩ W:=rfl;show(do Extern.Atomic.read (.int .i64) (←asAddr (.pointer (some ⟨q.blk,q.off+o,none⟩)))).run P W=_;rw[qJb e1];unfold Extern.Atomic.read;rw[qJb (mJ5 hW hc _)];rfl
   ·simp at he
  ·simp at he
 ·split at he
  ·rename_i hn;split at he
   ·rename_i b o n;simp only[yQl]at he;obtain⟨w1,hw1,he⟩:=he;cases he;simp only[VRs,VR]at ha;obtain⟨cp,_,hca,⟨q,hq,rfl⟩,cn,_,rfl,rfl,rfl⟩:=ha;rw[arr hca];obtain⟨W',hr,hrel⟩:=cJu (P:=P) h hw1 hq (v:= .int .i64 n) (by simp[VR]) rfl .atomic;refine⟨.tuple #[],W',m,wJt hf hb (by rw[hn];decide) (hkn.store f fn hf hb hn) ?_,VR.undef,hrel,Ext.put h hw1 hq⟩;have e1:(asAddr (.pointer (some ⟨q.blk,q.off+o,none⟩))).run P W= .ok ⟨q.blk,q.off+o,none⟩ W:=rfl;rw[eJn,qJb e1,qJb hr];rfl
   ·simp at he
  ·split at he
   ·rename_i hn;split at he
    ·rename_i b o d;simp only[yQi]at he;obtain⟨cs,hcs,he⟩:=he;split at he
     ·rename_i n;simp only[yQl]at he;obtain⟨w1,hw1,he⟩:=he;cases he;simp only[VRs,VR]at ha;obtain⟨cp,_,hca,⟨q,hq,rfl⟩,cn,_,rfl,rfl,rfl⟩:=ha;rw[arr hca];obtain⟨c,e,fr,cv,hW,hc,hcv⟩:=tJ1 h hcs hq;simp only[VR]at hcv;subst hcv;obtain⟨W',hr,hrel⟩:=cJu (P:=P) h hw1 hq (v:= .int .i64 (IntKind.i64.wrap (n+d))) (by simp[VR]) rfl .atomic;refine⟨.int .i64 (IntKind.i64.wrap (n+d)),W',m,wJt hf hb (by rw[hn];decide) (hkn.add f fn hf hb hn) ?_,by simp[VR],hrel,Ext.put h hw1 hq⟩;have e1:(asAddr (.pointer (some ⟨q.blk,q.off+o,none⟩))).run P W= .ok ⟨q.blk,q.off+o,none⟩ W:=rfl;have e2:(Extern.Atomic.read (.int .i64) ⟨q.blk,q.off+o,none⟩).run P W= .ok (.int .i64 n) W:=by
       unfold Extern.Atomic.read;rw[qJb (mJ5 hW hc _)];rfl
      rw[wQ1,qJb e1,qJb e2];have e3:(asInt (.int .i64 n)).run P W= .ok n W:=rfl;have e4:(asInt (.int .i64 d)).run P W= .ok d W:=rfl;rw[qJb e3,qJb e4];have e5:(Op.intArith .add .i64 n d).run P W= .ok (.int .i64 (IntKind.i64.wrap (n+d))) W:=rfl;rw[qJb e5,qJb hr];rfl
     ·simp at he
    ·simp at he
   ·split at he
    ·rename_i hn;split at he
     ·rename_i t r;simp only[yQl]at he;obtain⟨x,hx,he⟩:=he;cases he;simp only[VRs,VR]at ha;obtain⟨cp,_,hca,⟨x',rfl,q,hq,rfl⟩,rfl⟩:=ha;rw[arr hca];obtain⟨hN,ces,cl,hW,hM,hB⟩:=h.map hq hx;obtain⟨hle,hrel⟩:=h.push (.map x.1 0) (.map ces cl) 0 (fun _=>⟨h.old.1,ces,cl,kJb,hM.mono (m.le_ext _ (by
       cases hm:m w.size with
       | none=>rfl
       | some p=>exact absurd (h.dom _ _ hm) (gQx _))),hB⟩) (by simp)
      refine⟨.iface t (.map (some W.heap.size)),jJ4 W (.map ces cl),_,wJt hf hb (by rw[hn];decide) (hkn.clone f fn hf hb hn) ?_,?_,hrel,Ext.push h _ _⟩
      ·rw[qQr,qJb (zJa hW (by simp))];rfl
      ·simp only[VR];exact⟨_,rfl,⟨W.heap.size,0,0⟩,by simp[Emb.ext],rfl⟩
     ·simp at he
    ·simp at he
end
end Go.Sx
/-! Laws by the evaluator in continuations. -/
namespace Go.Sx
open Go.ChangeShapes Go.WideShapes
def gJo (n : String) : Bool := n == "sync/atomic.LoadInt64" || n == "sync/atomic.StoreInt64" || n == "sync/atomic.AddInt64" || n == "maps.clone"
theorem aJ6 {fn : Func} (hn : fn.name = "sync/atomic.LoadInt64") : Extern.find fn = some (Extern.Atomic.loadT (.int .i64)) := by
 unfold Extern.find;rw[hn];rfl
theorem iJy {fn : Func} (hn : fn.name = "sync/atomic.StoreInt64") : Extern.find fn = some Extern.Atomic.storeT := by
 unfold Extern.find;rw[hn];rfl
theorem xQi {fn : Func} (hn : fn.name = "sync/atomic.AddInt64") : Extern.find fn = some (Extern.Atomic.update (Op.intArith .add) .i64 true) := by
 unfold Extern.find;rw[hn];rfl
theorem iJz {fn : Func} (hn : fn.name = "maps.clone") : Extern.find fn = some Extern.MapsClone.clone := by
 unfold Extern.find;rw[hn];rfl
theorem aJh {fn:Func}(hn:gJo fn.name=true)(ho:(Extern.allNextRows.lookup fn.origin).isNone=true):Extern.findNext fn=none:=by
 have h1:Extern.allNextRows.lookup fn.name=none:=by
  simp only[gJo,Bool.or_eq_true,beq_iff_eq]at hn;rcases hn with((h | h) | h) | h<;>(rw[h];rfl)
 have h2:Extern.allNextRows.lookup fn.origin=none:=by simpa using ho
 unfold Extern.findNext;simp only[h1,h2];rfl
def kJ6(P:Program):Bool:=P.funcs.toList.all fun fn=>fn.body.isSome || !gJo fn.name || (Extern.allNextRows.lookup fn.origin).isNone
def aJg (P : Program) : Bool := P.funcs.toList.all fun fn => !(fn.name == "runtime.NumGoroutine")
theorem jQ2 {P:Program}(h:kJ6 P=true):Knows P:=by
 have key:∀(f:FuncId) (fn:Func),P.funcs[f]? =some fn→fn.body=none→gJo fn.name=true→Extern.findNext fn=none:=fun f fn hf hb hn=>by
  have hm:fn∈P.funcs.toList:=by
   rw[←yQ4]at hf;exact List.mem_of_getElem? hf
  have:=yQv.1 h fn hm;rw[hb,hn]at this;exact aJh hn (by simpa using this)
 refine⟨fun f fn hf hb hn=>⟨key f fn hf hb (by rw[hn];rfl),aJ6 hn⟩,fun f fn hf hb hn=>⟨key f fn hf hb (by rw[hn];rfl),iJy hn⟩,
  fun f fn hf hb hn=>⟨key f fn hf hb (by rw[hn];rfl),xQi hn⟩,fun f fn hf hb hn=>⟨key f fn hf hb (by rw[hn];rfl),iJz hn⟩⟩
def vQu:Hook:=fun _ _ _=>none
theorem iJx {P:Program}{W0:World}{N0:Nat}(hm:P.follows .mixedOrders=true)(hn:aJg P=true)(hx:kJ6 P=true):Host P vQu W0 N0:=by
 refine⟨hm,fun f fn hf _=>?_,fun f fn args w v w' hf hb he m W cargs h ha=>qQe (jQ2 hx) hf hb he h ha,fun f args w v w' h=>by simp[vQu]at h⟩;have hmem:fn∈P.funcs.toList:=by
  rw[←yQ4]at hf;exact List.mem_of_getElem? hf
 simpa using yQv.1 hn fn hmem
end Go.Sx
/-! A law's arguments: numbers, strings, and slices that nobody looks into. -/
namespace Go.Sx
open Go.ChangeShapes Go.WideShapes Go.ChangeAt Go.RowKit
def cJs(W:World):Prop:=∀(b:Nat) (c:Array Value) (e:TypeId) (fr:Nat×Nat),W.heap[b]? ≠some (.cells c e fr)
section
variable {H:Type}{enc:TypeId×Value→H}{P:Program}{W:World}
theorem jQm {base:Nat}{t e:TypeId}{r:Reach}{a:Addr}{len cap:Nat}(ht:P.underlying t=some (.slice e))(h:Value.okWide P W r base t (.slice (some a) len cap)):
  ∃c u fr,W.heap[a.block]? =some (.cells c u fr):=by
 unfold Value.okWide at h;rw[ht]at h;simp only[Cell.okWide,Cell.ok,ht]at h;obtain⟨_,_,_,_,row,cells,hs,_⟩:=h;unfold World.shape? at hs;split at hs
 ·rename_i c u fr hb;exact⟨c,u,fr,hb⟩
 ·cases hs
/-! ### Reading the arguments behind the call -/
theorem zQ2 {W':World}(h:∀c,c<W.heap.size→W'.heap[c]? =W.heap[c]?){p:MemPlace}(hp:p.block<W.heap.size):W.sameAt W' p:=by
  cases p with
  | cell b off=>
    simp only[World.sameAt,World.cell?];rw[h b hp]
  | map b=>exact h b hp
theorem eJh {W':World}(hold:∀c,c<W.heap.size→W'.heap[c]? =W.heap[c]?){t:TypeId}{v:Value}{d:DataW H}{ps:List MemPlace}(hd:DataW.Trod enc P W 0 (fun _=>true) true t v d ps):DataW.Trod enc P W' 0 (fun _=>true) true t v d ps:=by
 obtain⟨n,hn⟩:=hd;exact⟨n,DataW.trod_carry n _ _ _ hn fun p hp=>zQ2 hold (DataW.trod_lt n _ _ _ hn p hp)⟩
theorem dJo {w:World}{sp:Nat→Bool}:∀{ts:List TypeId} {vs:List Value} {ds:List (DataW H)} {ps:List MemPlace},DataW.TrodAll enc P w 0 sp true ts vs ds ps→ds.length=ts.length
 | [],[],[],_,_=>rfl
 | _::_,_::_,_::_,_,⟨_,_,_,h,_⟩=>by rw[gQd,gQd,dJo h]
def bJd(P:Program):Nat→TypeId→Bool
  | 0,_=>false
  | d+1,t=>match P.underlying t with
    | some (.int _)=>true
    | some .bool=>true
    | some .string=>true
    | some (.slice e)=>Nat.blt 0 (P.cellsOf e)&&bJd P d e
    | some (.struct fs)=>fs.toList.all fun f=>bJd P d f.type
    | _=>false
theorem rJ6 {α β γ:Type}(g:α→β)(f:β→Option γ):∀l:List α,(l.map g).mapM f=l.mapM (f ∘ g)
 | []=>rfl
 | a::l=>by rw[List.map_cons,List.mapM_cons,List.mapM_cons,rJ6 g f l];rfl
theorem uJx {β:Type}:∀(l:List β) (f:Nat→Option β),(∀i,i<l.length→f i=l[i]?)→(List.range l.length).mapM f=some l
  | [],f,_=>rfl
  | b::l,f,h=>by
    rw[gQd,List.range_succ_eq_map,List.mapM_cons,h 0 (by simp),rJ6,uJx l (f ∘ Nat.succ) (fun i hi=>by have:=h (i+1) (by simpa using hi);simpa using this)];rfl
theorem rJ5 {α β:Type}{f g:α→Option β}:∀{l:List α} {r:List β},l.mapM f=some r→(∀x y,x∈l→y∈r→f x=some y→g x=some y)→l.mapM g=some r
  | [],r,h,_=>h
  | x::xs,r,h,hg=>by
    rw[List.mapM_cons]at h ⊢
    cases hx:f x with
    | none=>rw[hx]at h;simp at h
    | some y=>
      cases hxs:xs.mapM f with
      | none=>rw[hx,hxs]at h;simp at h
      | some ys=>
        rw[hx,hxs]at h;simp only[Option.bind_eq_bind,Option.bind_some,pure,yQx]at h;subst h;rw[hg x y yQu yQu hx,rJ5 hxs (fun a b ha hb=>hg a b (yQq _ ha) (yQq _ hb))];rfl
theorem nJr {w:World}{sp:Nat→Bool}:∀(d:Nat) {t:TypeId} {n:Nat} {cs:List Value} {x:DataW H×List MemPlace},bJd P d t=true→DataW.trod enc P w 0 (fun _=>true) true n t cs=some x→(∀p∈x.2,sp p.block=true)→
    DataW.trod enc P w 0 sp true n t cs=some x
  | 0,t,n,cs,x,hp,_,_=>by cases hp
  | d+1,t,n,cs,x,hp,h,hs=>by
    cases n with
    | zero=>simp[DataW.trod]at h
    | succ n=>
      unfold bJd at hp;split at hp
      · rename_i k hu
        obtain⟨y,rfl,rfl,hw⟩:=DataW.trod_int hu h;unfold DataW.trod;rw[hu];simp[hw]
      · rename_i hu
        obtain⟨y,rfl,rfl⟩:=DataW.trod_bool hu h;unfold DataW.trod;rw[hu]
      · rename_i hu
        obtain⟨y,rfl,rfl,hw⟩:=DataW.trod_string hu h;unfold DataW.trod;rw[hu];simp[hw]
      · rename_i e hu
        simp only[gQ3,gQm]at hp;obtain⟨hpos,hpe⟩:=hp;rcases DataW.trod_slice hu h with⟨rfl,rfl⟩ | ⟨a,len,cap,elems,rest,n',hn,rfl,rfl,hb,hle,hmax,hlen,hel,hre,_⟩
        · unfold DataW.trod;rw[hu];rfl
        · cases hn
          obtain⟨hrl,hre⟩:=hre rfl;simp only[yQ1,List.mem_flatMap]at hs;have sub:∀y,y∈elems++rest→∀p∈y.2,sp p.block=true:=fun y hy p hp=>hs p (.inr ⟨y,by simpa using hy,hp⟩);have one:∀i y,y∈elems++rest→(w.cells? 0 (a.add (i * P.cellsOf e)) (P.cellsOf e)).bind (DataW.trod enc P w 0 (fun _=>true) true n e)=some y→
              (w.cells? 0 (a.add (i * P.cellsOf e)) (P.cellsOf e)).bind (DataW.trod enc P w 0 sp true n e)=some y:=fun i y hy h=>by
            rw[yQi]at h ⊢;obtain⟨cs,h1,h2⟩:=h;exact⟨cs,h1,nJr d hpe h2 (sub y hy)⟩
          have r1:(List.range len).mapM (fun i=>(w.cells? 0 (a.add (i * P.cellsOf e)) (P.cellsOf e)).bind (DataW.trod enc P w 0 sp true n e))=some elems:=by
            rw[←hlen];refine uJx _ _ fun i hi=>?_;rw[yQn hi];exact one i _ (List.mem_append_left _ (gQp hi)) (by rw[hel i (by omega),yQn hi])
          have r2:(List.range (cap - len)).mapM (fun j=>(w.cells? 0 (a.add ((len+j) * P.cellsOf e)) (P.cellsOf e)).bind (DataW.trod enc P w 0 sp true n e))=some rest:=by
            rw[←hrl];refine uJx _ _ fun i hi=>?_;rw[yQn hi];exact one (len+i) _ (List.mem_append_right _ (gQp hi)) (by rw[hre i (by omega),yQn hi])
          have r3:(if sp a.block then(List.range (cap - len)).mapM (fun j=>(w.cells? 0 (a.add ((len+j) * P.cellsOf e)) (P.cellsOf e)).bind (DataW.trod enc P w 0 sp true n e))else some [])=some rest:=by
            by_cases hc:cap - len=0
            · have:rest=[]:=List.eq_nil_of_length_eq_zero (by omega)
              subst this;rw[hc];split<;>rfl
            · have hsa:sp a.block=true:=by
                have:=hs (.cell a.block (a.off+0)) (.inl (MemPlace.mem_row.2 ⟨0,Nat.mul_pos (by omega) hpos,rfl⟩));exact this
              rw[if_pos hsa];exact r2
          unfold DataW.trod;rw[hu];simp only[];rw[if_pos ⟨hb,hle,hmax⟩,r1,Option.bind_some,r3];rfl
      · rename_i fs hu
        obtain⟨xs,h1,h2⟩:∃xs,(cs.length=P.cellsOf t∧fs.toList.mapM (fun f=>DataW.trod enc P w 0 (fun _=>true) true n f.type ((cs.drop f.offset).take (P.cellsOf f.type)))=some xs)∧x=(.agg (xs.map (·.1)),xs.flatMap (·.2)):=by
          unfold DataW.trod at h;rw[hu]at h;simp only[]at h;split at h
          · rename_i hl
            rw[yQl]at h;obtain⟨xs,h1,h2⟩:=h;exact⟨xs,⟨hl,h1⟩,h2.symm⟩
          · cases h
        subst h2;have:=rJ5 (g:=fun f:Field=>DataW.trod enc P w 0 sp true n f.type ((cs.drop f.offset).take (P.cellsOf f.type))) h1.2 fun f y hf hy he=>
          nJr d (yQv.1 hp f hf) he fun p hp=>hs p (List.mem_flatMap.2 ⟨y,hy,hp⟩)
        unfold DataW.trod;rw[hu];simp only[];rw[if_pos h1.1,this];rfl
      · cases hp
theorem yJa {W':World}{sp:Nat→Bool}(d:Nat)(hold:∀c,c<W.heap.size→W'.heap[c]? =W.heap[c]?):∀{ts:List TypeId} {vs:List Value} {ds:List (DataW H)} {ps:List MemPlace},(∀t∈ts,bJd P d t=true)→
    DataW.TrodAll enc P W 0 (fun _=>true) true ts vs ds ps→(∀p∈ps,sp p.block=true)→DataW.TrodAll enc P W' 0 sp true ts vs ds ps
  | [],[],[],ps,_,h,_=>h
  | t::ts,v::vs,x::ds,ps,hp,⟨p,q,h1,h2,e⟩,hs=>by
    subst e;refine⟨p,q,?_,yJa d hold (fun t ht=>hp t (yQq _ ht)) h2 (fun y hy=>hs y (List.mem_append_right _ hy)),rfl⟩;obtain⟨n,hn⟩:=eJh hold h1;exact⟨n,nJr d (hp t yQu) hn fun y hy=>hs y (List.mem_append_left _ hy)⟩
theorem jQb {f:Func}{s:ChangeSpec}{apart fresh handsOn again:Bool}{W':World}{args:Array Value}{ds:List (DataW H)}{before:List MemPlace}{tb:TypeId}(d:Nat)
  (hts:∀t∈f.params.toList,bJd P d t=true) (hvars:s.vars=[]) (hr:f.resultTypes=#[tb]) (hb:P.underlying tb=some .bool)
  (hfn:s.fn H (ds++[])={results:=[.lit (.bool true)],args:=ds}) (hv:(s.fn H (ds++[])).vars=[])
  (hW:DataW.Whole enc P f.params.toList s.vars apart W args.toList ds [] before)
  (hk:W.keptBut W' (fun _=>False)) (hold:∀c,c<W.heap.size→W'.heap[c]? =W.heap[c]?) (hfz:∀a:Addr,a.block<W.heap.size→W'.frozen? a=W.frozen? a)
  (hok:∀(j:Nat) (t:TypeId) (r:Value),f.resultTypes[j]? =some t→((Value.bool true).resultList f.resultTypes.size)[j]? =some r→Value.okWide P W' .any 0 t r):
  s.post enc P f apart fresh handsOn again W args (.bool true) W':=by
 have hW':=hW;obtain⟨p,q,hA,hV,rfl,_,_⟩:=hW;rw[hvars]at hV;obtain⟨_,rfl⟩:=trodVars_none hV;refine eJ4 (pa:=p) (pv:=[]) hW' (fun b sp hd=>?_) (fun sp hs=>?_) (fun sp hs=>?_) (by simp) (World.keptBut_mono (fun _ f=>f.elim) hk) hfz hok
 ·rw[hfn,hr];exact trodAll_cons_mk (shut_bool hb _) trodAll_mk0
 ·rw[hfn];exact yJa d hold hts hA fun x hx=>hs x (by simpa using hx)
 ·rw[hv,hvars];rfl
end
end Go.Sx
/-! Calls whose doing is known otherwise: slices.Sorted over a map's keys. -/
namespace Go.Sx
section rel
variable {W0:World}{N0:Nat}{m:Emb}{w:AW}{W:World}
theorem Rel.more(h:Rel W0 N0 m w W){W':World}(hbel:∀c,c<W.heap.size→W'.heap[c]? =W.heap[c]?)(hsz:W.heap.size≤W'.heap.size)(henv:Env W W'):Rel W0 N0 m w W':=by
 refine⟨Env.trans h.env henv,h.pos,h.dom,⟨gQt h.old.1 hsz,fun c hc=>by rw[hbel c (by have:=h.old.1;omega)];exact h.old.2 c hc⟩,fun b p hb=>?_,h.sep,h.tip,h.single,h.wf,h.wfF,h.root0⟩;obtain⟨o,hg,ho⟩:=h.obj b p hb;exact⟨o,hg,ho.congr (Emb.le_refl _) (hbel _ (h.lt hb)) hsz (fun x hx=>hx) (fun x hx cs hcs=>hcs) (fun d q es v hq hd=> .inl ⟨hd,hbel _ (h.lt hq)⟩)⟩
end rel
end Go.Sx
/-! The meaning, run in one order (nothing is claimed of it). -/
namespace Go.Sx
section ev
variable(P:Program)(ev:Task→Option Res)
end ev
end Go.Sx
