/-
 The meaning of code on the abstract machine,as a program in continuations,and that it is right.
 No condition beyond those that each theorem names.
-/
import Derived.Test.YtghoifolghelnaaGreatSxc
set_option linter.unusedVariables false
set_option linter.unusedSimpArgs false
/-! The evaluator in continuations: effects, regions, code. -/
namespace Go.Sx
noncomputable section
abbrev FE:=yJ8→(FRes→Bool)→Bool
def tJh(r:FRes)(k:AV→AW→Bool):Bool:=FRes.rec (motive:=fun _=>(AV→AW→Bool)→Bool) (fun _ _ _ _ _=>false) (fun v w k=>k v w) r k
def asEx(r:FRes)(k:zJo→TT→List Nat→AW→Bool):Bool:=FRes.rec (motive:=fun _=>(zJo→TT→List Nat→AW→Bool)→Bool) (fun e t ds w k=>k e t ds w) (fun _ _ _=>false) r k
def lJe(e:zJo)(x y:Bool):Bool:=zJo.rec (motive:=fun _=>Bool→Bool→Bool) (fun x _=>x) (fun _ _ y=>y) (fun _ _ y=>y) (fun _ y=>y) e x y
def isEnd(e:zJo)(x:Bool):Bool:=zJo.rec (motive:=fun _=>Bool→Bool) (fun x=>x) (fun _ _=>false) (fun _ _=>false) (fun x=>x) e x
def vQ0(e:zJo)(f:Nat→Bool)(y:Bool):Bool:=zJo.rec (motive:=fun _=>(Nat→Bool)→Bool→Bool) (fun _ y=>y) (fun i f _=>f i) (fun _ _ y=>y) (fun _ y=>y) e f y
def vQz(e:zJo)(f:Nat→Bool)(y:Bool):Bool:=zJo.rec (motive:=fun _=>(Nat→Bool)→Bool→Bool) (fun _ y=>y) (fun _ _ y=>y) (fun i f _=>f i) (fun _ y=>y) e f y
section
variable(P:Program)
structure KM where
 run:AW→TT→(AV→AO→Bool)→Bool
def genM(n:Nat)(o:Op):KM:=⟨fun w t k=>optB (mJd P w (evF t n) o) fun x=>k x.1 x.2⟩
def kQd(z:Option (List AV)):KM:=
 match z with
 | none=>⟨fun _ _ _=>false⟩
 | some z=>⟨fun w _ k=>k (.ptr w.size 0) (.cells z w.size w.size false)⟩
def nJf(n:Nat)(o:Op):KM:=
 match o with
 | .alloc ty=>kQd (mJv P ty)
 | .makeMap _ none=>⟨fun w _ k=>k (.map w.size) (.map [] 0)⟩
 | o=>genM P n o
theorem nJe(o:Op)(w:AW)(t:TT)(n:Nat)(k:AV→AO→Bool):(nJf P n o).run w t k=optB (mJd P w (evF t n) o) fun x=>k x.1 x.2:=by
 unfold nJf;split
 ·rename_i ty;show(kQd (mJv P ty)).run w t k=optB (bnd (mJv P ty) _) _;cases mJv P ty<;>rfl
 ·rfl
 ·rfl
structure KE where
 run:AW→TT→(AV→AW→Bool)→Bool
def vQi(n:Nat)(a x:Operand)(z:Option Nat):KE:=
 match z with
 | none=>⟨fun _ _ _=>false⟩
 | some z=>match opdC n a,opdC n x with | ⟨ra⟩,⟨rx⟩=>⟨fun w t k=>ra t fun p=>rx t fun v=>oJx p fun b o=>
   qQz v (fun cs=>ifB (mJp z cs) (ifB (mJs cs) (iJw w b o cs fun w'=>k undef w') false) false) (ifB (Nat.beq 1 z) (iJw w b o [v] fun w'=>k undef w') false)⟩
def effC(n:Nat)(o:Op):KE:=
 match o with
 | .store ty a x=>vQi n a x (szOf P ty)
 | o=>⟨fun w t k=>optB (effE P w (evF t n) o) fun x=>k x.1 x.2⟩
theorem wQl(o:Op)(w:AW)(t:TT)(n:Nat)(k:AV→AW→Bool):(effC P n o).run w t k=optB (effE P w (evF t n) o) fun x=>k x.1 x.2:=by
  unfold effC;split
  · rename_i ty a x
    show(vQi n a x (szOf P ty)).run w t k=optB (bnd (evF t n a) fun p=>bnd (evF t n x) _) _;simp only[qJ2]
    cases hz:szOf P ty with
    | none=>
      show false=_
      cases evF t n a with
      | none=>rfl
      | some p=>
        simp only[kJ8]
        cases evF t n x with
        | none=>rfl
        | some v=>
          simp only[kJ8];cases p<;>try rfl
          show false=optB (bnd (dJs P w ty _ _ v) _) _;unfold dJs;rw[hz];rfl
    | some z=>
      refine(zJy a t n _).trans ?_;congr 1;funext p;refine(zJy x t n _).trans ?_;congr 1;funext v;cases p<;>try rfl
      rename_i b o;show qQz v _ _=optB (bnd (dJs P w ty b o v) _) _;rw[qJ2];unfold dJs;rw[hz,qJ2,kJ8];have one:(ifB (Nat.beq 1 z) (iJw w b o [v] fun w'=>k undef w') false)=optB (cond (Nat.beq 1 z) (putF w b o [v]) none) fun w'=>optB (some (undef,w')) fun x=>k x.1 x.2:=by
        rw[kJ9,oJp];rfl
      cases v
      case agg cs=>
        show ifB (mJp z cs) (ifB (mJs cs) (iJw w b o cs fun w'=>k undef w') false) false=optB (cond (mJp z cs&&mJs cs) (putF w b o cs) none) _;rw[kJ9,oJp];cases mJp z cs<;>cases mJs cs<;>rfl
      case tup cs=>rfl
      all_goals exact one
  · rfl
def kQ5(w:AW)(ev:Ev)(i:Operand)(s:Bool)(k:AV→AW→Bool):Bool:=
  optB (ev i) fun x=>match x with
    | .ptr b 0=>match w.get b,s with
      | some (.mapIter (some m) es c (kv1::kv2::r) _),false=>optB (xJk w m) fun y=>ifB (Nat.beq y.2 c)
          ((picks (kv1::kv2::r)).all fun p=>k (.tup [.bool true,p.1.1,p.1.2]) (w.set b (.mapIter (some m) es c p.2 (some (.tup [p.1.1,p.1.2]))))) false
      | _,_=>optB (cJg w ev i s) fun x=>k x.1 x.2
    | _=>false
structure KOp where
 run:FE→AW→TT→(AV→AW→Bool)→Bool
def callC(n:Nat)(f:Operand)(args:List Operand):KOp:=
 match opdC n f,jQj n args with | ⟨rf⟩,⟨ra⟩=>⟨fun fe w t k=>rf t fun fv=>ra t fun as=>
  wQ0 fv (fun g a b=>fe (.call g (a++(as++b)) w) fun r=>tJh r k) (fun l=>fe (.yield l as w) fun r=>tJh r k)⟩
def opC(n:Nat)(o:Op):KOp:=
  match ikOf P o with
  | .pu=>match rJp P n o with | ⟨r⟩=>⟨fun _ w t k=>r w t fun v=>k v w⟩
  | .mk=>match nJf P n o with | ⟨r⟩=>⟨fun _ w t k=>r w t fun v ob=>k v (lJb w ob)⟩
  | .ef=>match effC P n o with | ⟨r⟩=>⟨fun _ w t k=>r w t k⟩
  | .call=>match o with
    | .call c=>match c.callee with
      | .value f=>callC n f c.args.toList
      | _=>⟨fun _ _ _ _=>false⟩
    | _=>⟨fun _ _ _ _=>false⟩
  | .next=>match o with
    | .next i s=>⟨fun _ w t k=>kQ5 w (evF t n) i s k⟩
    | _=>⟨fun _ _ _ _=>false⟩
  | .bad=>⟨fun _ _ _ _=>false⟩
structure KG where
 run:TT→Bool→Bool→Bool
def gdC(n:Nat)(g:GD):KG:=
  match g with
  | .always=>⟨fun _ x _=>x⟩
  | .never=>⟨fun _ _ y=>y⟩
  | .tmp d want=>match Nat.blt d n,want with
    | true,true=>match getC d with | ⟨g⟩=>⟨fun t x y=>dJj (g t) (fun b=>ifB b x y) y⟩
    | true,false=>match getC d with | ⟨g⟩=>⟨fun t x y=>dJj (g t) (fun b=>ifB b y x) y⟩
    | false,_=>⟨fun _ _ y=>y⟩
theorem lJn(g:GD)(t:TT)(n:Nat)(x y:Bool):(gdC n g).run t x y=cond (gdF t n g) x y:=by
  cases g with
  | always=>rfl
  | never=>rfl
  | tmp d want=>
    simp only[gdC,gdF]
    cases Nat.blt d n with
    | false=>cases want<;>rfl
    | true=>
      have hg:=sJ7 d t;cases want
      · show dJj ((getC d).get t) (fun b=>ifB b y x) y=_
        rw[hg];simp only[cond_true];cases getR t d<;>try rfl
        rename_i b;cases b<;>rfl
      · show dJj ((getC d).get t) (fun b=>ifB b x y) y=_
        rw[hg];simp only[cond_true];cases getR t d<;>try rfl
        rename_i b;cases b<;>rfl
structure KS where
 run:FE→AW→TT→(TT→AW→Bool)→Bool
def seqC(n:Nat)(all:List Oper):List Oper→KS
  | []=>⟨fun _ w t k=>k t w⟩
  | o::r=>match opC P n o.op,seqC n all r,putC o.dst with
    | ⟨ro⟩,⟨rs⟩,⟨pt⟩=>match gdOf all o.guard with
      | .always=>⟨fun fe w t k=>ro fe w t fun v w'=>rs fe w' (pt t v) k⟩
      | g=>match gdC n g with
        | ⟨rg⟩=>⟨fun fe w t k=>rg t (ro fe w t fun v w'=>rs fe w' (pt t v) k) (rs fe w (pt t undef) k)⟩
structure KQ where
 run:List FRd→AW→TT→(List FRd→TT→AW→Bool)→Bool
def qC(n:Nat):List QI→KQ
  | []=>⟨fun rds w t k=>k rds t w⟩
  | .pu g o::r=>match gdC n g,rJp P n o.op,qC n r,putC o.dst with
    | ⟨rg⟩,⟨rp⟩,⟨rs⟩,⟨pt⟩=>⟨fun rds w t k=>rg t (rp w t fun v=>rs rds w (pt t v) k) (rs rds w (pt t undef) k)⟩
  | .rd g o i keep::r=>match gdC n g,rJp P n o.op,qC n r,putC o.dst with
    | ⟨rg⟩,⟨rp⟩,⟨rs⟩,⟨pt⟩=>⟨fun rds w t k=>rg t (rp w t fun v=>rs (cond keep (⟨i,v,t⟩::rds) rds) w (pt t v) k) (rs rds w (pt t undef) k)⟩
  | .mk g o::r=>match gdC n g,nJf P n o.op,qC n r,putC o.dst with
    | ⟨rg⟩,⟨rp⟩,⟨rs⟩,⟨pt⟩=>⟨fun rds w t k=>rg t (rp w t fun v ob=>rs rds (lJb w ob) (pt t v) k) (rs rds w (pt t undef) k)⟩
theorem sJn {α:Type}(c:Bool)(x y:Option α)(k:α→Bool):optB (cond c x y) k=cond c (optB x k) (optB y k):=by cases c<;>rfl
theorem sJj:∀(q:List QI) (rds:List FRd) (w:AW) (t:TT) (n:Nat) (k:List FRd→TT→AW→Bool),(qC P n q).run rds w t k=optB (fQ P n q rds t w) fun x=>k x.1 x.2.1 x.2.2
  | [],_,_,_,_,_=>rfl
  | .pu g o::r,rds,w,t,n,k=>by
    show(gdC n g).run t ((rJp P n o.op).run w t fun v=>(qC P n r).run rds w ((putC o.dst).set t v) k) ((qC P n r).run rds w ((putC o.dst).set t undef) k)=optB (cond (gdF t n g) (bnd _ _) _) _;rw[lJn,sJn,qJ2,pJ8];simp only[yJt,sJj r]
  | .rd g o i keep::r,rds,w,t,n,k=>by
    show(gdC n g).run t ((rJp P n o.op).run w t fun v=>(qC P n r).run (cond keep (⟨i,v,t⟩::rds) rds) w ((putC o.dst).set t v) k) ((qC P n r).run rds w ((putC o.dst).set t undef) k)=optB (cond (gdF t n g) (bnd _ _) _) _;rw[lJn,sJn,qJ2,pJ8];simp only[yJt,sJj r]
  | .mk g o::r,rds,w,t,n,k=>by
    show(gdC n g).run t ((nJf P n o.op).run w t fun v ob=>(qC P n r).run rds (lJb w ob) ((putC o.dst).set t v) k) ((qC P n r).run rds w ((putC o.dst).set t undef) k)=optB (cond (gdF t n g) (bnd _ _) _) _;rw[lJn,sJn,qJ2,nJe];simp only[yJt,lJa,sJj r]
def yJf(ops:List Oper)(n:Nat)(w:AW)(rds:List FRd):Bool:=List.rec (motive:=fun _=>Bool) true (fun r _ ih=>ifB (iJ1 P ops n w r) ih false) rds
theorem wJc(ops:List Oper)(n:Nat)(w:AW):∀rds,yJf P ops n w rds=pJr P ops n w rds
  | []=>rfl
  | r::rds=>by
    show ifB (iJ1 P ops n w r) (yJf P ops n w rds) false=_;rw[wJc ops n w rds,vQ2];rfl
def vJd(bfi:Nat)(rds:List FRd):List FRd:=List.rec (motive:=fun _=>List FRd) [] (fun r _ ih=>Bool.rec (motive:=fun _=>List FRd) (r::ih) ih (tb bfi r.i)) rds
theorem uJ1(bfi:Nat):∀rds,vJd bfi rds=rds.filter fun r=>!(tb bfi r.i)
  | []=>rfl
  | r::rds=>by
    show Bool.rec (motive:=fun _=>List FRd) (r::vJd bfi rds) (vJd bfi rds) (tb bfi r.i)=_;rw[uJ1 bfi rds,List.filter_cons];cases tb bfi r.i<;>rfl
structure KPl where
 run:FE→List FRd→AW→TT→(TT→AW→Bool)→Bool
def mJl(n:Nat)(ops:List Oper):Plan→KPl
  | .bad=>⟨fun _ _ _ _ _=>false⟩
  | .done q chk=>match chk with
    | true=>⟨fun _ rds w t k=>(qC P n q).run rds w t fun rds t w=>ifB (yJf P ops n w rds) (k t w) false⟩
    | false=>⟨fun _ rds w t k=>ifB (yJf P ops n w rds) ((qC P n q).run rds w t fun _ t w=>k t w) false⟩
  | .eff q chk g o _ bfi next=>
    let go:KPl:=match gdC n g,opC P n o.op,mJl n ops next,putC o.dst with
      | ⟨rg⟩,⟨ro⟩,⟨rs⟩,⟨pt⟩=>⟨fun fe rds w t k=>rg t (ro fe w t fun v w'=>rs fe (vJd bfi rds) w' (pt t v) k) (rs fe (vJd bfi rds) w (pt t undef) k)⟩
    match chk with
    | true=>⟨fun fe rds w t k=>(qC P n q).run rds w t fun rds t w=>ifB (yJf P ops n w rds) (go.run fe rds w t k) false⟩
    | false=>⟨fun fe rds w t k=>ifB (yJf P ops n w rds) ((qC P n q).run rds w t fun rds t w=>go.run fe rds w t k) false⟩
structure KR where
 run:AW→TT→(List AV→Bool)→Bool
def resC(n:Nat):List ResultVar→KR
 | []=>⟨fun _ _ k=>k []⟩
 | .tmp i::rs=>⟨fun w t k=>ifB (Nat.ble (Nat.succ i) n) ((resC n rs).run w t fun vs=>k ((getC i).get t::vs)) false⟩
 | .cell a ty::rs=>⟨fun w t k=>ifB (Nat.ble (Nat.succ a) n) ((jQw n (.tmp a) (mJt P ty)).run w t fun v=>(resC n rs).run w t fun vs=>k (v::vs)) false⟩
def jQ7(w:AW)(ds:List Nat)(k:AW→Bool):Bool:=List.rec (motive:=fun _=>Bool) (k w) (fun _ _ _=>optB (kJj w ds) k) ds
theorem jQ6(w:AW)(ds:List Nat)(k:AW→Bool):jQ7 w ds k=optB (kJj w ds) k:=by cases ds<;>rfl
structure KC where
 run:FE→Option Nat→TT→List Nat→AW→(zJo→TT→List Nat→AW→Bool)→Bool
def regC(n:Nat)(ops:List Oper)(draw:Bool):KC:=
 match draw with
 | true=>⟨fun fe _ t ds w k=>(mJl P n ops (lJw P ops)).run fe [] w t fun t w=>k .normal t ds w⟩
 | false=>⟨fun fe _ t ds w k=>(seqC P n ops ops).run fe w t fun t w=>k .normal t ds w⟩
def xJz(n:Nat):Code→KC
 | .skip=>⟨fun _ _ t ds w k=>k .normal t ds w⟩
 | .label _=>⟨fun _ _ t ds w k=>k .normal t ds w⟩
 | .ret=>⟨fun _ _ t ds w k=>k .ret t ds w⟩
 | .exit id=>⟨fun _ _ t ds w k=>k (.exit id) t ds w⟩
 | .goto l=>⟨fun _ _ t ds w k=>k (.goto l) t ds w⟩
 | .seq a b=>⟨fun fe ro t ds w k=>(xJz n a).run fe ro t ds w fun e t ds w=>lJe e ((xJz n b).run fe ro t ds w k) (k e t ds w)⟩
 | .cond c a b=>⟨fun fe ro t ds w k=>(opdC n c).run t fun v=>qQ0 v fun x=>Bool.rec (motive:=fun _=>Bool) ((xJz n b).run fe ro t ds w k) ((xJz n a).run fe ro t ds w k) x⟩
 | .block id b=>⟨fun fe ro t ds w k=>(xJz n b).run fe ro t ds w fun e t ds w=>vQ0 e (fun i=>ifB (Nat.beq i id) (k .normal t ds w) (k (.exit i) t ds w)) (k e t ds w)⟩
 | .loop b=>⟨fun fe ro t ds w k=>(xJz n b).run fe ro t ds w fun e t ds w=>lJe e (fe (.code ro (.loop b) t n ds w) fun r=>asEx r k) (k e t ds w)⟩
 | .region _ ops draw=>regC P n ops.toList draw
 | .scope b=>⟨fun fe ro t ds w k=>fe (.scope ro b b t n ds w) fun r=>asEx r k⟩
 | .rangeFunc f params assign body=>⟨fun fe ro t ds w k=>optB (qQb ro ds w) fun x=>(opdC n f).run t fun fv=>
   wQ0 fv (fun g a b=>fe (.call g (a++([.yield x.2.2.size]++b)) (x.2.2.push (LoopA.ob ⟨.ready,none,0,absT n t,params.toList,assign,body,x.1⟩))) fun r=>tJh r fun _ w'=>
    optB (zJ4 w' x.2.2.size) fun r=>if r.st= .busy then false else match r.pending with
     | none=>k .normal t x.2.1 (w'.set x.2.2.size (LoopA.ob {r with st:= .exhausted}))
     | some c=>fe (.code ro c t n x.2.1 (w'.set x.2.2.size (LoopA.ob {r with st:= .exhausted}))) fun r=>asEx r k) (fun _=>false)⟩
 | .refuse _=>⟨fun _ _ _ _ _ _=>false⟩
structure KF where
 run:FE→List AV→AW→(FRes→Bool)→Bool
def bodyC(fn:Func)(c:Code):KF:=
 ⟨fun fe args w K=>ifB (Nat.ble args.length fn.ntmps) ((xJz P fn.ntmps c).run fe none (ofL 0 args .nil) [] w fun e t ds w=>
  isEnd e (jQ7 w ds fun w=>(resC P fn.ntmps fn.results.toList).run w t fun vs=>K (.val (one vs) w))) false⟩
def funC(fn:Option Func):KF:=
  match fn with
  | none=>⟨fun _ _ _ _=>false⟩
  | some fn=>match fn.body with
    | some c=>bodyC P fn c
    | none=>⟨fun _ args w K=>optB (yJ2 w fn.name args) fun x=>K (.val x.1 x.2)⟩
def kQ9(fe:FE)(hk:Hook)(f:FuncId)(args:List AV)(w:AW)(K:FRes→Bool):Bool:=
 Option.rec (motive:=fun _=>Bool) ((funC P (nthF f P.funcs.toList)).run fe args w K) (fun r=>optB r fun x=>K (.val x.1 x.2)) (hk f args w)
def vQy(fe:FE)(l:Nat)(args:List AV)(w:AW)(K:FRes→Bool):Bool:=
  optB (zJ4 w l) fun r=>ifB (Nat.beq args.length r.params.length) ((xJz P r.tmps.length r.assign).run fe (some l) (iJ0 (r.params.zip args) (ofL 0 r.tmps .nil)) [] w fun e t ds w=>
    lJe e (optB (zJ4 w l) fun r2=>match r2.st with
      | .ready=>(xJz P r.tmps.length r.body).run fe (some l) t ds (w.set l (LoopA.ob {r2 with st:= .busy})) fun e _ _ w=>
        optB (zJ4 w l) fun r3=>K (.val (.bool (jJ5 e).isNone) (w.set l (LoopA.ob {r3 with st:=if(jJ5 e).isNone then .ready else .done,pending:=jJ5 e})))
      | _=>false) false) false
def kTask(fe:FE)(hk:Hook)(task:yJ8)(K:FRes→Bool):Bool:=
 yJ8.rec (motive:=fun _=>FE→Hook→(FRes→Bool)→Bool)
  (fun ro c t n ds w fe _ K=>(xJz P n c).run fe ro t ds w fun e t ds w=>K (.ex e t ds w))
  (fun ro b c t n ds w fe _ K=>(xJz P n c).run fe ro t ds w fun e t ds w=>vQz e (fun l=>match zJ6 b l with
   | some rest=>fe (.scope ro b rest t n ds w) K
   | none=>K (.ex e t ds w)) (K (.ex e t ds w)))
  (fun f args w fe hk K=>kQ9 P fe hk f args w K)
  (fun l args w fe _ K=>vQy P fe l args w K) task fe hk K
def kN(hk:Hook)(n:Nat):FE:=Nat.rec (motive:=fun _=>FE) (fun _ _=>false) (fun _ ih task K=>kTask P ih hk task K) n
end
section sound
variable {P:Program}{hk:Hook}
def nJk(P:Program)(hk:Hook)(fe:FE):Prop:=∀task K,fe task K=true→∀Q:Res→Prop,(∀r,K r=true→Q (r.abs task.num))→wpL P hk task.abs Q
theorem xJx {c x:Bool}(h:ifB c x false=true):c=true∧x=true:=by cases c<;>simp_all [ifB]
theorem wJ1 {r:FRes}{k:AV→AW→Bool}(h:tJh r k=true):∃v w,r= .val v w∧k v w=true:=by
 cases r with
 | ex=>cases h
 | val v w=>exact⟨v,w,rfl,h⟩
theorem mJa {r:FRes}{k:zJo→TT→List Nat→AW→Bool}(h:asEx r k=true):∃e t ds w,r= .ex e t ds w∧k e t ds w=true:=by
 cases r with
 | val=>cases h
 | ex e t ds w=>exact⟨e,t,ds,w,rfl,h⟩
theorem iJ6 {fe:FE}(hf:nJk P hk fe){fv:AV}{as:List AV}{w:AW}{k:AV→AW→Bool}
  (h:wQ0 fv (fun g a b=>fe (.call g (a++(as++b)) w) fun r=>tJh r k) (fun l=>fe (.yield l as w) fun r=>tJh r k)=true) {K:AV→AW→Prop} (hK:∀v w',k v w'=true→K v w'):
  jJl (wpL P hk) w as K fv:=by
 cases fv<;>try (cases h;done)
 ·refine hf _ _ h _ fun r hr=>?_;obtain⟨v,w',rfl,hk'⟩:=wJ1 hr;exact hK v w' hk'
 ·refine hf _ _ h _ fun r hr=>?_;obtain⟨v,w',rfl,hk'⟩:=wJ1 hr;exact hK v w' hk'
theorem wJm {c x y:Bool}(h:cond c x y=true):(c=true∧x=true)∨(c=false∧y=true):=by cases c<;>simp_all
theorem xQa {w:AW}{ev:Ev}{tmps:Tm}(hev:EvOk ev tmps){i:Operand}{s:Bool}{k:AV→AW→Bool}(h:kQ5 w ev i s k=true){K:AV→AW→Prop}(hK:∀v w',k v w'=true→K v w'):vJz w tmps i s K:=by
 unfold kQ5 at h;obtain⟨x,hx,h⟩:=qJv h;split at h
 ·rename_i b;split at h
  ·rename_i m es c kv1 kv2 r last hg _;obtain⟨y,hy,h⟩:=qJv h;obtain⟨h1,h2⟩:=xJx h;unfold vJz;refine⟨b,hev _ _ hx,?_⟩;simp only[hg];have hc:y.2=c:=xJf.1 h1;refine⟨⟨y.1,by rw[hy,←hc]⟩,?_⟩;intro kv rest' hp;exact hK _ _ (yQv.1 h2 _ hp)
  ·obtain⟨x,hx,h⟩:=qJv h;exact hJy hev hx (hK _ _ h)
 ·cases h
theorem vQq {fe:FE}(hf:nJk P hk fe){o:Op}{w:AW}{t:TT}{n:Nat}{k:AV→AW→Bool}(h:(opC P n o).run fe w t k=true){K:AV→AW→Prop}(hK:∀v w',k v w'=true→K v w'):
    wOp P (wpL P hk) w (absT n t) o K:=by
  have no:wQ3 (fun _=>none) (wpL P hk):=fun _ _ h=>by cases h
  have simp1:∀{x:AV×AW},fOp P (fun _=>none) w (evF t n) (ikOf P o) o=some x→k x.1 x.2=true→wOp P (wpL P hk) w (absT n t) o K:=fun {x} hx hk'=>
    fOp_ok (rec:=wpL P hk) no (kJq t n) hx (hK _ _ hk')
  unfold opC at h
  cases hi:ikOf P o with
  | pu=>
    rw[hi]at h;simp only[pJ8]at h;obtain⟨v,hv,hk'⟩:=qJv h;exact simp1 (x:=(v,w)) (by rw[hi];simp only[fOp,hv,bnd]) hk'
  | mk=>
    rw[hi]at h;simp only[nJe,lJa]at h;obtain⟨x,hx,hk'⟩:=qJv h;exact simp1 (x:=(x.1,w.push x.2)) (by rw[hi];simp only[fOp,hx,bnd]) hk'
  | ef=>
    rw[hi]at h;simp only[wQl]at h;obtain⟨x,hx,hk'⟩:=qJv h;exact simp1 (x:=x) (by rw[hi];simp only[fOp,hx]) hk'
  | call=>
    rw[hi]at h;cases o<;>try (cases h;done)
    rename_i c;simp only[]at h
    cases hc:c.callee with
    | invoke r m=>rw[hc]at h;cases h
    | builtin b=>rw[hc]at h;cases h
    | value f=>
      rw[hc]at h;simp only[callC,zJy,oJa]at h;obtain⟨fv,hfv,h⟩:=qJv h;obtain⟨as,has,h⟩:=qJv h;show xJ6 P (wpL P hk) w (absT n t) c K;unfold xJ6;rw[hc];exact⟨fv,as,kJq t n _ _ hfv,pJt (kJq t n) has,iJ6 hf h hK⟩
  | next=>
    rw[hi]at h;cases o<;>try (cases h;done)
    rename_i i s;exact xQa (kJq t n) h hK
  | bad=>rw[hi]at h;cases h
theorem nJ9 {fe:FE}(hf:nJk P hk fe){all:List Oper}{n:Nat}{k:TT→AW→Bool}{K:Tm→AW→Prop}(hK:∀t' w',k t' w'=true→K (absT n t') w'):∀{l:List Oper} {w:AW} {t:TT},(seqC P n all l).run fe w t k=true→
    wOps P (wpL P hk) all l (absT n t) w K
  | [],w,t,h=>hK t w h
  | o::l,w,t,h=>by
    have h:(gdC n (gdOf all o.guard)).run t ((opC P n o.op).run fe w t fun v w'=>(seqC P n all l).run fe w' ((putC o.dst).set t v) k) ((seqC P n all l).run fe w ((putC o.dst).set t undef) k)=true:=by
      unfold seqC at h;cases hg:gdOf all o.guard<;>(rw[hg]at h;exact h)
    rw[lJn,lJm,bJw]at h;simp only[wOps];rcases wJm h with⟨hg,h⟩ | ⟨hg,h⟩
    · rw[if_pos hg]
      refine vQq hf h fun v w1 h=>?_;have:=nJ9 hf hK h
      rwa [yJt,xJh]at this
    · rw[if_neg (by simp[hg])]
      have:=nJ9 hf hK h
      rwa [yJt,xJh]at this
theorem fJq {fe:FE}(hf:nJk P hk fe){ops:List Oper}{n:Nat}{k:TT→AW→Bool}{K:Tm→AW→Prop}(hK:∀t' w',k t' w'=true→K (absT n t') w'):∀{p:Plan} {rds:List FRd} {w:AW} {t:TT},(mJl P n ops p).run fe rds w t k=true→
    vJy P (wpL P hk) ops p (rds.map (FRd.abs n)) (absT n t) w K
  | .bad,_,_,_,h=>by cases h
  | .done q chk,rds,w,t,h=>by
    cases chk with
    | true=>
      have h:(qC P n q).run rds w t (fun rds t w=>ifB (yJf P ops n w rds) (k t w) false)=true:=h;rw[sJj]at h;obtain⟨x,hx,h⟩:=qJv h;obtain⟨h1,h2⟩:=xJx h;rw[wJc]at h1;exact⟨fun hc=>(by cases hc),mJr hx ⟨fun _=>wJi h1,hK _ _ h2⟩⟩
    | false=>
      have h:ifB (yJf P ops n w rds) ((qC P n q).run rds w t fun _ t w=>k t w) false=true:=h;obtain⟨h1,h2⟩:=xJx h;rw[wJc]at h1;rw[sJj]at h2;obtain⟨x,hx,h2⟩:=qJv h2;exact⟨fun _=>wJi h1,mJr hx ⟨fun hc=>(by cases hc),hK _ _ h2⟩⟩
  | .eff q chk g o i bfi next,rds,w,t,h=>by
    have go:∀{rds:List FRd} {w:AW} {t:TT},(gdC n g).run t ((opC P n o.op).run fe w t fun v w'=>(mJl P n ops next).run fe (vJd bfi rds) w' ((putC o.dst).set t v) k) ((mJl P n ops next).run fe (vJd bfi rds) w ((putC o.dst).set t undef) k)=true→
          (bif gdOk (absT n t) g then wOp P (wpL P hk) w (absT n t) o.op fun v w''=>vJy P (wpL P hk) ops next ((rds.map (FRd.abs n)).filter fun r=>!(bfi.testBit r.i)) (putT (absT n t) o.dst v) w'' K
            else vJy P (wpL P hk) ops next ((rds.map (FRd.abs n)).filter fun r=>!(bfi.testBit r.i)) (putT (absT n t) o.dst undef) w K):=by
      intro rds w t h;rw[lJn,lJm]at h;rcases wJm h with⟨hg,h⟩ | ⟨hg,h⟩
      · rw[hg]
        refine vQq hf h fun v w1 h=>?_;have:=fJq hf hK h
        rwa [yJt,xJh,uJ1,hJt]at this
      · rw[hg]
        have:=fJq hf hK h
        rwa [yJt,xJh,uJ1,hJt]at this
    cases chk with
    | true=>
      have h:(qC P n q).run rds w t (fun rds t w=>ifB (yJf P ops n w rds) ((gdC n g).run t ((opC P n o.op).run fe w t fun v w'=>(mJl P n ops next).run fe (vJd bfi rds) w' ((putC o.dst).set t v) k) ((mJl P n ops next).run fe (vJd bfi rds) w ((putC o.dst).set t undef) k)) false)=true:=h;rw[sJj]at h;obtain⟨x,hx,h⟩:=qJv h;obtain⟨h1,h2⟩:=xJx h;rw[wJc]at h1;exact⟨fun hc=>(by cases hc),mJr hx ⟨fun _=>wJi h1,go h2⟩⟩
    | false=>
      have h:ifB (yJf P ops n w rds) ((qC P n q).run rds w t fun rds t w=>(gdC n g).run t ((opC P n o.op).run fe w t fun v w'=>(mJl P n ops next).run fe (vJd bfi rds) w' ((putC o.dst).set t v) k) ((mJl P n ops next).run fe (vJd bfi rds) w ((putC o.dst).set t undef) k)) false=true:=h;obtain⟨h1,h2⟩:=xJx h;rw[wJc]at h1;rw[sJj]at h2;obtain⟨x,hx,h2⟩:=qJv h2;exact⟨fun _=>wJi h1,mJr hx ⟨fun hc=>(by cases hc),go h2⟩⟩
theorem sJe {t:TT}{n:Nat}:∀{l:List ResultVar} {w:AW} {k:List AV→Bool},(resC P n l).run w t k=true→∃vs,k vs=true∧jJb P w (absT n t) l=some vs
  | [],w,k,h=>⟨[],h,rfl⟩
  | .tmp i::rs,w,k,h=>by
    have h:ifB (Nat.ble (Nat.succ i) n) ((resC P n rs).run w t fun vs=>k ((getC i).get t::vs)) false=true:=h;obtain⟨hb,h⟩:=xJx h;obtain⟨vs,hk',hr⟩:=sJe h;refine⟨_,hk',?_⟩;have hb:i<n:=yQk hb;simp only[jJb,yJs,nJh t hb,Option.bind_some,hr,Option.map_some,sJ7]
  | .cell a ty::rs,w,k,h=>by
    have h:ifB (Nat.ble (Nat.succ a) n) ((jQw n (.tmp a) (mJt P ty)).run w t fun v=>(resC P n rs).run w t fun vs=>k (v::vs)) false=true:=h;obtain⟨hb,h⟩:=xJx h;have hp:=pJ8 P (.load ty (.tmp a)) w t n fun v=>(resC P n rs).run w t fun vs=>k (v::vs);have h:(rJp P n (.load ty (.tmp a))).run w t (fun v=>(resC P n rs).run w t fun vs=>k (v::vs))=true:=h;rw[hp]at h;obtain⟨v,hv,h⟩:=qJv h;obtain⟨vs,hk',hr⟩:=sJe h;refine⟨_,hk',?_⟩;have hb:a<n:=yQk hb;have hp:=wJv P (kJq t n) hv;simp only[qJ7,qJs,Option.bind_some]at hp;simp only[jJb,yJs,hp,Option.bind_some,hr,Option.map_some]
theorem gJu {fe:FE}(hf:nJk P hk fe):∀{c:Code} {ro:Option Nat} {t:TT} {n:Nat} {ds:List Nat} {w:AW} {k:zJo→TT→List Nat→AW→Bool},(xJz P n c).run fe ro t ds w k=true→
    ∀{Q:Res→Prop},(∀e t' ds' w',k e t' ds' w'=true→Q (.ex e ⟨absT n t',ds',w'⟩))→wpL P hk (.code ro c ⟨absT n t,ds,w⟩) Q:=by
  intro c
  induction c with
  | skip=>exact fun h Q hQ=>qJy (hQ _ _ _ _ h)
  | label l=>exact fun h Q hQ=>qJy (hQ _ _ _ _ h)
  | ret=>exact fun h Q hQ=>qJy (hQ _ _ _ _ h)
  | exit id=>exact fun h Q hQ=>qJy (hQ _ _ _ _ h)
  | goto l=>exact fun h Q hQ=>qJy (hQ _ _ _ _ h)
  | refuse w=>intro ro t n ds w k h;cases h
  | seq a b iha ihb=>
    intro ro t n ds w k h Q hQ;refine qJy (iha (show(xJz P n a).run fe ro t ds w (fun e t ds w=>lJe e ((xJz P n b).run fe ro t ds w k) (k e t ds w))=true from h) fun e t1 ds1 w1 h=>?_);cases e
    case normal=>exact ihb (show(xJz P n b).run fe ro t1 ds1 w1 k=true from h) hQ
    all_goals exact hQ _ _ _ _ h
  | cond c a b iha ihb=>
    intro ro t n ds w k h Q hQ;have h:(opdC n c).run t (fun v=>qQ0 v fun x=>Bool.rec (motive:=fun _=>Bool) ((xJz P n b).run fe ro t ds w k) ((xJz P n a).run fe ro t ds w k) x)=true:=h;rw[zJy]at h;obtain⟨v,hv,h⟩:=qJv h;cases v<;>try (cases h;done)
    rename_i x
    cases x with
    | true=>exact qJy ⟨true,kJq t n _ _ hv,iha (show(xJz P n a).run fe ro t ds w k=true from h) hQ⟩
    | false=>exact qJy ⟨false,kJq t n _ _ hv,ihb (show(xJz P n b).run fe ro t ds w k=true from h) hQ⟩
  | block id b ih=>
    intro ro t n ds w k h Q hQ;refine qJy (ih (show(xJz P n b).run fe ro t ds w (fun e t ds w=>vQ0 e (fun i=>ifB (Nat.beq i id) (k .normal t ds w) (k (.exit i) t ds w)) (k e t ds w))=true from h) fun e t1 ds1 w1 h=>?_);cases e
    case exit i=>
      have h:ifB (Nat.beq i id) (k .normal t1 ds1 w1) (k (.exit i) t1 ds1 w1)=true:=h;rw[vQ2]at h;rcases wJm h with⟨hb,h⟩ | ⟨hb,h⟩
      · simp only[exK,pJg];rw[if_pos (xJf.1 hb)];exact hQ _ _ _ _ h
      · simp only[exK,pJg];rw[if_neg (fun h=>by rw[xJf.2 h]at hb;cases hb)];exact hQ _ _ _ _ h
    all_goals exact hQ _ _ _ _ h
  | loop b ih=>
    intro ro t n ds w k h Q hQ;refine qJy (ih (show(xJz P n b).run fe ro t ds w (fun e t ds w=>lJe e (fe (.code ro (.loop b) t n ds w) fun r=>asEx r k) (k e t ds w))=true from h) fun e t1 ds1 w1 h=>?_);cases e
    case normal=>
      refine hf _ _ (show fe (.code ro (.loop b) t1 n ds1 w1) (fun r=>asEx r k)=true from h) Q fun r hr=>?_;obtain⟨e,t2,ds2,w2,rfl,h⟩:=mJa hr;exact hQ _ _ _ _ h
    all_goals exact hQ _ _ _ _ h
  | region id ops draw=>
    intro ro t n ds w k h Q hQ
    cases draw with
    | true=>exact qJy (hJx qJu (fJq hf (K:=stK ⟨absT n t,ds,w⟩ Q) (fun t' w' h=>hQ _ _ _ _ h) (show(mJl P n ops.toList (lJw P ops.toList)).run fe [] w t (fun t w=>k .normal t ds w)=true from h)))
    | false=>exact qJy (nJ9 hf (K:=stK ⟨absT n t,ds,w⟩ Q) (fun t' w' h=>hQ _ _ _ _ h) (show(seqC P n ops.toList ops.toList).run fe w t (fun t w=>k .normal t ds w)=true from h))
  | scope b ih=>
    intro ro t n ds w k h Q hQ;refine qJy (hf _ _ (show fe (.scope ro b b t n ds w) (fun r=>asEx r k)=true from h) Q fun r hr=>?_);obtain⟨e,t2,ds2,w2,rfl,h⟩:=mJa hr;exact hQ _ _ _ _ h
  | rangeFunc f params assign body ih1 ih2=>
    intro ro t n ds w k h Q hQ;obtain⟨⟨d,defers,w1⟩,hs,h⟩:=qJv h;rw[zJy]at h;obtain⟨fv,hfv,h⟩:=qJv h;have hst:kJy ro ⟨absT n t,ds,w⟩=some (d,defers,w1):=by
      unfold qQb at hs;unfold kJy
      cases ro with
      | none=>exact hs
      | some l=>
        simp only[qJt]at hs ⊢
        cases hl:zJ4 w l with
        | none=>rw[hl]at hs;cases hs
        | some r=>rw[hl]at hs;exact hs
    cases fv<;>try (cases h;done)
    rename_i g a b;refine qJy ⟨d,defers,w1,_,hst,kJq t n _ _ hfv,hf _ _ h _ fun r hr=>?_⟩;obtain⟨v,w2,rfl,h⟩:=wJ1 hr;obtain⟨r1,hr1,h⟩:=qJv h;split at h
    · cases h
    · rename_i hb
      refine⟨r1,hr1,hb,?_⟩
      cases hp:r1.pending with
      | none=>
        rw[hp]at h;exact hQ _ _ _ _ h
      | some c=>
        rw[hp]at h;refine hf _ _ h Q fun r2 hr2=>?_;obtain⟨e,t3,ds3,w3,rfl,h⟩:=mJa hr2;exact hQ _ _ _ _ h
theorem jQ5 {fe:FE}(hf:nJk P hk fe):nJk P hk (kTask P fe hk):=by
  intro task K h Q hQ
  cases task with
  | code ro c t n ds w=>exact gJu hf (show(xJz P n c).run fe ro t ds w (fun e t ds w=>K (.ex e t ds w))=true from h) fun e t' ds' w' h=>hQ (.ex e t' ds' w') h
  | scope ro b c t n ds w=>
    refine qJy (gJu hf (show(xJz P n c).run fe ro t ds w (fun e t ds w=>vQz e (fun l=>match zJ6 b l with
      | some rest=>fe (.scope ro b rest t n ds w) K
      | none=>K (.ex e t ds w)) (K (.ex e t ds w)))=true from h) fun e t1 ds1 w1 h=>?_)
    cases e
    case goto l=>
      have h:(match zJ6 b l with
        | some rest=>fe (.scope ro b rest t1 n ds1 w1) K
        | none=>K (.ex (.goto l) t1 ds1 w1))=true:=h
      split at h
      · rename_i rest hl
        simp only[exK,wJ9,hl];exact hf _ _ h Q hQ
      · rename_i hl
        simp only[exK,wJ9,hl];exact hQ _ h
    all_goals exact hQ _ h
  | call f args w=>
    have h:kQ9 P fe hk f args w K=true:=h;unfold kQ9 at h;refine qJy ?_;simp only[yJ8.abs,vJk,yJl]
    cases hh:hk f args w with
    | some r=>
      rw[hh]at h;obtain⟨x,hx,h⟩:=qJv (show optB r (fun x=>K (.val x.1 x.2))=true from h);exact⟨x.1,x.2,hx,hQ _ h⟩
    | none=>
      rw[hh]at h;have h:(funC P (nthF f P.funcs.toList)).run fe args w K=true:=h;rw[uJt,yQ4]at h
      cases hfn:P.funcs[f]? with
      | none=>rw[hfn]at h;cases h
      | some fn=>
        rw[hfn]at h;unfold funC at h;simp only[]at h;refine⟨fn,rfl,?_⟩
        cases hb:fn.body with
        | none=>
          rw[hb]at h;obtain⟨x,hx,h⟩:=qJv (show optB (yJ2 w fn.name args) (fun x=>K (.val x.1 x.2))=true from h);unfold kJv;simp only[hb];exact⟨x.1,x.2,hx,hQ _ h⟩
        | some c=>
          rw[hb]at h;obtain⟨hlen,h⟩:=xJx (show ifB (Nat.ble args.length fn.ntmps) _ false=true from h);have hmax:fn.ntmps=Nat.max args.length fn.ntmps:=(Nat.max_eq_right (yQk hlen)).symm;unfold kJv;simp only[hb];rw[show args++List.replicate (fn.ntmps - args.length) undef=absT fn.ntmps (ofL 0 args .nil)from by rw[←xQ6];rw[←hmax]];refine gJu hf (show(xJz P fn.ntmps c).run fe none (ofL 0 args .nil) [] w (fun e t ds w=>
            isEnd e (jQ7 w ds fun w=>(resC P fn.ntmps fn.results.toList).run w t fun vs=>K (.val (one vs) w)))=true from h) fun e t1 ds1 w1 h=>?_
          have fin:(e= .normal∨e= .ret)∧(jQ7 w1 ds1 fun w=>(resC P fn.ntmps fn.results.toList).run w t1 fun vs=>K (.val (one vs) w))=true:=by
            cases e
            · exact⟨.inl rfl,h⟩
            · cases h
            · cases h
            · exact⟨.inr rfl,h⟩
          obtain⟨he,h⟩:=fin;rw[jQ6]at h;obtain⟨w2,hw2,h⟩:=qJv h;obtain⟨vs,h,hvs⟩:=sJe h;exact⟨he,w2,vs,hw2,hvs,hQ _ h⟩
  | yield l args w=>
    obtain⟨r1,hr1,h⟩:=qJv (show vQy P fe l args w K=true from h);obtain⟨hlen,h⟩:=xJx h;have e1:zJx (r1.params.zip args) r1.tmps=absT r1.tmps.length (iJ0 (r1.params.zip args) (ofL 0 r1.tmps .nil)):=by
      rw[lJv,xQ5]
    refine qJy ⟨r1,hr1,xJf.1 hlen,?_⟩;rw[e1];refine gJu hf h fun e t1 ds1 w1 h=>?_;cases e<;>try (cases h;done)
    obtain⟨r2,hr2,h⟩:=qJv (show optB (zJ4 w1 l) _=true from h);cases hst:r2.st<;>(rw[hst]at h;try (cases h;done));refine⟨rfl,r2,hr2,hst,gJu hf h fun e t2 ds2 w2 h=>?_⟩;obtain⟨r3,hr3,h⟩:=qJv h;exact⟨r3,hr3,hQ _ h⟩
theorem kN_ok:∀n,nJk P hk (kN P hk n)
 | 0=>fun _ _ h=>by cases h
 | n+1=>jQ5 (kN_ok n)
end sound
end
end Go.Sx
