/-
 The meaning of a function's code as a formula,step by step,and that the formula is enough.
 No condition beyond those that each theorem names.
-/
import Derived.Test.YtghoifolghelnaaGreatSxk
set_option linter.unusedVariables false
set_option linter.unusedSimpArgs false
/-! The meaning of a function's code as a formula: what is to be shown of memory, step by step. Joins and loops look at live temporaries alone. -/
namespace Go.Sx
/-! ### Words of the formulas -/
abbrev ii(x:Int):AV:= .int .i64 x
def onM {α:Type}(x:Option α)(K:α→Prop):Prop:=match x with | some v=>K v | none=>False
def onE(x:Option (AV×AW))(K:AV→AW→Prop):Prop:=match x with | some p=>K p.1 p.2 | none=>False
def ifT(b:Bool)(A B:Prop):Prop:=match b with | true=>A | false=>B
def gd(b:Bool)(A:Prop):Prop:=match b with | true=>A | false=>False
def onP(v:AV)(K:Nat→Nat→Prop):Prop:=match v with | .ptr b o=>K b o | _=>False
def onB(v:AV)(K:Bool→Prop):Prop:=match v with | .bool b=>K b | _=>False
def onS(v:AV)(K:List UInt8→Prop):Prop:=match v with | .str s=>K s | _=>False
def onA(v:AV)(K:List AV→Prop):Prop:=match v with | .agg cs=>K cs | _=>False
def atP(x:Option AV)(K:Nat→Nat→Prop):Prop:=match x with | some v=>onP v K | none=>False
def be {α:Type}(x:α)(K:α→Prop):Prop:=K x
def new(w:AW)(cs:List AV)(K:Nat→AW→Prop):Prop:=K w.size (newCells w cs)
def join(J:List AV→AW→Prop)(F:(List AV→AW→Prop)→Prop):Prop:=F J
def zJ9(l:List AV)(w:AW)(F:(List AV→AW→Prop)→List AV→AW→Prop):Prop:=∀R:List AV→AW→Prop,(∀l w,F R l w→R l w)→R l w
theorem zJd {α:Type}{x:Option α}{K:α→Prop}:onM x K↔∃v,x=some v∧K v:=by cases x<;>simp[onM]
theorem yJw {x:Option (AV×AW)}{K:AV→AW→Prop}:onE x K↔∃v w,x=some (v,w)∧K v w:=by
 cases x with
 | none=>simp[onE]
 | some p=>exact⟨fun h=>⟨p.1,p.2,rfl,h⟩,fun⟨a,b,e,h⟩=>by cases e;exact h⟩
theorem aJ1 {b:Bool}{A B:Prop}:ifT b A B↔(b=true→A)∧(b=false→B):=by cases b<;>simp[ifT]
theorem jJd {b:Bool}{A:Prop}:gd b A↔b=true∧A:=by cases b<;>simp[gd]
theorem wJa {v:AV}{K:Nat→Nat→Prop}:onP v K↔∃b o,v= .ptr b o∧K b o:=by
 cases v<;>simp only[onP]<;>first | exact⟨fun h=>⟨_,_,rfl,h⟩,fun⟨_,_,e,h⟩=>by cases e;exact h⟩ | exact⟨False.elim,fun⟨_,_,e,_⟩=>by cases e⟩
theorem bJf {v:AV}{K:Bool→Prop}:onB v K↔∃b,v= .bool b∧K b:=by cases v<;>simp[onB]
theorem kQ0 {v:AV}{K:List UInt8→Prop}:onS v K↔∃s,v= .str s∧K s:=by cases v<;>simp[onS]
theorem eJ8 {v:AV}{K:List AV→Prop}:onA v K↔∃cs,v= .agg cs∧K cs:=by cases v<;>simp[onA]
theorem vJg {x:Option AV}{K:Nat→Nat→Prop}:atP x K↔∃b o,x=some (.ptr b o)∧K b o:=by
 cases x with
 | none=>simp[atP]
 | some v=>simp[atP,wJa]
/-! ### Shapes of values -/
inductive Sc where | int(k:IntKind) | bool | str | ptr | opq
inductive Sh where | sc(s:Sc) | agg(cs:List Sc)
inductive TSh where | sh(s:Sh) | tup(l:List Sh)
def exSc(s:Sc)(K:AV→Prop):Prop:=
 match s with
 | .int k=>∃x:Int,K (.int k x)
 | .bool=>∃b:Bool,K (.bool b)
 | .str=>∃s:List UInt8,K (.str s)
 | .ptr=>∃b o:Nat,K (.ptr b o)
 | .opq=>∃v:AV,K v
def wQi:List Sc→(List AV→Prop)→Prop
 | [],K=>K []
 | s::r,K=>exSc s fun v=>wQi r fun vs=>K (v::vs)
def exSh(s:Sh)(K:AV→Prop):Prop:=
 match s with
 | .sc s=>exSc s K
 | .agg cs=>wQi cs fun vs=>K (.agg vs)
def qQf:List Sh→(List AV→Prop)→Prop
 | [],K=>K []
 | s::r,K=>exSh s fun v=>qQf r fun vs=>K (v::vs)
theorem qQg {s:Sc}{K:AV→Prop}(h:exSc s K):∃v,K v:=by
 cases s<;>simp only[exSc]at h
 ·obtain⟨x,h⟩:=h;exact⟨_,h⟩
 ·obtain⟨x,h⟩:=h;exact⟨_,h⟩
 ·obtain⟨x,h⟩:=h;exact⟨_,h⟩
 ·obtain⟨x,y,h⟩:=h;exact⟨_,h⟩
 ·exact h
theorem oJw:∀{l:List Sc} {K:List AV→Prop},wQi l K→∃v,K v
 | [],_,h=>⟨_,h⟩
 | _::_,_,h=>by obtain⟨v,h⟩:=qQg h;obtain⟨vs,h⟩:=oJw h;exact⟨_,h⟩
theorem tJc {s:Sh}{K:AV→Prop}(h:exSh s K):∃v,K v:=by
 cases s
 ·exact qQg h
 ·obtain⟨_,h⟩:=oJw h;exact⟨_,h⟩
theorem dJi:∀{l:List Sh} {K:List AV→Prop},qQf l K→∃v,K v
 | [],_,h=>⟨_,h⟩
 | _::_,_,h=>by obtain⟨v,h⟩:=tJc h;obtain⟨vs,h⟩:=dJi h;exact⟨_,h⟩
section shapes
variable(P:Program)(big:Bool)
def scOf(t:TypeId):Sc:=
 match P.underlying t with
 | some (.int k)=> .int k
 | some .bool=> .bool
 | some .string=> .str
 | _=> .opq
def lJp:Nat→TypeId→Option (List Sc)
  | 0,_=>none
  | d+1,t=>match P.underlying t with
    | some (.struct fs)=>fs.toList.foldr (fun f acc=>(lJp d f.type).bind fun a=>acc.map fun b=>a++b) (some [])
    | some (.array n e)=>bif Nat.ble n 4 then(lJp d e).map fun a=>(List.replicate n a).flatten else none
    | _=>some [scOf P t]
def shOf(t:TypeId):Sh:=
 match P.underlying t with
 | some (.struct _)=>match lJp P 6 t with | some l=>bif big&&Nat.ble 16 l.length then .sc .opq else .agg l | none=> .sc .opq
 | some (.array _ _)=>match lJp P 6 t with | some l=> .agg l | none=> .sc .opq
 | _=> .sc (scOf P t)
def tshOf(t:TypeId):TSh:=
 match P.underlying t with
 | some (.tuple ts)=> .tup (ts.toList.map (shOf P big))
 | _=> .sh (shOf P big t)
def valTS(s:TSh)(r:AV)(K:AV→Prop):Prop:=
 match s with
 | .sh (.sc .opq)=>K r
 | .sh s=>exSh s fun v=>r=v∧K v
 | .tup l=>qQf l fun vs=>r= .tup vs∧K (.tup vs)
def atTS(s:TSh)(x:Option AV)(K:AV→Prop):Prop:=
 match s with
 | .sh (.sc .opq)=>onM x K
 | .sh s=>exSh s fun v=>x=some v∧K v
 | .tup l=>qQf l fun vs=>x=some (.tup vs)∧K (.tup vs)
def valT(t:TypeId)(r:AV)(K:AV→Prop):Prop:=valTS (tshOf P big t) r K
def atT(t:TypeId)(x:Option AV)(K:AV→Prop):Prop:=atTS (tshOf P big t) x K
theorem eJg {t:TypeId}{r:AV}{K:AV→Prop}(h:valT P big t r K):K r:=by
 unfold valT valTS at h;split at h
 ·exact h
 ·obtain⟨v,rfl,h⟩:=tJc h;exact h
 ·obtain⟨v,e,h⟩:=dJi h;rw[e];exact h
theorem pJx {t:TypeId}{x:Option AV}{K:AV→Prop}(h:atT P big t x K):∃v,x=some v∧K v:=by
 unfold atT atTS at h;split at h
 ·exact zJd.1 h
 ·exact tJc h
 ·obtain⟨v,h1,h2⟩:=dJi h;exact⟨_,h1,h2⟩
end shapes
/-! ### Operations, without the program's tables -/
def wi(x:Int):Int:=IntKind.i64.wrap x
def shrI(k:IntKind)(x y:Int):Int:=x.fdiv (2^(min y.toNat k.bits))
def imax(a b:Int):Int:=if b>a then b else a
def imin(a b:Int):Int:=if b<a then b else a
def ld(w:AW)(b o:Nat):Option AV:=(w.cells? b).bind fun cs=>cs[o]?
def ldN(n:Nat)(w:AW)(b o:Nat):Option AV:=(w.cells? b).bind fun cs=>(qJz cs o n).map .agg
def idxS(sz:Nat)(x i:AV):Option AV:=(asN i).bind fun k=>match x with
 | .ptr _ _=>none
 | .slice b o len _ _=>qJf (Nat.blt k len) (some (.ptr b (o+k * sz)))
 | _=>none
def lenS(x:AV):Option AV:=match x with
 | .str _=>none
 | .nilslice=>some (.int .i64 0)
 | .slice _ _ n _ _=>some (.int .i64 n)
 | .nilmap=>none
 | .map _=>none
 | _=>none
def b2s(w:AW)(x:AV):Option AV:=match x with
 | .int _ _=>none
 | .str _=>none
 | .nilslice=>some (.str [])
 | .slice b o n _ _=>(w.read b o n).bind fun cs=>(zJs cs).map .str
 | _=>none
def slS(sz:Nat)(x:AV)(low high max:Option AV):Option AV:=match x with
 | .str _=>none
 | .nilslice=>(qJ1 0 high).bind fun h=>(qJ1 0 low).bind fun l=>(qJ1 0 max).bind fun m=>qJf (okB l h m 0&&(max.isNone || high.isSome)) (some .nilslice)
 | .slice b o len cap ex=>(qJ1 cap max).bind fun m=>(qJ1 len high).bind fun h=>(qJ1 0 low).bind fun l=>
   qJf (okB l h m cap&&okEx ex sz&&(max.isNone || high.isSome)) (some (.slice b (o+l * sz) (h - l) (m - l) (if max.isSome then none else ex)))
 | .ptr _ _=>none
 | _=>none
def appS(size bytes:Nat)(w:AW)(s x:AV):Option (AV×AW):=
  (zJp w size x).bind fun(n,new)=>
    bif Nat.beq n 0 then(match s with | .nilslice=>some (s,w) | .slice ..=>some (s,w) | _=>none)else
    qJf (!Nat.beq size 0&&fJw x new) (match s with
      | .nilslice=>qJf (Nat.ble (n * bytes) room&&Nat.blt n (2^62)) (some (.slice w.size 0 n n (some size),newCells w new))
      | .slice b o len cap ex=>
        bif Nat.ble (len+n) cap then(w.putCells b (o+len * size) new).map fun w'=>(.slice b o (len+n) cap ex,w')
        else qJf (Nat.blt ((2 * (len+n)+1000) * bytes) room&&Nat.blt (len+n) (2^62)) (bJv w size b o len cap ex n new)
      | _=>none)
/-! ### Ranges over maps -/
def vQp(w:AW)(v:AV)(K:Nat→AW→Prop):Prop:=match v with
 | .nilmap=>K w.size (w.push (.mapIter none [] 0 [] none))
 | .map r=>onM (xJk w r) fun m=>K w.size (w.push (.mapIter (some r) m.1 m.2 m.1 none))
 | _=>False
def nextK(w:AW)(b:Nat)(A:Prop)(B:AV→AV→AW→Prop):Prop:=match w.get b with
  | some (.mapIter none _ _ _ _)=>A
  | some (.mapIter (some m) es c rest _)=>(∃es',xJk w m=some (es',c))∧match rest with
    | []=>A
    | _=>∀kv rest',(kv,rest')∈picks rest→B kv.1 kv.2 (w.set b (.mapIter (some m) es c rest' (some (.tup [kv.1,kv.2]))))
  | _=>False
def vQ7(w:AW)(b:Nat)(K:AV→AV→Prop):Prop:=match w.get b with
 | some (.mapIter (some r) _ c _ (some (.tup [k,v])))=>onM (xJk w r) fun m=>gd (Nat.beq m.2 c) (K k v)
 | _=>False
/-! ### Operations -/
def Cl(P:Program)(hk:Hook)(f:FuncId)(args:List AV)(w:AW)(K:AV→AW→Prop):Prop:=wpL P hk (.call f args w) (valK K)
def Cv(P:Program)(hk:Hook)(fv:AV)(args:List AV)(w:AW)(K:AV→AW→Prop):Prop:=
 match fv with
 | .func f a b=>Cl P hk f (a++(args++b)) w K
 | .yield l=>wpL P hk (.yield l args w) (valK K)
 | _=>False
def hJz(ag:Bool)(v:AV)(K:List AV→Prop):Prop:=
 bif ag then onA v fun cs=>gd (cs.all qJc) (K cs)else gd (qJc v) (K [v])
def jQd(ag:Bool)(v:AV)(K:List AV→Prop):Prop:=
 bif ag then onA v K else gd (qJc v) (K [v])
theorem lJ2 {v:AV}(h:qJc v=true):v.cells=[v]:=by cases v<;>first | rfl | (cases h;done)
theorem gJw {ag:Bool}{v:AV}{K:List AV→Prop}(h:hJz ag v K):v.cells.all qJc=true∧K v.cells:=by
 cases ag<;>simp only[hJz,cond_true,cond_false,eJ8,jJd]at h
 ·rw[lJ2 h.1];exact⟨by simp[h.1],h.2⟩
 ·obtain⟨cs,rfl,h1,h2⟩:=h;exact⟨h1,h2⟩
theorem tJ7 {ag:Bool}{v:AV}{K:List AV→Prop}(h:jQd ag v K):K v.cells:=by
 cases ag<;>simp only[jQd,cond_true,cond_false,eJ8,jJd]at h
 ·rw[lJ2 h.1];exact h.2
 ·obtain⟨cs,rfl,h2⟩:=h;exact h2
def lJs(ck:Bool→AV→(List AV→Prop)→Prop)(place:Nat→Option (Nat×Nat×Bool)):List AV→List (Nat×AV)→(List AV→Prop)→Prop
 | cells,[],K=>K cells
 | cells,(i,v)::r,K=>onM (place i) fun p=>ck p.2.2 v fun cs=>gd (Nat.beq cs.length p.2.1&&Nat.ble (p.1+p.2.1) cells.length) (lJs ck place (qJg cells p.1 cs) r K)
section ops
variable(P:Program)(hk:Hook)(big:Bool)
def evK(tmps:Tm)(x:Operand)(K:AV→Prop):Prop:=onM (qJs tmps x) K
def xQc:Operand→Bool
 | .const _=>true
 | _=>false
inductive Cls where | now | told | addr | un
def wQq(o:Op):Cls:=
  match o with
  | .move _=> .now | .assign _=> .now
  | .binOp op t _ y _=>match P.underlying t with
    | some (.int _)=>match op with
      | .quo | .rem | .shl | .shr=>bif xQc y then .now else .told
      | _=> .now
    | some .string=>match op with
      | .add=> .told
      | _=> .now
    | some .bool=> .now
    | _=> .told
  | .unOp ..=> .now
  | .convert s _ _=>match P.underlying s with
    | some (.int _)=> .now
    | _=> .told
  | .makeInterface ..=> .now | .makeFunc ..=> .now
  | .extract ..=> .now
  | .field t _ _=>match lJp P 6 t with
    | some _=> .now
    | none=> .told
  | .sliceToArrayPointer ..=> .addr
  | .index ..=> .told | .slice ..=> .told | .lookup ..=> .told | .typeAssert ..=> .told
  | .indexAddr ..=> .addr
  | _=> .un
def aggT(t:TypeId):Bool:=match isAgg P t with | some b=>b | none=>false
def sJl(fs:Array Field):List (Nat×Nat×Bool):=fs.toList.map fun f=>(f.offset,(szOf P f.type).getD 0,aggT P f.type)
def kQa(tmps:Tm)(w:AW)(c:Call)(ty:TypeId)(b:Builtin)(K:AV→AW→Prop):Prop:=
  match b with
  | .len=>match(c.argTypes[0]?).bind P.underlying with
    | some (.slice _)=>atT P big ty (jJm P w tmps c) fun v=>K v w
    | some (.map _ _)=>atT P big ty (jJm P w tmps c) fun v=>K v w
    | _=>onM (jJm P w tmps c) fun v=>K v w
  | .cap=>atT P big ty (jJm P w tmps c) fun v=>K v w
  | .min=>onM (jJm P w tmps c) fun v=>K v w
  | .max=>onM (jJm P w tmps c) fun v=>K v w
  | .append=>onE (wJk P w tmps c) K
  | .copy=>onE (wJk P w tmps c) K
  | .delete=>onE (wJk P w tmps c) K
  | .clear=>onE (wJk P w tmps c) K
  | _=>False
def wQt(tmps:Tm)(w:AW)(c:Call)(ty:TypeId)(K:AV→AW→Prop):Prop:=
 match c.callee with
 | .value f=>evK tmps f fun fv=>onM (jJi tmps c.args.toList) fun as=>Cv P hk fv as w fun r w'=>valT P big ty r fun v=>K v w'
 | .builtin b=>kQa P big tmps w c ty b K
 | .invoke ..=>False
def opS(tmps:Tm)(w:AW)(o:Op)(ty:TypeId)(K:AV→AW→Prop):Prop:=
  match o with
  | .call c=>wQt P hk big tmps w c ty K
  | .pick c a b=>evK tmps c fun v=>onB v fun t=>ifT t (evK tmps a fun x=>K x w) (evK tmps b fun x=>K x w)
  | .nilCheck x=>evK tmps x fun v=>onP v fun b o=>K (.ptr b o) w
  | .fieldAddr s x f=>evK tmps x fun v=>onP v fun b o=>atP (xJ4 P s f (.ptr b o)) fun b o=>K (.ptr b o) w
  | .load t a=>evK tmps a fun v=>onP v fun b o=>atT P big t (rJ7 P w t b o) fun v=>K v w
  | .store t a x=>evK tmps a fun v=>onP v fun b o=>evK tmps x fun v=>hJz (aggT P t) v fun cs=>gd (match szOf P t with | some n=>Nat.beq cs.length n | none=>false) (onM (w.putCells b o cs) fun w'=>K undef w')
  | .build t ps=>onM (zJv P t) fun z=>onM (kJ7 tmps ps) fun ps=>match P.underlying t with
    | some (.struct fs)=>gd (fs.toList.all fun f=>(P.info? f.type).isSome) (lJs jQd ((sJl P fs)[·]?) z.cells ps fun cs=>K (.agg cs) w)
    | some (.array _ e)=>onM (szOf P e) fun s=>lJs jQd (fun i=>some (i * s,s,aggT P e)) z.cells ps fun cs=>K (.agg cs) w
    | _=>False
  | .buildSlice t len ps=>onM (elemOf P t) fun e=>onM (szOf P e) fun s=>onM (zJv P e) fun z=>onM (kJ7 tmps ps) fun ps=>
      gd (Nat.ble (len * s) 65536&&z.cells.all qJc) (lJs hJz (fun i=>some (i * s,s,aggT P e)) (repl len z.cells) ps fun cs=>K (.slice w.size 0 len len none) (newCells w cs))
  | .alloc t=>onM (zJv P t) fun z=>gd (z.cells.all qJc) (K (.ptr w.size 0) (newCells w z.cells))
  | .box t x=>evK tmps x fun v=>hJz (aggT P t) v fun cs=>K (.ptr w.size 0) (newCells w cs)
  | .makeMap _ none=>K (.map w.size) (w.push (.map [] 0))
  | .makeSlice t l c=>onM (elemOf P t) fun e=>evK tmps l fun l=>evK tmps c fun c=>onM (asN l) fun l=>onM (asN c) fun c=>onM (zJv P e) fun z=>onM (bytesOf P e) fun bytes=>
      gd (Nat.ble l c&&Nat.ble (c * bytes) (2^47)&&Nat.blt c (2^63)&&z.cells.all qJc) (K (.slice w.size 0 l c none) (newCells w (repl c z.cells)))
  | .convert s d x=>match pJv P s d with
    | .make=>evK tmps x fun v=>onS v fun b=>onM (elemOf P d) fun e=>onM (P.underlying s) fun us=>onM (P.underlying e) fun ue=>gd (zJi us&&tdU8 ue) (K (.slice w.size 0 b.length b.length (some 1)) (newCells w (qJk b)))
    | _=>match wQq P o with
      | .now=>onM (qJ7 P w tmps o) fun v=>K v w
      | _=>atT P big ty (qJ7 P w tmps o) fun v=>K v w
  | .mapUpdate ..=>onE (vJ4 P w tmps o) K
  | .insert ..=>onE (vJ4 P w tmps o) K
  | .range t x=>match(P.underlying t).bind xJj with
    | some _=>evK tmps x fun v=>vQp w v fun b w'=>K (.ptr b 0) w'
    | none=>False
  | .next i t=>evK tmps i fun v=>onP v fun b o=>gd (Nat.beq o 0&&!t) (nextK w b (K (.tup [.bool false]) w) fun k v w'=>K (.tup [.bool true,k,v]) w')
  | .entry i=>evK tmps i fun v=>onP v fun b o=>gd (Nat.beq o 0) (vQ7 w b fun k v=>K (.tup [k,v]) w)
  | o=>match wQq P o with
    | .now=>onM (qJ7 P w tmps o) fun v=>K v w
    | .told=>atT P big ty (qJ7 P w tmps o) fun v=>K v w
    | .addr=>atP (qJ7 P w tmps o) fun b o=>K (.ptr b o) w
    | .un=>False
def inG(gs:List Tmp):Option Tmp→Bool
 | none=>false
 | some d=>gs.any fun x=>Nat.beq x d
abbrev Gs:=List Tmp×List Tmp×List Tmp
def xJ7(gs:Gs)(d:Option Tmp)(v:AV)(K:AV→Prop):Prop:=
 bif inG gs.1 d then onB v fun t=>ifT t (K (.bool true)) (K (.bool false))else
 bif inG gs.2.1 d then onB v fun t=>gd t (K (.bool true))else
 bif inG gs.2.2 d then onB v fun t=>gd (!t) (K (.bool false))else K v
def uJ2(want:Bool)(ops:List Oper):List Tmp:=ops.filterMap fun o=>o.guard.bind fun g=>bif g.2==want then(ops[g.1]?).bind (·.dst)else none
def dJd(st:Nat)(ops:List Oper):Gs:=match st with
 | 0=>(uJ2 false ops++uJ2 true ops,[],[])
 | 1=>(uJ2 false ops,uJ2 true ops,[])
 | _=>(uJ2 true ops,[],uJ2 false ops)
def opsS(all:List Oper)(gs:Gs):List Oper→Tm→AW→(Tm→AW→Prop)→Prop
  | [],t,w,K=>K t w
  | o::r,t,w,K=>
    bif zJc all t o.guard then opS P hk big t w o.op o.type fun v w'=>xJ7 gs o.dst v fun v=>opsS all gs r (putT t o.dst v) w' K
    else opsS all gs r (putT t o.dst undef) w K
def isKd(k:Kd)(o:Op)(A:Prop):Prop:=match k,opKd P o with
 | .pure,.pure=>A
 | .read,.read=>A
 | .make,.make=>A
 | _,_=>False
def qS(gs:Gs):List QI→List Rd→Tm→AW→(List Rd→Tm→AW→Prop)→Prop
 | [],rds,t,w,K=>K rds t w
 | .pu g o::r,rds,t,w,K=>bif gdOk t g then isKd P .pure o.op (opS P hk big t w o.op o.type fun v w'=>xJ7 gs o.dst v fun v=>qS gs r rds (putT t o.dst v) w' K)else qS gs r rds (putT t o.dst undef) w K
 | .rd g o i keep::r,rds,t,w,K=>bif gdOk t g then isKd P .read o.op (opS P hk big t w o.op o.type fun v w'=>xJ7 gs o.dst v fun v=>qS gs r (bif keep then⟨i,v,t⟩::rds else rds) (putT t o.dst v) w' K)else qS gs r rds (putT t o.dst undef) w K
 | .mk g o::r,rds,t,w,K=>bif gdOk t g then isKd P .make o.op (opS P hk big t w o.op o.type fun v w'=>xJ7 gs o.dst v fun v=>qS gs r rds (putT t o.dst v) w' K)else qS gs r rds (putT t o.dst undef) w K
def uJf(ops:List Oper)(w:AW):List Rd→Prop→Prop
 | [],A=>A
 | r::rs,A=>(match ops[r.i]? with | some o=>qJ7 P w r.tm o.op=some r.v | none=>False)∧uJf ops w rs A
def yJu(ops:List Oper)(gs:Gs):Plan→List Rd→Tm→AW→(Tm→AW→Prop)→Prop
  | .bad,_,_,_,_=>False
  | .done q chk,rds,t,w,K=>bif chk then qS P hk big gs q rds t w fun rds' t' w'=>uJf P ops w' rds' (K t' w')else uJf P ops w rds (qS P hk big gs q rds t w fun _ t' w'=>K t' w')
  | .eff q chk g o i bfi next,rds,t,w,K=>
    let rest:List Rd→Tm→AW→Prop:=fun rds' t' w'=>
      bif gdOk t' g then opS P hk big t' w' o.op o.type fun v w''=>xJ7 gs o.dst v fun v=>yJu ops gs next (rds'.filter fun r=>!(bfi.testBit r.i)) (putT t' o.dst v) w'' K
      else yJu ops gs next (rds'.filter fun r=>!(bfi.testBit r.i)) (putT t' o.dst undef) w' K
    bif chk then qS P hk big gs q rds t w fun rds' t' w'=>uJf P ops w' rds' (rest rds' t' w')else uJf P ops w rds (qS P hk big gs q rds t w rest)
def dJ9(st:Nat)(ops:List Oper)(draw:Bool)(t:Tm)(w:AW)(K:Tm→AW→Prop):Prop:=
 match draw with
 | true=>yJu P hk big ops (dJd st ops) (lJw P ops) [] t w K
 | false=>opsS P hk big ops (dJd st ops) ops t w K
/-! ### Regions, with what they write kept apart (cheaper to look at) -/
def aJm:List (Nat×AV)→Nat→AV→AV
 | [],_,d=>d
 | x::a,i,d=>bif Nat.beq x.1 i then x.2 else aJm a i d
def vT(n:Nat)(a:List (Nat×AV))(t:Tm):Tm:=(List.range n).map fun i=>aJm a i (getT t i)
def putV(a:List (Nat×AV))(d:Option Tmp)(v:AV):List (Nat×AV):=match d with
 | some d=>(d,v)::a
 | none=>a
def opsV(n:Nat)(all:List Oper)(gs:Gs)(t:Tm):List Oper→List (Nat×AV)→AW→(Tm→AW→Prop)→Prop
  | [],a,w,K=>K (vT n a t) w
  | o::r,a,w,K=>
    bif zJc all (vT n a t) o.guard then opS P hk big (vT n a t) w o.op o.type fun v w'=>xJ7 gs o.dst v fun v=>opsV n all gs t r (putV a o.dst v) w' K
    else opsV n all gs t r (putV a o.dst undef) w K
def qV(n:Nat)(gs:Gs)(t:Tm):List QI→List Rd→List (Nat×AV)→AW→(List Rd→List (Nat×AV)→AW→Prop)→Prop
 | [],rds,a,w,K=>K rds a w
 | .pu g o::r,rds,a,w,K=>bif gdOk (vT n a t) g then isKd P .pure o.op (opS P hk big (vT n a t) w o.op o.type fun v w'=>xJ7 gs o.dst v fun v=>qV n gs t r rds (putV a o.dst v) w' K)else qV n gs t r rds (putV a o.dst undef) w K
 | .rd g o i keep::r,rds,a,w,K=>bif gdOk (vT n a t) g then isKd P .read o.op (opS P hk big (vT n a t) w o.op o.type fun v w'=>xJ7 gs o.dst v fun v=>qV n gs t r (bif keep then⟨i,v,vT n a t⟩::rds else rds) (putV a o.dst v) w' K)else qV n gs t r rds (putV a o.dst undef) w K
 | .mk g o::r,rds,a,w,K=>bif gdOk (vT n a t) g then isKd P .make o.op (opS P hk big (vT n a t) w o.op o.type fun v w'=>xJ7 gs o.dst v fun v=>qV n gs t r rds (putV a o.dst v) w' K)else qV n gs t r rds (putV a o.dst undef) w K
def iJn(n:Nat)(ops:List Oper)(gs:Gs)(t:Tm):Plan→List Rd→List (Nat×AV)→AW→(Tm→AW→Prop)→Prop
  | .bad,_,_,_,_=>False
  | .done q chk,rds,a,w,K=>bif chk then qV P hk big n gs t q rds a w fun rds' a' w'=>uJf P ops w' rds' (K (vT n a' t) w')else uJf P ops w rds (qV P hk big n gs t q rds a w fun _ a' w'=>K (vT n a' t) w')
  | .eff q chk g o i bfi next,rds,a,w,K=>
    let rest:List Rd→List (Nat×AV)→AW→Prop:=fun rds' a' w'=>
      bif gdOk (vT n a' t) g then opS P hk big (vT n a' t) w' o.op o.type fun v w''=>xJ7 gs o.dst v fun v=>iJn n ops gs t next (rds'.filter fun r=>!(bfi.testBit r.i)) (putV a' o.dst v) w'' K
      else iJn n ops gs t next (rds'.filter fun r=>!(bfi.testBit r.i)) (putV a' o.dst undef) w' K
    bif chk then qV P hk big n gs t q rds a w fun rds' a' w'=>uJf P ops w' rds' (rest rds' a' w')else uJf P ops w rds (qV P hk big n gs t q rds a w rest)
def dJ8(n:Nat)(st:Nat)(ops:List Oper)(draw:Bool)(t:Tm)(w:AW)(K:Tm→AW→Prop):Prop:=
 match draw with
 | true=>iJn P hk big n ops (dJd st ops) t (lJw P ops) [] [] w K
 | false=>opsV P hk big n ops (dJd st ops) t ops [] w K
/-! ### Code -/
def dm:Option Tmp→Nat
 | none=>0
 | some d=>bJ7 d
def opsM:List Oper→Nat
 | []=>0
 | o::r=>Nat.lor (dm o.dst) (opsM r)
def qM:List QI→Nat
 | []=>0
 | .pu _ o::r=>Nat.lor (dm o.dst) (qM r)
 | .rd _ o _ _::r=>Nat.lor (dm o.dst) (qM r)
 | .mk _ o::r=>Nat.lor (dm o.dst) (qM r)
def jQc:Plan→Nat
 | .bad=>0
 | .done q _=>qM q
 | .eff q _ _ o _ _ next=>Nat.lor (Nat.lor (qM q) (dm o.dst)) (jQc next)
def wJl:Code→Nat
 | .region _ ops draw=>bif draw then jQc (lJw P ops.toList)else opsM ops.toList
 | .seq a b=>Nat.lor (wJl a) (wJl b)
 | .cond _ a b=>Nat.lor (wJl a) (wJl b)
 | .block _ b=>wJl b
 | .loop b=>wJl b
 | _=>0
inductive Adv where
 | lf
 | gt
 | lv
 | gv
 | fv
 | sq (a b:Adv)
 | sj (l:List (Tmp×Sh)) (a b:Adv)
 | sk (l:List (Tmp×Sh)) (a b:Adv)
 | cd (a b:Adv)
 | bl (a:Adv)
 | lp (l:List (Tmp×Sh)) (a:Adv)
def sJz:List (Tmp×Sh)→List AV→Nat→Option AV
 | x::l,v::vs,i=>bif Nat.beq x.1 i then some v else sJz l vs i
 | _,_,_=>none
def xQj(n:Nat)(l:List (Tmp×Sh))(vs:List AV)(j:Nat→AV)(D:Nat)(t:Tm):Tm:=(List.range n).map fun i=>match sJz l vs i with
 | some v=>v
 | none=>bif tb D i then j i else getT t i
def lJt(n:Nat)(l:List (Tmp×Sh))(vs:List AV)(j:Nat→AV):Tm:=(List.range n).map fun i=>match sJz l vs i with
 | some v=>v
 | none=>j i
def uJ0(l:List (Tmp×Sh))(t:Tm):List AV:=l.map fun x=>getT t x.1
def onL(l:List (Tmp×Sh))(vs:List AV)(K:List AV→Prop):Prop:=qQf (l.map (·.2)) fun us=>vs=us∧K us
variable(n:Nat)
def aJf(e:zJo)(t:Tm)(w:AW)(A:Tm→AW→Prop)(K:zJo→Tm→AW→Prop):Prop:=match e with
 | .normal=>A t w
 | e=>K e t w
def exitK(id:Nat)(e:zJo)(t:Tm)(w:AW)(K:zJo→Tm→AW→Prop):Prop:=match e with
 | .exit i=>bif Nat.beq i id then K .normal t w else K (.exit i) t w
 | e=>K e t w
def zJk:Adv→Code→Tm→AW→(zJo→Tm→AW→Prop)→Prop
  | .lf,c,t,w,K=>match c with
    | .skip=>K .normal t w
    | .label _=>K .normal t w
    | .ret=>K .ret t w
    | .exit i=>K (.exit i) t w
    | .region _ ops draw=>dJ9 P hk big 0 ops.toList draw t w fun t w=>K .normal t w
    | _=>False
  | .gt,c,t,w,K=>match c with
    | .region _ ops draw=>dJ9 P hk big 1 ops.toList draw t w fun t w=>K .normal t w
    | _=>False
  | .lv,c,t,w,K=>match c with
    | .region _ ops draw=>gd (Nat.beq t.length n) (dJ8 P hk big n 0 ops.toList draw t w fun t w=>K .normal t w)
    | _=>False
  | .gv,c,t,w,K=>match c with
    | .region _ ops draw=>gd (Nat.beq t.length n) (dJ8 P hk big n 1 ops.toList draw t w fun t w=>K .normal t w)
    | _=>False
  | .fv,c,t,w,K=>match c with
    | .region _ ops draw=>gd (Nat.beq t.length n) (dJ8 P hk big n 2 ops.toList draw t w fun t w=>K .normal t w)
    | _=>False
  | .sq x y,c,t,w,K=>match c with
    | .seq a b=>zJk x a t w fun e t w=>aJf e t w (fun t w=>zJk y b t w K) K
    | _=>False
  | .sj l x y,c,t,w,K=>match c with
    | .seq a b=>join (fun vs w=>onL l vs fun vs=>∀j:Nat→AV,zJk y b (xQj n l vs j (wJl P a) t) w K) fun J=>zJk x a t w fun e t w=>aJf e t w (fun t w=>gd (Nat.beq t.length n) (J (uJ0 l t) w)) K
    | _=>False
  | .sk l x y,c,t,w,K=>match c with
    | .seq a b=>join (fun vs w=>onL l vs fun vs=>∀j:Nat→AV,zJk y b (lJt n l vs j) w K) fun J=>zJk x a t w fun e t w=>aJf e t w (fun t w=>gd (Nat.beq t.length n) (J (uJ0 l t) w)) K
    | _=>False
  | .cd x y,c,t,w,K=>match c with
    | .cond c a b=>evK t c fun v=>onB v fun z=>ifT z (zJk x a t w K) (zJk y b t w K)
    | _=>False
  | .bl x,c,t,w,K=>match c with
    | .block id b=>zJk x b t w fun e t w=>exitK id e t w K
    | _=>False
  | .lp l x,c,t,w,K=>match c with
    | .loop b=>gd (Nat.beq t.length n) (zJ9 (uJ0 l t) w fun R vs w=>onL l vs fun vs=>∀j:Nat→AV,zJk x b (xQj n l vs j (wJl P b) t) w fun e t w=>aJf e t w (fun t w=>gd (Nat.beq t.length n) (R (uJ0 l t) w)) K)
    | _=>False
def resS(t:Tm)(w:AW):List ResultVar→(List AV→Prop)→Prop
 | [],K=>K []
 | .tmp i::r,K=>resS t w r fun vs=>K (getT t i::vs)
 | .cell a ty::r,K=>onP (getT t a) fun b o=>atT P big ty (rJ7 P w ty b o) fun v=>resS t w r fun vs=>K (v::vs)
def jJr(fn:Func)(e:zJo)(t:Tm)(w:AW)(K:AV→AW→Prop):Prop:=
 match e with
 | .normal=>resS P big t w fn.results.toList fun vs=>K (one vs) w
 | .ret=>resS P big t w fn.results.toList fun vs=>K (one vs) w
 | _=>False
def fnG(fn:Func)(adv:Adv)(args:List AV)(w:AW)(K:AV→AW→Prop):Prop:=
 match fn.body with
 | some c=>zJk P hk big fn.ntmps adv c (args++List.replicate (fn.ntmps - args.length) undef) w fun e t w=>jJr P big fn e t w K
 | none=>False
end ops
def fnS(P:Program)(hk:Hook)(fn:Func)(adv:Adv)(args:List AV)(w:AW)(K:AV→AW→Prop):Prop:=fnG P hk false fn adv args w K
end Go.Sx
/-! The formulas say no less than the meaning asks. -/
namespace Go.Sx
section
variable {P:Program}{hk:Hook}{big:Bool}
theorem zJe {o:Op}{w:AW}{tmps:Tm}{K:AV→AW→Prop}{v:AV}(hk:opKd P o= .pure∨opKd P o= .read)(h:qJ7 P w tmps o=some v)(hK:K v w):kJ0 K (qJp P w tmps o):=by
 rcases hk with hk | hk
 ·exact⟨v,w,yJo hk h,hK⟩
 ·exact⟨v,w,yJn hk h,hK⟩
theorem xJ1 {o:Op}{w:AW}{tmps:Tm}{K:AV→AW→Prop}{v:AV}{ob:AO}(hk:opKd P o= .make)(h:zJj P w tmps o=some (v,ob))(hK:K v (w.push ob)):kJ0 K (qJp P w tmps o):=
 ⟨_,_,yJp hk h,hK⟩
theorem jJg {o:Op}{w:AW}{tmps:Tm}{K:AV→AW→Prop}{v:AV}{w':AW}(hk:opKd P o= .eff)(h:vJ4 P w tmps o=some (v,w'))(hK:K v w'):kJ0 K (qJp P w tmps o):=
 ⟨_,_,by unfold qJp;rw[hk];exact h,hK⟩
theorem dJg {ck:Bool→AV→(List AV→Prop)→Prop}(hck:∀{a v K},ck a v K→K v.cells){place:Nat→Option (Nat×Nat×Bool)}{place':Nat→Option (Nat×Nat)}(hp:∀i p,place i=some p→place' i=some (p.1,p.2.1)):
    ∀{ps:List (Nat×AV)} {cells:List AV} {K:List AV→Prop},lJs ck place cells ps K→∃cs,uJ5 place' cells ps=some cs∧K cs
  | [],cells,K,h=>⟨cells,rfl,h⟩
  | (i,v)::r,cells,K,h=>by
    simp only[lJs,zJd]at h;obtain⟨p,hpi,h⟩:=h;have h:=hck h;simp only[jJd]at h;obtain⟨hg,h⟩:=h;obtain⟨cs,h1,h2⟩:=dJg hck hp h;refine⟨cs,?_,h2⟩;simp only[uJ5,hp i p hpi,Option.bind_some];rw[hg];exact h1
theorem lJr {place:Nat→Option (Nat×Nat×Bool)}:∀{ps:List (Nat×AV)} {cells:List AV} {K:List AV→Prop},lJs hJz place cells ps K→uJp ps=true
  | [],_,_,_=>rfl
  | (i,v)::r,cells,K,h=>by
    simp only[lJs,zJd]at h;obtain⟨p,_,h⟩:=h;have h:=gJw h;simp only[jJd]at h;have:=lJr h.2.2;unfold uJp at this ⊢;rw[List.all_cons,h.1,this];rfl
theorem xQu {tmps:Tm}{w:AW}{c:Call}{ty:TypeId}{K:AV→AW→Prop}(h:wQt P hk big tmps w c ty K):xJ6 P (wpL P hk) w tmps c K:=by
 unfold wQt at h;unfold xJ6;split at h
 ·rename_i f hc;simp only[hc];simp only[evK,zJd]at h;obtain⟨fv,h1,as,h2,h3⟩:=h;refine⟨_,as,h1,h2,?_⟩;unfold Cv at h3;split at h3
  ·exact qJu _ _ _ (dJn fun v w' h=>eJg P _ h) h3
  ·exact qJu _ _ _ (dJn fun v w' h=>eJg P _ h) h3
  ·exact h3.elim
 ·rename_i b hc;simp only[hc];unfold kQa at h;have hlen:c.callee= .builtin .len→vJf P c= .pure∨vJf P c= .read:=fun hc=>by
   unfold vJf;rw[hc];simp only[jJk];split<;>simp
  have hp:∀{x:AV},jJm P w tmps c=some x→K x w→(vJf P c= .pure∨vJf P c= .read)→kJ0 K (qJp P w tmps (.call c)):=fun h1 h2 h3=>zJe (o:= .call c) (by simpa [opKd]using h3) h1 h2;split at h
  ·split at h
   ·obtain⟨v,h1,h2⟩:=pJx P _ h;exact hp h1 h2 (hlen hc)
   ·obtain⟨v,h1,h2⟩:=pJx P _ h;exact hp h1 h2 (hlen hc)
   ·obtain⟨v,h1,h2⟩:=zJd.1 h;exact hp h1 h2 (hlen hc)
  ·obtain⟨v,h1,h2⟩:=pJx P _ h;exact hp h1 h2 (.inl (by simp[vJf,hc,jJk]))
  ·obtain⟨v,h1,h2⟩:=zJd.1 h;exact hp h1 h2 (.inl (by simp[vJf,hc,jJk]))
  ·obtain⟨v,h1,h2⟩:=zJd.1 h;exact hp h1 h2 (.inl (by simp[vJf,hc,jJk]))
  ·obtain⟨v,w',h1,h2⟩:=yJw.1 h;exact jJg (o:= .call c) (by simp[opKd,vJf,hc,jJk]) h1 h2
  ·obtain⟨v,w',h1,h2⟩:=yJw.1 h;exact jJg (o:= .call c) (by simp[opKd,vJf,hc,jJk]) h1 h2
  ·obtain⟨v,w',h1,h2⟩:=yJw.1 h;exact jJg (o:= .call c) (by simp[opKd,vJf,hc,jJk]) h1 h2
  ·obtain⟨v,w',h1,h2⟩:=yJw.1 h;exact jJg (o:= .call c) (by simp[opKd,vJf,hc,jJk]) h1 h2
  ·exact h.elim
 ·exact h.elim
theorem qQn {s d:TypeId}:pJv P s d= .pure∨pJv P s d= .read∨pJv P s d= .make:=by
 unfold pJv;split<;>simp
theorem iJo {fs:Array Field}{pl:List (Nat×Nat)}(h:wJw P fs=some pl)(i:Nat)(p:Nat×Nat×Bool)(hp:(sJl P fs)[i]? =some p):pl[i]? =some (p.1,p.2.1):=by
  unfold wJw at h;unfold sJl at hp;have key:∀(l:List Field) (pl:List (Nat×Nat)),(l.mapM fun f=>(P.info? f.type).map fun i=>(f.offset,i.size))=some pl→∀(i:Nat) (p:Nat×Nat×Bool),
      (l.map fun f=>(f.offset,(szOf P f.type).getD 0,aggT P f.type))[i]? =some p→pl[i]? =some (p.1,p.2.1):=by
    intro l
    induction l with
    | nil=>intro pl _ i p hp;simp at hp
    | cons f l ih=>
      intro pl h i p hp;simp only[List.mapM_cons,Option.bind_eq_bind,yQi,yQl,Option.pure_def,yQx]at h;obtain⟨x,⟨inf,h1,rfl⟩,ys,h2,rfl⟩:=h
      cases i with
      | zero=>
        simp only[List.map_cons,List.getElem?_cons_zero,yQx]at hp;subst hp;simp[szOf,h1]
      | succ i=>
        simp only[List.map_cons,List.getElem?_cons_succ]at hp ⊢;exact ih ys h2 i p hp
  exact key _ _ h i p hp
theorem fJr {fs:Array Field}(h:∀f∈fs.toList,(P.info? f.type).isSome=true):∃pl,wJw P fs=some pl:=by
  unfold wJw;generalize fs.toList=l at h
  induction l with
  | nil=>exact⟨[],rfl⟩
  | cons f l ih=>
    obtain⟨pl,hpl⟩:=ih fun g hg=>h g (yQq _ hg);have hf:=h f yQu;obtain⟨inf,hinf⟩:=Option.isSome_iff_exists.1 hf;refine⟨(f.offset,inf.size)::pl,?_⟩;rw[List.mapM_cons,hinf,hpl];rfl
theorem rJw {tmps:Tm}{w:AW}{o:Op}{ty:TypeId}{K:AV→AW→Prop}(h:opS P hk big tmps w o ty K):wOp P (wpL P hk) w tmps o K:=by
  have gen:∀{o:Op},(match wQq P o with
      | .now=>onM (qJ7 P w tmps o) fun v=>K v w
      | .told=>atT P big ty (qJ7 P w tmps o) fun v=>K v w
      | .addr=>atP (qJ7 P w tmps o) fun b o=>K (.ptr b o) w
      | .un=>False)→(opKd P o= .pure∨opKd P o= .read)→kJ0 K (qJp P w tmps o):=fun {o} h hk=>by
    split at h
    · obtain⟨v,h1,h2⟩:=zJd.1 h;exact zJe hk h1 h2
    · obtain⟨v,h1,h2⟩:=pJx P _ h;exact zJe hk h1 h2
    · obtain⟨b,x,h1,h2⟩:=vJg.1 h;exact zJe hk h1 h2
    · exact h.elim
  cases o with
  | call c=>exact xQu h
  | pick c a b=>
    simp only[opS,evK,zJd,bJf,aJ1]at h;obtain⟨v,h1,t,rfl,h2,h3⟩:=h;show kJ0 K _
    cases t with
    | true=>
      obtain⟨x,h4,h5⟩:=h2 rfl;exact zJe (.inl rfl) (v:=x) (by simp[qJ7,h1,asB,h4]) h5
    | false=>
      obtain⟨x,h4,h5⟩:=h3 rfl;exact zJe (.inl rfl) (v:=x) (by simp[qJ7,h1,asB,h4]) h5
  | nilCheck x=>
    simp only[opS,evK,zJd,wJa]at h;obtain⟨v,h1,b,o,rfl,h2⟩:=h;exact zJe (o:= .nilCheck x) (.inl rfl) (v:= .ptr b o) (by simp[qJ7,h1,wJb]) h2
  | fieldAddr s x f=>
    simp only[opS,evK,zJd,wJa,vJg]at h;obtain⟨v,h1,b,o,rfl,b',o',h2,h3⟩:=h;exact zJe (o:= .fieldAddr s x f) (.inl rfl) (v:= .ptr b' o') (by simp[qJ7,h1,h2]) h3
  | load t a=>
    simp only[opS,evK,zJd,wJa]at h;obtain⟨v,h1,b,o,rfl,h2⟩:=h;obtain⟨v,h3,h4⟩:=pJx P _ h2;exact zJe (o:= .load t a) (.inr rfl) (v:=v) (by simp[qJ7,h1,asP,h3]) h4
  | store t a x=>
    simp only[opS,evK,zJd,wJa]at h;obtain⟨v,h1,b,o,rfl,u,h2,h3⟩:=h;have h3:=gJw h3;simp only[jJd,zJd]at h3;obtain⟨h3,h4,w',h5,h6⟩:=h3;refine jJg (o:= .store t a x) rfl (v:=undef) (w':=w') ?_ h6;simp only[vJ4,h1,Option.bind_some,asP,h2,dJt]
    cases hz:szOf P t with
    | none=>rw[hz]at h4;cases h4
    | some n=>
      rw[hz]at h4;have h4:Nat.beq u.cells.length n=true:=h4;simp only[Option.bind_some];rw[h4,h3];simp[qJf,h5]
  | build t ps=>
    simp only[opS,zJd]at h;obtain⟨z,h1,xs,h2,h3⟩:=h;split at h3
    · rename_i fs hu
      simp only[jJd]at h3;obtain⟨h4,h5⟩:=h3;obtain⟨pl,hpl⟩:=fJr (P:=P) (fs:=fs) (fun f hf=>yQv.1 h4 f hf);obtain⟨cs,h8,h9⟩:=dJg (fun h=>tJ7 h) (place':=(pl[·]?)) (fun i p hp=>iJo hpl i p hp) h5;refine zJe (o:= .build t ps) (v:= .agg cs) (.inl rfl) ?_ h9;simp only[qJ7,h2,Option.bind_some,hJ0,h1,hu,hpl,h8,Option.map_some]
    · rename_i n e hu
      obtain⟨s,h4,h5⟩:=h3;obtain⟨cs,h8,h9⟩:=dJg (fun h=>tJ7 h) (place':=fun i=>some (i * s,s)) (fun i p hp=>by simp at hp;subst hp;rfl) h5;refine zJe (o:= .build t ps) (v:= .agg cs) (.inl rfl) ?_ h9;simp only[qJ7,h2,Option.bind_some,hJ0,h1,hu,h4,h8,Option.map_some]
    · exact h3.elim
  | buildSlice t len ps=>
    simp only[opS,zJd,jJd]at h;obtain⟨e,h1,s,h2,z,h3,xs,h4,h5,h6⟩:=h;have h7:=lJr h6;obtain⟨cs,h8,h9⟩:=dJg (fun h=>(gJw h).2) (place':=fun i=>some (i * s,s)) (fun i p hp=>by simp at hp;subst hp;rfl) h6;refine xJ1 (o:= .buildSlice t len ps) rfl (v:=_) (ob:=qJ4 w cs) ?_ h9;simp only[gQ3]at h5;simp[zJj,h1,h2,h3,h4,h5.1,h5.2,h7,h8,qJf]
  | alloc t=>
    simp only[opS,zJd,jJd]at h;obtain⟨z,h1,h2,h3⟩:=h;exact xJ1 (o:= .alloc t) rfl (ob:=qJ4 w z.cells) (by simp[zJj,h1,h2,qJf]) h3
  | box t x=>
    simp only[opS,evK,zJd]at h;obtain⟨v,h1,h2⟩:=h;have h2:=gJw h2;exact xJ1 (o:= .box t x) rfl (ob:=qJ4 w v.cells) (by simp[zJj,h1,h2.1,qJf]) h2.2
  | makeMap t r=>
    cases r with
    | none=>exact xJ1 (o:= .makeMap t none) rfl (v:= .map w.size) (ob:= .map [] 0) rfl h
    | some r=>exact h.elim
  | makeSlice t l c=>
    simp only[opS,evK,zJd,jJd]at h;obtain⟨e,h1,lv,h2,cv,h3,l',h4,c',h5,z,h6,bytes,h7,h8,h9⟩:=h;refine xJ1 (o:= .makeSlice t l c) rfl (ob:=qJ4 w (repl c' z.cells)) ?_ h9;simp only[zJj,h1,h2,h3,h4,h5,h6,h7,Option.bind_some];rw[h8];rfl
  | convert s d x=>
    simp only[opS]at h
    cases hk:pJv P s d with
    | make=>
      rw[hk]at h;simp only[evK,zJd,kQ0,jJd]at h;obtain⟨v,h1,b,rfl,e,h2,us,h3,ue,h4,h5,h6⟩:=h;refine xJ1 (o:= .convert s d x) (by simp[opKd,hk]) (ob:=qJ4 w (qJk b)) ?_ h6;simp only[zJj,h1,h2,h3,h4,h5,Option.bind_some];rfl
    | eff=>rcases qQn (P:=P) (s:=s) (d:=d)with h | h | h<;>rw[hk]at h<;>cases h
    | pure=>
      rw[hk]at h;have:kJ0 K (qJp P w tmps (.convert s d x)):=by
        simp only[]at h;split at h
        · obtain⟨v,h1,h2⟩:=zJd.1 h;exact zJe (o:= .convert s d x) (by simp[opKd,hk]) h1 h2
        · obtain⟨v,h1,h2⟩:=pJx P _ h;exact zJe (o:= .convert s d x) (by simp[opKd,hk]) h1 h2
      exact this
    | read=>
      rw[hk]at h;have:kJ0 K (qJp P w tmps (.convert s d x)):=by
        simp only[]at h;split at h
        · obtain⟨v,h1,h2⟩:=zJd.1 h;exact zJe (o:= .convert s d x) (by simp[opKd,hk]) h1 h2
        · obtain⟨v,h1,h2⟩:=pJx P _ h;exact zJe (o:= .convert s d x) (by simp[opKd,hk]) h1 h2
      exact this
  | mapUpdate t m k v=>
    obtain⟨v,w',h1,h2⟩:=yJw.1 h;exact jJg (o:= .mapUpdate ..) rfl h1 h2
  | insert t m k v=>
    obtain⟨v,w',h1,h2⟩:=yJw.1 h;exact jJg (o:= .insert ..) rfl h1 h2
  | range t x=>
    simp only[opS]at h;split at h
    · rename_i ke hke
      simp only[evK,zJd]at h;obtain⟨v,h1,h2⟩:=h;unfold vQp at h2;split at h2
      · exact jJg (o:= .range t x) (by simp[opKd,hke]) (by simp only[vJ4,h1,Option.bind_some,mJ9,hke,Option.map_some]) h2
      · rename_i r
        obtain⟨m,h3,h4⟩:=zJd.1 h2;exact jJg (o:= .range t x) (by simp[opKd,hke]) (by simp only[vJ4,h1,Option.bind_some,mJ9,hke,h3,Option.map_some]) h4
      · exact h2.elim
    · exact h.elim
  | next i t=>
    simp only[opS,evK,zJd,wJa,jJd,gQ3,Bool.not_eq_true']at h;obtain⟨v,h1,b,o,rfl,⟨h2,rfl⟩,h3⟩:=h;have:=yQp h2;subst this;show vJz w tmps i false K;refine⟨b,h1,?_⟩;unfold nextK at h3;split at h3
    · rename_i hg;rw[hg];exact h3
    · rename_i m es c rest x hg
      rw[hg];simp only[eJe];refine⟨h3.1,?_⟩;have h4:=h3.2
      cases rest with
      | nil=>exact h4
      | cons a l=>exact h4
    · exact h3.elim
  | entry i=>
    simp only[opS,evK,zJd,wJa,jJd]at h;obtain⟨v,h1,b,o,rfl,h2,h3⟩:=h;unfold vQ7 at h3;split at h3
    · rename_i r es c rest k v hg
      simp only[zJd,jJd]at h3;obtain⟨m,h4,h5,h6⟩:=h3;refine jJg (o:= .entry i) rfl (v:= .tup [k,v]) (w':=w) ?_ h6;simp only[vJ4,h1,Option.bind_some,asP,qJf,lJy,hg,h4];have h2':Nat.beq o 0=true:=h2;rw[h2',if_pos (yQp h5)];rfl
    · exact h3.elim
  | move x=>exact gen h (.inl rfl)
  | assign x=>exact gen h (.inl rfl)
  | binOp a b c d e=>exact gen (o:= .binOp a b c d e) h (.inl rfl)
  | unOp a b c=>exact gen (o:= .unOp a b c) h (.inl rfl)
  | makeInterface a b=>exact gen (o:= .makeInterface a b) h (.inl rfl)
  | makeFunc a b c=>exact gen (o:= .makeFunc a b c) h (.inl rfl)
  | extract a b=>exact gen (o:= .extract a b) h (.inl rfl)
  | field a b c=>exact gen (o:= .field a b c) h (.inl rfl)
  | index a b c=>exact gen (o:= .index a b c) h (.inl rfl)
  | slice a b c d e=>exact gen (o:= .slice a b c d e) h (.inl rfl)
  | lookup a b c d=>exact gen (o:= .lookup a b c d) h (.inr rfl)
  | typeAssert a b c d=>exact gen (o:= .typeAssert a b c d) h (.inl rfl)
  | sliceToArrayPointer a b=>exact gen (o:= .sliceToArrayPointer a b) h (.inl rfl)
  | indexAddr a b c=>exact gen (o:= .indexAddr a b c) h (.inl rfl)
  | _=>exact h.elim
theorem kJz {gs:Gs}{d:Option Tmp}{v:AV}{K:AV→Prop}(h:xJ7 gs d v K):K v:=by
  unfold xJ7 at h
  cases h1:inG gs.1 d with
  | true=>
    rw[h1,cond_true,bJf]at h;obtain⟨b,rfl,h⟩:=h;cases b<;>exact h
  | false=>
    rw[h1,cond_false]at h
    cases h2:inG gs.2.1 d with
    | true=>
      rw[h2,cond_true,bJf]at h;obtain⟨b,rfl,h⟩:=h;obtain⟨rfl,h⟩:=jJd.1 h;exact h
    | false=>
      rw[h2,cond_false]at h
      cases h3:inG gs.2.2 d with
      | true=>
        rw[h3,cond_true,bJf]at h;obtain⟨b,rfl,h⟩:=h;obtain⟨hb,h⟩:=jJd.1 h;cases b
        · exact h
        · cases hb
      | false=>rw[h3]at h;exact h
theorem sJo {all:List Oper}{gs:Gs}:∀{l:List Oper} {t:Tm} {w:AW} {K:Tm→AW→Prop},opsS P hk big all gs l t w K→wOps P (wpL P hk) all l t w K
  | [],t,w,K,h=>h
  | o::r,t,w,K,h=>by
    simp only[opsS]at h;simp only[wOps]
    cases hg:zJc all t o.guard with
    | true=>
      rw[hg]at h;simp only[if_true];exact vJo qJu (fun v w' h=>sJo (kJz h)) (rJw h)
    | false=>
      rw[hg]at h;simp only[yQ2,if_false];exact sJo h
theorem sJ2 {k:Kd}{o:Op}{A:Prop}(h:isKd P k o A):opKd P o=k∧k≠ .eff∧A:=by
 unfold isKd at h;split at h<;>first | exact⟨by assumption,by simp,h⟩ | exact h.elim
theorem fJm {o:Op}{w:AW}{t:Tm}{K:AV→AW→Prop}(hq:opKd P o≠ .eff)(h:wOp P (wpL P hk) w t o K):kJ0 K (qJp P w t o):=by
 unfold wOp at h;split at h
 ·rename_i c;unfold xJ6 at h;split at h
  ·rename_i f hc;exact absurd (by simp[opKd,vJf,hc]) hq
  ·exact h
  ·exact h.elim
 ·exact absurd rfl hq
 ·exact h
theorem mJk {gs:Gs}:∀{q:List QI} {rds:List Rd} {t:Tm} {w:AW} {K:List Rd→Tm→AW→Prop},qS P hk big gs q rds t w K→wQ P q rds t w K
  | [],_,_,_,_,h=>h
  | .pu g o::r,rds,t,w,K,h=>by
    simp only[qS]at h;simp only[wQ]
    cases hg:gdOk t g with
    | false=>rw[hg]at h;exact mJk h
    | true=>
      rw[hg]at h;obtain⟨h1,h2,h3⟩:=sJ2 h;obtain⟨v,w',h4,h5⟩:=fJm (by rw[h1];exact h2) (rJw h3);unfold qJp at h4;rw[h1]at h4;simp only[yQl,Prod.mk.injEq]at h4;obtain⟨a,h6,rfl,rfl⟩:=h4;exact⟨a,h6,mJk (kJz h5)⟩
  | .rd g o i keep::r,rds,t,w,K,h=>by
    simp only[qS]at h;simp only[wQ]
    cases hg:gdOk t g with
    | false=>rw[hg]at h;exact mJk h
    | true=>
      rw[hg]at h;obtain⟨h1,h2,h3⟩:=sJ2 h;obtain⟨v,w',h4,h5⟩:=fJm (by rw[h1];exact h2) (rJw h3);unfold qJp at h4;rw[h1]at h4;simp only[yQl,Prod.mk.injEq]at h4;obtain⟨a,h6,rfl,rfl⟩:=h4;exact⟨a,h6,mJk (kJz h5)⟩
  | .mk g o::r,rds,t,w,K,h=>by
    simp only[qS]at h;simp only[wQ]
    cases hg:gdOk t g with
    | false=>rw[hg]at h;exact mJk h
    | true=>
      rw[hg]at h;obtain⟨h1,h2,h3⟩:=sJ2 h;obtain⟨v,w',h4,h5⟩:=fJm (by rw[h1];exact h2) (rJw h3);unfold qJp at h4;rw[h1]at h4;simp only[yQl,Prod.mk.injEq]at h4;obtain⟨a,h6,rfl,rfl⟩:=h4;exact⟨a,h6,mJk (kJz h5)⟩
theorem gJi {ops:List Oper}{w:AW}{A:Prop}:∀{rds:List Rd},uJf P ops w rds A→cJw P ops w rds∧A
  | [],h=>⟨fun _ hr=>by simp at hr,h⟩
  | r::rs,h=>by
    simp only[uJf]at h;obtain⟨h1,h2⟩:=h;obtain⟨h3,h4⟩:=gJi h2;refine⟨fun x hx=>?_,h4⟩;rcases yQw.1 hx with rfl | hx
    · split at h1
      · rename_i o ho;exact⟨o,ho,h1⟩
      · exact h1.elim
    · exact h3 x hx
theorem zJ7 {K K':List Rd→Tm→AW→Prop}(h:∀r t w,K r t w→K' r t w):∀{q:List QI} {rds:List Rd} {t:Tm} {w:AW},wQ P q rds t w K→wQ P q rds t w K'
  | [],_,_,_,hq=>h _ _ _ hq
  | .pu g o::r,rds,t,w,hq=>by
    simp only[wQ]at hq ⊢;cases hg:gdOk t g<;>rw[hg]at hq
    · exact zJ7 h hq
    · obtain⟨v,h1,h2⟩:=hq;exact⟨v,h1,zJ7 h h2⟩
  | .rd g o i keep::r,rds,t,w,hq=>by
    simp only[wQ]at hq ⊢;cases hg:gdOk t g<;>rw[hg]at hq
    · exact zJ7 h hq
    · obtain⟨v,h1,h2⟩:=hq;exact⟨v,h1,zJ7 h h2⟩
  | .mk g o::r,rds,t,w,hq=>by
    simp only[wQ]at hq ⊢;cases hg:gdOk t g<;>rw[hg]at hq
    · exact zJ7 h hq
    · obtain⟨v,h1,h2⟩:=hq;exact⟨v,h1,zJ7 h h2⟩
theorem fJp {ops:List Oper}{gs:Gs}:∀{p:Plan} {rds:List Rd} {t:Tm} {w:AW} {K:Tm→AW→Prop},yJu P hk big ops gs p rds t w K→vJy P (wpL P hk) ops p rds t w K
  | .bad,_,_,_,_,h=>h
  | .done q chk,rds,t,w,K,h=>by
    simp only[yJu]at h;simp only[vJy]
    cases chk with
    | true=>exact⟨by simp,zJ7 (fun r t w h=>let⟨a,b⟩:=gJi h;⟨fun _=>a,b⟩) (mJk h)⟩
    | false=>obtain⟨h1,h2⟩:=gJi h;exact⟨fun _=>h1,zJ7 (fun r t w h=>⟨by simp,h⟩) (mJk h2)⟩
  | .eff q chk g o i bfi next,rds,t,w,K,h=>by
    simp only[yJu]at h;simp only[vJy];have step:∀{r:List Rd} {t:Tm} {w:AW},(bif gdOk t g then opS P hk big t w o.op o.type fun v w''=>xJ7 gs o.dst v fun v=>yJu P hk big ops gs next (r.filter fun r=>!(bfi.testBit r.i)) (putT t o.dst v) w'' K
        else yJu P hk big ops gs next (r.filter fun r=>!(bfi.testBit r.i)) (putT t o.dst undef) w K)→
        (bif gdOk t g then wOp P (wpL P hk) w t o.op fun v w''=>vJy P (wpL P hk) ops next (r.filter fun r=>!(bfi.testBit r.i)) (putT t o.dst v) w'' K
        else vJy P (wpL P hk) ops next (r.filter fun r=>!(bfi.testBit r.i)) (putT t o.dst undef) w K):=fun {r t w} h=>by
      cases hg:gdOk t g with
      | false=>rw[hg]at h;exact fJp h
      | true=>rw[hg]at h;exact vJo qJu (fun v w' h=>fJp (kJz h)) (rJw h)
    cases chk with
    | true=>exact⟨by simp,zJ7 (fun r t w h=>let⟨a,b⟩:=gJi h;⟨fun _=>a,step b⟩) (mJk h)⟩
    | false=>obtain⟨h1,h2⟩:=gJi h;exact⟨fun _=>h1,zJ7 (fun r t w h=>⟨by simp,step h⟩) (mJk h2)⟩
def stays(D:Nat)(t t':Tm):Prop:=t'.length=t.length∧∀i,D.testBit i=false→getT t' i=getT t i
theorem jJp(D:Nat)(t:Tm):stays D t t:=⟨rfl,fun _ _=>rfl⟩
theorem zJn {D:Nat}{t t' t'':Tm}(h:stays D t t')(h':stays D t' t''):stays D t t'':=⟨h'.1.trans h.1,fun i hi=>(h'.2 i hi).trans (h.2 i hi)⟩
theorem jJx {D E:Nat}{t t':Tm}(h:stays D t t'):stays (Nat.lor D E) t t':=⟨h.1,fun i hi=>h.2 i (by
 have:(D ||| E).testBit i=false:=hi;rw[Nat.testBit_or,Bool.or_eq_false_iff]at this;exact this.1)⟩
theorem vJ0 {D E:Nat}{t t':Tm}(h:stays E t t'):stays (Nat.lor D E) t t':=⟨h.1,fun i hi=>h.2 i (by
 have:(D ||| E).testBit i=false:=hi;rw[Nat.testBit_or,Bool.or_eq_false_iff]at this;exact this.2)⟩
theorem kJx(t:Tm)(d:Option Tmp)(v:AV):stays (dm d) t (putT t d v):=by
  cases d with
  | none=>exact jJp _ _
  | some d=>
    refine⟨by simp[putT],fun i hi=>?_⟩;have:i≠d:=fun e=>by
      subst e;have h2:(2^i).testBit i=false:=hi;rw[Nat.testBit_two_pow_self]at h2;cases h2
    simp only[putT,getT,yQj,List.getElem?_set_ne (Ne.symm this)]
theorem mJx {all:List Oper}:∀{l:List Oper} {t:Tm} {w:AW} {K:Tm→AW→Prop},wOps P (wpL P hk) all l t w K→wOps P (wpL P hk) all l t w fun t' w'=>stays (opsM l) t t'∧K t' w'
  | [],t,w,K,h=>⟨jJp _ _,h⟩
  | o::r,t,w,K,h=>by
    simp only[wOps]at h ⊢;have step:∀{v:AV} {w':AW},wOps P (wpL P hk) all r (putT t o.dst v) w' K→wOps P (wpL P hk) all r (putT t o.dst v) w' fun t' w'=>stays (opsM (o::r)) t t'∧K t' w':=fun h=>
      kJu qJu (fun t' w' h=>⟨zJn (jJx (kJx t o.dst _)) (vJ0 h.1),h.2⟩) (mJx h)
    cases hg:zJc all t o.guard with
    | true=>
      rw[hg]at h;simp only[if_true]at h ⊢;exact vJo qJu (fun v w' h=>step h) h
    | false=>
      rw[hg]at h;simp only[yQ2,if_false]at h ⊢;exact step h
theorem gJa:∀{q:List QI} {rds:List Rd} {t:Tm} {w:AW} {K:List Rd→Tm→AW→Prop},wQ P q rds t w K→wQ P q rds t w fun r t' w'=>stays (qM q) t t'∧K r t' w'
  | [],_,_,_,_,h=>⟨jJp _ _,h⟩
  | .pu g o::r,rds,t,w,K,h=>by
    simp only[wQ]at h ⊢;have step:∀{v:AV} {rds:List Rd} {w:AW},wQ P r rds (putT t o.dst v) w K→wQ P r rds (putT t o.dst v) w fun x t' w'=>stays (qM (.pu g o::r)) t t'∧K x t' w':=fun h=>
      zJ7 (fun x t' w' h=>⟨zJn (jJx (kJx t o.dst _)) (vJ0 h.1),h.2⟩) (gJa h)
    cases hg:gdOk t g<;>rw[hg]at h
    · exact step h
    · obtain⟨v,h1,h2⟩:=h;exact⟨v,h1,step h2⟩
  | .rd g o i keep::r,rds,t,w,K,h=>by
    simp only[wQ]at h ⊢;have step:∀{v:AV} {rds:List Rd} {w:AW},wQ P r rds (putT t o.dst v) w K→wQ P r rds (putT t o.dst v) w fun x t' w'=>stays (qM (.rd g o i keep::r)) t t'∧K x t' w':=fun h=>
      zJ7 (fun x t' w' h=>⟨zJn (jJx (kJx t o.dst _)) (vJ0 h.1),h.2⟩) (gJa h)
    cases hg:gdOk t g<;>rw[hg]at h
    · exact step h
    · obtain⟨v,h1,h2⟩:=h;exact⟨v,h1,step h2⟩
  | .mk g o::r,rds,t,w,K,h=>by
    simp only[wQ]at h ⊢;have step:∀{v:AV} {rds:List Rd} {w:AW},wQ P r rds (putT t o.dst v) w K→wQ P r rds (putT t o.dst v) w fun x t' w'=>stays (qM (.mk g o::r)) t t'∧K x t' w':=fun h=>
      zJ7 (fun x t' w' h=>⟨zJn (jJx (kJx t o.dst _)) (vJ0 h.1),h.2⟩) (gJa h)
    cases hg:gdOk t g<;>rw[hg]at h
    · exact step h
    · obtain⟨v,h1,h2⟩:=h;exact⟨v,h1,step h2⟩
theorem gJ8 {ops:List Oper}{K K':Tm→AW→Prop}(h:∀t w,K t w→K' t w):∀{p:Plan} {rds:List Rd} {t:Tm} {w:AW},vJy P (wpL P hk) ops p rds t w K→vJy P (wpL P hk) ops p rds t w K'
  | .bad,_,_,_,hp=>hp
  | .done q chk,_,_,_,hp=>⟨hp.1,zJ7 (fun r t w hq=>⟨hq.1,h _ _ hq.2⟩) hp.2⟩
  | .eff q chk g o i bfi next,_,_,_,hp=>by
    refine⟨hp.1,zJ7 (fun r t w hq=>⟨hq.1,?_⟩) hp.2⟩;have h2:=hq.2;cases hg:gdOk t g<;>rw[hg]at h2
    · exact gJ8 h h2
    · exact vJo qJu (fun v w' h3=>gJ8 h h3) h2
theorem dJk {ops:List Oper}:∀{p:Plan} {rds:List Rd} {t:Tm} {w:AW} {K:Tm→AW→Prop},vJy P (wpL P hk) ops p rds t w K→vJy P (wpL P hk) ops p rds t w fun t' w'=>stays (jQc p) t t'∧K t' w'
  | .bad,_,_,_,_,hp=>hp
  | .done q chk,_,_,_,_,hp=>⟨hp.1,zJ7 (fun r t w hq=>⟨hq.2.1,hq.1,hq.2.2⟩) (gJa hp.2)⟩
  | .eff q chk g o i bfi next,rds,t,w,K,hp=>by
    refine⟨hp.1,zJ7 (fun r t' w hq=>⟨hq.2.1,?_⟩) (gJa hp.2)⟩;have h1:=hq.1;have h2:=hq.2.2;have step:∀{v:AV} {rds:List Rd} {w:AW},vJy P (wpL P hk) ops next rds (putT t' o.dst v) w K→vJy P (wpL P hk) ops next rds (putT t' o.dst v) w fun t'' w'=>stays (jQc (.eff q chk g o i bfi next)) t t''∧K t'' w':=fun h=>
      gJ8 (fun t'' w' h=>⟨zJn (zJn (jJx (jJx h1)) (jJx (vJ0 (kJx t' o.dst _)))) (vJ0 h.1),h.2⟩) (dJk h)
    cases hg:gdOk t' g<;>rw[hg]at h2
    · exact step h2
    · exact vJo qJu (fun v w' h3=>step h3) h2
theorem vJ9 {st:Nat}{id:Nat}{ops:Array Oper}{draw:Bool}{t:Tm}{ds:List Nat}{w:AW}{Q:Res→Prop}{K:Tm→AW→Prop}(hK:∀t' w',stays (wJl P (.region id ops draw)) t t'→K t' w'→Q (.ex .normal ⟨t',ds,w'⟩))(h:dJ9 P hk big st ops.toList draw t w K):kJs P (wpL P hk) ops.toList draw ⟨t,ds,w⟩ Q:=by
  cases draw with
  | true=>
    obtain⟨h1,h2⟩:=hJx qJu (dJk (fJp h));exact⟨h1,vJn qJu (fun t' w' h=>hK t' w' h.1 h.2) h2⟩
  | false=>exact kJu qJu (fun t' w' h=>hK t' w' h.1 h.2) (mJx (sJo h))
theorem uJy(t:Tm)(i:Nat):∀(l:List (Tmp×Sh)),sJz l (uJ0 l t) i=none∨sJz l (uJ0 l t) i=some (getT t i)
  | []=> .inl rfl
  | x::l=>by
    show(bif Nat.beq x.1 i then some (getT t x.1)else sJz l (uJ0 l t) i)=none∨(bif Nat.beq x.1 i then some (getT t x.1)else sJz l (uJ0 l t) i)=some (getT t i)
    cases hb:Nat.beq x.1 i with
    | true=>rw[yQp hb];exact .inr rfl
    | false=>exact uJy t i l
theorem hJv {n:Nat}{l:List (Tmp×Sh)}{t':Tm}(h:t'.length=n):lJt n l (uJ0 l t') (getT t')=t':=by
 unfold lJt;apply List.ext_getElem?;intro i;rw[gQn];by_cases hi:i<n
 ·rw[List.getElem?_range hi];have hlt:i<t'.length:=by omega
  have hg:getT t' i=t'[i]:=by unfold getT;rw[yQj];simp[yQn hlt]
  rw[yQn hlt,←hg];simp only[Option.map_some,yQx];rcases uJy t' i l with h | h<;>rw[h]
 ·rw[yQ6 (by simpa using Nat.le_of_not_lt hi),yQ6 (by omega)];rfl
theorem hJu {n:Nat}{l:List (Tmp×Sh)}{D:Nat}{t t':Tm}(h:t'.length=n)(ha:stays D t t'):xQj n l (uJ0 l t') (getT t') D t=t':=by
 unfold xQj;apply List.ext_getElem?;intro i;rw[gQn];by_cases hi:i<n
 ·rw[List.getElem?_range hi];have hlt:i<t'.length:=by omega
  have hg:getT t' i=t'[i]:=by unfold getT;rw[yQj];simp[yQn hlt]
  rw[yQn hlt,←hg];simp only[Option.map_some,yQx];rcases uJy t' i l with h | h<;>rw[h]
  simp only[eJl]
  cases hd:D.testBit i with
  | true=>rfl
  | false=>exact(ha.2 i hd).symm
 ·rw[yQ6 (by simpa using hi),yQ6 (by omega)];rfl
theorem oJb {l:List (Tmp×Sh)}{vs:List AV}{K:List AV→Prop}(h:onL l vs K):K vs:=by
 obtain⟨us,rfl,h⟩:=dJi h;exact h
def vJm(P:Program)(hk:Hook)(ro:Option Nat)(c:Code)(t:Tm)(ds:List Nat)(w:AW)(K:zJo→Tm→AW→Prop):Prop:=
 wpL P hk (.code ro c ⟨t,ds,w⟩) (exK fun e s=>s.defers=ds∧K e s.tmps s.w)
theorem xJe {ro:Option Nat}{c:Code}{t:Tm}{ds:List Nat}{w:AW}{K K':zJo→Tm→AW→Prop}(h:∀e t w,K e t w→K' e t w)(hc:vJm P hk ro c t ds w K):vJm P hk ro c t ds w K':=
 qJu _ _ _ (qJx fun e s hs=>⟨hs.1,h _ _ _ hs.2⟩) hc
/-! ### What is written is kept apart -/
theorem vQf {n:Nat}{t:Tm}(h:t.length=n):vT n [] t=t:=by
 refine List.ext_getElem (by simp[vT,h]) fun i h1 h2=>?_;simp[vT,aJm,getT,yQj,h2]
theorem cJz {n:Nat}{a:List (Nat×AV)}{t:Tm}{d:Option Tmp}{v:AV}:putT (vT n a t) d v=vT n (putV a d v) t:=by
  cases d with
  | none=>rfl
  | some d=>
    refine List.ext_getElem (by simp[vT,putT]) fun i h1 h2=>?_;have hi:i<n:=by simpa [vT]using h2
    simp only[putT,putV,vT];rw[List.getElem_set];by_cases h:d=i
    · subst h;simp[aJm]
    · have hb:Nat.beq d i=false:=by rw[←gQh,Nat.beq_eq];exact h
      simp[aJm,h,hb]
theorem eJ6 {n:Nat}{all:List Oper}{gs:Gs}{t:Tm}:∀{l:List Oper} {a:List (Nat×AV)} {w:AW} {K:Tm→AW→Prop},opsV P hk big n all gs t l a w K=opsS P hk big all gs l (vT n a t) w K
  | [],a,w,K=>rfl
  | o::r,a,w,K=>by
    simp only[opsV,opsS,cJz,eJ6 (l:=r)]
theorem sJi {n:Nat}{gs:Gs}{t:Tm}:∀{q:List QI} {rds:List Rd} {a:List (Nat×AV)} {w:AW} {K:List Rd→Tm→AW→Prop},qV P hk big n gs t q rds a w (fun r a w=>K r (vT n a t) w)=qS P hk big gs q rds (vT n a t) w K
 | [],rds,a,w,K=>rfl
 | .pu g o::r,rds,a,w,K=>by simp only[qV,qS,cJz,sJi (q:=r)]
 | .rd g o i keep::r,rds,a,w,K=>by simp only[qV,qS,cJz,sJi (q:=r)]
 | .mk g o::r,rds,a,w,K=>by simp only[qV,qS,cJz,sJi (q:=r)]
theorem tJ4 {n:Nat}{ops:List Oper}{gs:Gs}{t:Tm}:∀{p:Plan} {rds:List Rd} {a:List (Nat×AV)} {w:AW} {K:Tm→AW→Prop},iJn P hk big n ops gs t p rds a w K=yJu P hk big ops gs p rds (vT n a t) w K
  | .bad,rds,a,w,K=>rfl
  | .done q chk,rds,a,w,K=>by
    simp only[iJn,yJu];rw[sJi (K:=fun rds' t' w'=>uJf P ops w' rds' (K t' w')),sJi (K:=fun _ t' w'=>K t' w')]
  | .eff q chk g o i bfi next,rds,a,w,K=>by
    simp only[iJn,yJu,tJ4 (p:=next),←cJz];rw[sJi (K:=fun rds' t' w'=>uJf P ops w' rds' (bif gdOk t' g then opS P hk big t' w' o.op o.type fun v w''=>xJ7 gs o.dst v fun v=>yJu P hk big ops gs next (rds'.filter fun r=>!(bfi.testBit r.i)) (putT t' o.dst v) w'' K else yJu P hk big ops gs next (rds'.filter fun r=>!(bfi.testBit r.i)) (putT t' o.dst undef) w' K)),
      sJi (K:=fun rds' t' w'=>bif gdOk t' g then opS P hk big t' w' o.op o.type fun v w''=>xJ7 gs o.dst v fun v=>yJu P hk big ops gs next (rds'.filter fun r=>!(bfi.testBit r.i)) (putT t' o.dst v) w'' K else yJu P hk big ops gs next (rds'.filter fun r=>!(bfi.testBit r.i)) (putT t' o.dst undef) w' K)]
theorem uJk {n:Nat}{st:Nat}{ops:List Oper}{draw:Bool}{t:Tm}{w:AW}{K:Tm→AW→Prop}(h:t.length=n):dJ8 P hk big n st ops draw t w K=dJ9 P hk big st ops draw t w K:=by
 unfold dJ8 dJ9
 cases draw with
 | true=>simp only[tJ4,vQf h]
 | false=>simp only[eJ6,vQf h]
theorem zJw {n:Nat}{ro:Option Nat}{ds:List Nat}:∀{a:Adv} {c:Code} {t:Tm} {w:AW} {K:zJo→Tm→AW→Prop},zJk P hk big n a c t w K→vJm P hk ro c t ds w fun e t' w'=>stays (wJl P c) t t'∧K e t' w'
  | .lf,c,t,w,K,h=>by
    unfold vJm;simp only[zJk]at h;split at h
    · exact qJy (t:= .code ro .skip ⟨t,ds,w⟩) (show ds=ds∧stays _ t t∧K .normal t w from⟨rfl,jJp _ _,h⟩)
    · exact qJy (t:= .code ro (.label _) ⟨t,ds,w⟩) (show ds=ds∧stays _ t t∧K .normal t w from⟨rfl,jJp _ _,h⟩)
    · exact qJy (t:= .code ro .ret ⟨t,ds,w⟩) (show ds=ds∧stays _ t t∧K .ret t w from⟨rfl,jJp _ _,h⟩)
    · exact qJy (t:= .code ro (.exit _) ⟨t,ds,w⟩) (show ds=ds∧stays _ t t∧K (.exit _) t w from⟨rfl,jJp _ _,h⟩)
    · rename_i id ops draw
      exact qJy (t:= .code ro _ _) (show kJs P (wpL P hk) ops.toList draw ⟨t,ds,w⟩ _ from vJ9 (id:=id) (fun t' w' ha h=>⟨rfl,ha,h⟩) h)
    · exact h.elim
  | .gt,c,t,w,K,h=>by
    unfold vJm;simp only[zJk]at h;split at h
    · rename_i id ops draw
      exact qJy (t:= .code ro _ _) (show kJs P (wpL P hk) ops.toList draw ⟨t,ds,w⟩ _ from vJ9 (id:=id) (fun t' w' ha h=>⟨rfl,ha,h⟩) h)
    · exact h.elim
  | .lv,c,t,w,K,h=>by
    unfold vJm;simp only[zJk]at h;split at h
    · rename_i id ops draw
      obtain⟨hn,h⟩:=jJd.1 h;rw[uJk (yQp hn)]at h;exact qJy (t:= .code ro _ _) (show kJs P (wpL P hk) ops.toList draw ⟨t,ds,w⟩ _ from vJ9 (id:=id) (fun t' w' ha h=>⟨rfl,ha,h⟩) h)
    · exact h.elim
  | .gv,c,t,w,K,h=>by
    unfold vJm;simp only[zJk]at h;split at h
    · rename_i id ops draw
      obtain⟨hn,h⟩:=jJd.1 h;rw[uJk (yQp hn)]at h;exact qJy (t:= .code ro _ _) (show kJs P (wpL P hk) ops.toList draw ⟨t,ds,w⟩ _ from vJ9 (id:=id) (fun t' w' ha h=>⟨rfl,ha,h⟩) h)
    · exact h.elim
  | .fv,c,t,w,K,h=>by
    unfold vJm;simp only[zJk]at h;split at h
    · rename_i id ops draw
      obtain⟨hn,h⟩:=jJd.1 h;rw[uJk (yQp hn)]at h;exact qJy (t:= .code ro _ _) (show kJs P (wpL P hk) ops.toList draw ⟨t,ds,w⟩ _ from vJ9 (id:=id) (fun t' w' ha h=>⟨rfl,ha,h⟩) h)
    · exact h.elim
  | .sq x y,c,t,w,K,h=>by
    simp only[zJk]at h;split at h
    · rename_i a b
      refine qJy (t:= .code ro _ _) (qJu _ _ _ (qJx fun e s hs=>?_) (zJw (a:=x) (ro:=ro) (ds:=ds) h));obtain⟨h1,ha,h2⟩:=hs;obtain⟨t',ds',w'⟩:=s;simp only at h1;subst h1;cases e
      case normal=>
        show vJm P hk ro b t' ds' w' fun e t'' w'=>stays (wJl P (a.seq b)) t t''∧K e t'' w';exact xJe (fun e t w h=>⟨zJn (jJx ha) (vJ0 h.1),h.2⟩) (zJw (a:=y) h2)
      all_goals exact⟨rfl,jJx ha,h2⟩
    · exact h.elim
  | .sj l x y,c,t,w,K,h=>by
    simp only[zJk,join]at h;split at h
    · rename_i a b
      refine qJy (t:= .code ro _ _) (qJu _ _ _ (qJx fun e s hs=>?_) (zJw (a:=x) (ro:=ro) (ds:=ds) h));obtain⟨h1,ha,h2⟩:=hs;obtain⟨t',ds',w'⟩:=s;simp only at h1;subst h1;cases e
      case normal=>
        have h2:gd (Nat.beq t'.length n) _:=h2;rw[jJd]at h2;have h3:=oJb h2.2 (getT t');rw[hJu (yQp h2.1) ha]at h3;show vJm P hk ro b t' ds' w' fun e t'' w'=>stays (wJl P (a.seq b)) t t''∧K e t'' w';exact xJe (fun e t w h=>⟨zJn (jJx ha) (vJ0 h.1),h.2⟩) (zJw (a:=y) h3)
      all_goals exact⟨rfl,jJx ha,h2⟩
    · exact h.elim
  | .sk l x y,c,t,w,K,h=>by
    simp only[zJk,join]at h;split at h
    · rename_i a b
      refine qJy (t:= .code ro _ _) (qJu _ _ _ (qJx fun e s hs=>?_) (zJw (a:=x) (ro:=ro) (ds:=ds) h));obtain⟨h1,ha,h2⟩:=hs;obtain⟨t',ds',w'⟩:=s;simp only at h1;subst h1;cases e
      case normal=>
        have h2:gd (Nat.beq t'.length n) _:=h2;rw[jJd]at h2;have h3:=oJb h2.2 (getT t');rw[hJv (yQp h2.1)]at h3;show vJm P hk ro b t' ds' w' fun e t'' w'=>stays (wJl P (a.seq b)) t t''∧K e t'' w';exact xJe (fun e t w h=>⟨zJn (jJx ha) (vJ0 h.1),h.2⟩) (zJw (a:=y) h3)
      all_goals exact⟨rfl,jJx ha,h2⟩
    · exact h.elim
  | .cd x y,c,t,w,K,h=>by
    simp only[zJk]at h;split at h
    · rename_i c a b
      simp only[evK,zJd,bJf,aJ1]at h;obtain⟨v,h1,z,rfl,h2,h3⟩:=h;refine qJy (t:= .code ro _ _) ⟨z,h1,?_⟩;cases z
      · show vJm P hk ro b t ds w fun e t'' w'=>stays (wJl P (.cond c a b)) t t''∧K e t'' w'
        exact xJe (fun e t w h=>⟨vJ0 h.1,h.2⟩) (zJw (a:=y) (h3 rfl))
      · show vJm P hk ro a t ds w fun e t'' w'=>stays (wJl P (.cond c a b)) t t''∧K e t'' w'
        exact xJe (fun e t w h=>⟨jJx h.1,h.2⟩) (zJw (a:=x) (h2 rfl))
    · exact h.elim
  | .bl x,c,t,w,K,h=>by
    simp only[zJk]at h;split at h
    · rename_i id b
      refine qJy (t:= .code ro _ _) (qJu _ _ _ (qJx fun e s hs=>?_) (zJw (a:=x) (ro:=ro) (ds:=ds) h));obtain⟨h1,ha,h2⟩:=hs;obtain⟨t',ds',w'⟩:=s;simp only at h1;subst h1;cases e
      case exit i=>
        simp only[exitK]at h2;simp only[pJg]
        cases hb:Nat.beq i id with
        | true=>rw[hb]at h2;rw[if_pos (yQp hb)];exact⟨rfl,ha,h2⟩
        | false=>rw[hb]at h2;rw[if_neg (fun e=>by subst e;simp at hb)];exact⟨rfl,ha,h2⟩
      all_goals exact⟨rfl,ha,h2⟩
    · exact h.elim
  | .lp l x,c,t,w,K,h=>by
    simp only[zJk]at h;split at h
    · rename_i b
      simp only[jJd]at h;obtain⟨hl,h⟩:=h;refine h (fun vs w=>∀t':Tm,stays (wJl P b) t t'→t'.length=n→uJ0 l t'=vs→vJm P hk ro (.loop b) t' ds w fun e t'' w'=>stays (wJl P b) t t''∧K e t'' w') ?_ t (jJp _ _) (yQp hl) rfl;intro vs w hF t' ha hl hv;subst hv;have h3:=oJb hF (getT t');rw[hJu hl ha]at h3;refine qJy (t:= .code ro _ _) (qJu _ _ _ (qJx fun e s hs=>?_) (zJw (a:=x) (ro:=ro) (ds:=ds) h3));obtain⟨h1,hb,h2⟩:=hs;obtain⟨t'',ds',w'⟩:=s;simp only at h1;subst h1;cases e
      case normal=>
        have h2:Nat.beq t''.length n=true∧_:=h2;exact h2.2 t'' (zJn ha hb) (yQp h2.1) rfl
      all_goals exact⟨rfl,zJn ha hb,h2⟩
    · exact h.elim
theorem uJj {t:Tm}{w:AW}:∀{l:List ResultVar} {K:List AV→Prop},resS P big t w l K→∃vs,jJb P w t l=some vs∧K vs
  | [],K,h=>⟨[],rfl,h⟩
  | .tmp i::r,K,h=>by
    obtain⟨vs,h1,h2⟩:=uJj (l:=r) h;exact⟨_,by simp[jJb,yJs,h1],h2⟩
  | .cell a ty::r,K,h=>by
    simp only[resS,wJa]at h;obtain⟨b,o,h1,h⟩:=h;obtain⟨v,h2,h⟩:=pJx P _ h;obtain⟨vs,h3,h4⟩:=uJj (l:=r) h;exact⟨_,by simp[jJb,yJs,h1,asP,h2,h3],h4⟩
theorem fnG_ok {f:FuncId}{fn:Func}{adv:Adv}{args:List AV}{w:AW}{K:AV→AW→Prop}(hf:P.funcs[f]? =some fn)(hnk:hk f args w=none)(h:fnG P hk big fn adv args w K):Cl P hk f args w K:=by
 unfold fnG at h;split at h
 ·rename_i c hb;refine qJy (t:= .call f args w) ?_;show yJl P (wpL P hk) hk f args w _;unfold yJl;rw[hnk];refine⟨fn,hf,?_⟩;unfold kJv;rw[hb];refine qJu _ _ _ (qJx fun e s hs=>?_) (zJw (ro:=none) (ds:=[]) h);obtain⟨h1,_,h2⟩:=hs;obtain⟨t',ds',w'⟩:=s;simp only at h1;subst h1;cases e
  case normal=>
   obtain⟨vs,h3,h4⟩:=uJj h2;exact⟨.inl rfl,w',vs,rfl,h3,h4⟩
  case ret=>
   obtain⟨vs,h3,h4⟩:=uJj h2;exact⟨.inr rfl,w',vs,rfl,h3,h4⟩
  all_goals exact h2.elim
 ·exact h.elim
theorem qJr {F:(List AV→AW→Prop)→List AV→AW→Prop}(I:Nat→List AV→AW→Prop)
  (step:∀n l w,I n l w→∀R:List AV→AW→Prop,(∀m,m<n→∀l' w',I m l' w'→R l' w')→F R l w) {n:Nat} {l:List AV} {w:AW} (h:I n l w):zJ9 l w F:=by
 intro R hR;have key:∀n l w,I n l w→R l w:=by
  intro n
  induction n using Nat.strongRecOn with
  | ind n ih=>exact fun l w hi=>hR l w (step n l w hi R fun m hm l' w' h'=>ih m hm l' w' h')
 exact key n l w h
theorem zJm {J:List AV→AW→Prop}{F:(List AV→AW→Prop)→Prop}(I:List AV→AW→Prop)(h1:∀l w,I l w→J l w)(h2:∀J:List AV→AW→Prop,(∀l w,I l w→J l w)→F J):join J F:=h2 J h1
theorem qJm {f:FuncId}{fn:Func}{adv:Adv}{args:List AV}{w:AW}{K:AV→AW→Prop}(hf:P.funcs[f]? =some fn)(hnk:hk f args w=none)(h:fnS P hk fn adv args w K):Cl P hk f args w K:=fnG_ok hf hnk h
end
end Go.Sx
/-! A function's code in parts, one behind the other: each part is a formula of its own. -/
namespace Go.Sx
def oJ9:Nat→Code→Code
 | 0,.seq a _=>a
 | m+1,.seq a b=> .seq a (oJ9 m b)
 | _,c=>c
def qQj:Nat→Code→Code
 | 0,.seq _ b=>b
 | m+1,.seq _ b=>qQj m b
 | _,c=>c
def hasS:Nat→Code→Bool
 | 0,.seq _ _=>true
 | m+1,.seq _ b=>hasS m b
 | _,_=>false
def segK(n:Nat)(l:List (Tmp×Sh))(J:List AV→AW→Prop)(K:zJo→Tm→AW→Prop):zJo→Tm→AW→Prop:=
 fun e t w=>aJf e t w (fun t w=>gd (Nat.beq t.length n) (J (uJ0 l t) w)) K
section
variable {P:Program}{hk:Hook}{big:Bool}
theorem spine {ro:Option Nat}:∀{m:Nat} {c:Code} {s:St} {Q:Res→Prop},hasS m c=true→wpL P hk (.code ro (oJ9 m c) s) (exK (wSeq (wpL P hk) ro (qQj m c) Q))→wpL P hk (.code ro c s) Q
  | 0, .seq a b,s,Q,_,h=>qJy (t:= .code ro (.seq a b) s) h
  | m+1, .seq a b,s,Q,hs,h=>by
    have h':=nJm (t:= .code ro (.seq a (oJ9 m b)) s) h;refine qJy (t:= .code ro (.seq a b) s) (qJu _ _ _ (qJx fun e s' hs2=>?_) h');cases e
    case normal=>exact spine (m:=m) hs hs2
    all_goals exact hs2
theorem vQl {ro:Option Nat}{ds:List Nat}{n m:Nat}{adv:Adv}{c:Code}{t:Tm}{w:AW}{l:List (Tmp×Sh)}{J:List AV→AW→Prop}{K:zJo→Tm→AW→Prop}(hs:hasS m c=true)(h:zJk P hk big n adv (oJ9 m c) t w (segK n l J K))
  (hJ:∀vs w,J vs w→onL l vs fun vs=>∀j:Nat→AV,vJm P hk ro (qQj m c) (lJt n l vs j) ds w K):vJm P hk ro c t ds w K:=by
 refine spine hs (qJu _ _ _ (qJx fun e s hs2=>?_) (zJw (ro:=ro) (ds:=ds) h));obtain⟨h1,_,h2⟩:=hs2;obtain⟨t',ds',w'⟩:=s;simp only at h1;subst h1;cases e
 case normal=>
  have h2:gd (Nat.beq t'.length n) (J (uJ0 l t') w'):=h2;obtain⟨hn,h2⟩:=jJd.1 h2;have h3:=oJb (hJ _ _ h2) (getT t');rw[hJv (yQp hn)]at h3;exact h3
 all_goals exact⟨rfl,h2⟩
theorem jJ1 {ro:Option Nat}{ds:List Nat}{n:Nat}{adv:Adv}{c:Code}{t:Tm}{w:AW}{K:zJo→Tm→AW→Prop}(h:zJk P hk big n adv c t w K):vJm P hk ro c t ds w K:=xJe (fun _ _ _ h=>h.2) (zJw h)
theorem vJw {f:FuncId}{fn:Func}{c:Code}{args:List AV}{w:AW}{K:AV→AW→Prop}(hf:P.funcs[f]? =some fn)(hnk:hk f args w=none)(hb:fn.body=some c)
  (h:vJm P hk none c (args++List.replicate (fn.ntmps - args.length) undef) [] w fun e t w=>jJr P big fn e t w K):Cl P hk f args w K:=by
 refine qJy (t:= .call f args w) ?_;show yJl P (wpL P hk) hk f args w _;unfold yJl;rw[hnk];refine⟨fn,hf,?_⟩;unfold kJv;rw[hb];refine qJu _ _ _ (qJx fun e s hs=>?_) h;obtain⟨h1,h2⟩:=hs;obtain⟨t',ds',w'⟩:=s;simp only at h1;subst h1;cases e
 case normal=>
  obtain⟨vs,h3,h4⟩:=uJj h2;exact⟨.inl rfl,w',vs,rfl,h3,h4⟩
 case ret=>
  obtain⟨vs,h3,h4⟩:=uJj h2;exact⟨.inr rfl,w',vs,rfl,h3,h4⟩
 all_goals exact h2.elim
end
end Go.Sx
