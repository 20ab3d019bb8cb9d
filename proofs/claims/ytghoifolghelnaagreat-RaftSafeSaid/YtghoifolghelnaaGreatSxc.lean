/-
 The meaning of code on the abstract machine,as a program (the second part).
 No condition beyond those that each theorem names.
-/
import Derived.Test.YtghoifolghelnaaGreatSxb
set_option linter.unusedVariables false
set_option linter.unusedSimpArgs false
/-! What makes and changes memory, quicker; the quick evaluator. -/
namespace Go.Sx
noncomputable section
section ops
variable(P:Program)
def okF(a:AV):Bool:=AV.rec (motive_1:=fun _=>Bool) (motive_2:=fun _=>Bool) (fun _ _=>true) (fun _=>true) (fun _=>true) (true) (fun _ _=>true) (true) (fun _ _ _ _ _=>true) (true) (fun _=>true) (true) (fun _ _ _ _ _=>true) (fun _=>true) (true) (fun _ _ _=>true) (fun _ _=>false) (fun _ _=>false) (true) (fun _ _ _ _=>true) a 
theorem okF_eq(a:AV):okF a=qJc a:=by cases a<;>rfl
def mJs(l:List AV):Bool:=List.rec (motive:=fun _=>Bool) true (fun a _ ih=>Bool.rec (motive:=fun _=>Bool) false ih (okF a)) l
theorem gJ5:∀l,mJs l=l.all qJc
  | []=>rfl
  | a::l=>by
    show Bool.rec (motive:=fun _=>Bool) false (mJs l) (okF a)=_;rw[gJ5 l,okF_eq,List.all_cons];cases qJc a<;>rfl
def mJp(n:Nat)(l:List AV):Bool:=hasN n l&&!hasN (Nat.succ n) l
theorem bJo {n:Nat}{l:List AV}:mJp n l=true↔l.length=n:=by
 unfold mJp;rw[bJu,bJu];simp;omega
theorem jQy {n:Nat}{l:List AV}:mJp n l=Nat.beq n l.length:=by
  cases h:mJp n l with
  | true=>rw[bJo.1 h,Nat.beq_refl]
  | false=>
    rw[zJ5];intro h';rw[bJo.2 h'.symm]at h;cases h
def mJv(t:TypeId):Option (List AV):=(zJv P t).bind fun z=>qJf (z.cells.all qJc) (some z.cells)
def rep1(v:AV)(n:Nat):List AV:=Nat.rec (motive:=fun _=>List AV) [] (fun _ ih=>v::ih) n
def kQv(n:Nat)(z:List AV):List AV:=match z with
 | [v]=>rep1 v n
 | z=>repl n z
theorem zQ6(n:Nat)(z:List AV):kQv n z=repl n z:=by
  unfold kQv;split
  · rename_i v
    induction n with
    | zero=>rfl
    | succ n ih=>
      show v::rep1 v n=[v]++repl n [v];rw[ih];rfl
  · rfl
def mJd(w:AW)(ev:Ev)(o:Op):Option (AV×AO):=
  match o with
  | .alloc t=>bnd (mJv P t) fun z=>some (.ptr w.size 0,qJ4 w z)
  | .box _ x=>bnd (ev x) fun v=>cond (mJs v.cells) (some (.ptr w.size 0,qJ4 w v.cells)) none
  | .buildSlice t len ps=>bnd (elemOf P t) fun e=>bnd (szOf P e) fun s=>bnd (zJv P e) fun z=>bnd (tJ6 ev ps) fun ps=>
      qJf (Nat.ble (len * s) 65536&&uJp ps&&z.cells.all qJc) ((uJ5 (fun i=>some (i * s,s)) (repl len z.cells) ps).map fun cs=>(.slice w.size 0 len len none,qJ4 w cs))
  | .makeMap _ none=>some (.map w.size, .map [] 0)
  | .makeSlice t l c=>bnd (elemOf P t) fun e=>bnd (ev l) fun l=>bnd (asN l) fun l=>bnd (ev c) fun c=>bnd (asN c) fun c=>bnd (zJv P e) fun z=>bnd (bytesOf P e) fun bytes=>
      qJf (Nat.ble l c&&Nat.ble (c * bytes) (2^47)&&Nat.blt c (2^63)&&z.cells.all qJc) (some (.slice w.size 0 l c none,qJ4 w (kQv c z.cells)))
  | .convert s d x=>bnd (ev x) fun v=>match v with
    | .str b=>bnd (P.underlying s) fun us=>bnd (elemOf P d) fun e=>bnd (P.underlying e) fun ue=>qJf (zJi us&&tdU8 ue) (some (.slice w.size 0 b.length b.length (some 1),qJ4 w (qJk b)))
    | _=>none
  | .range t x=>bnd (ev x) fun v=>(tJ2 P w t v).map fun o=>(.ptr w.size 0,o)
  | _=>none
theorem nJd {w:AW}{ev:Ev}{tmps:Tm}(hev:EvOk ev tmps){o:Op}{x:AV×AO}(h:mJd P w ev o=some x):zJj P w tmps o=some x:=by
 unfold mJd at h;split at h
 ·rename_i t;simp only[qJt,mJv,yQi]at h;obtain⟨z,⟨z',h1,h2⟩,h3⟩:=h;simp only[qJf]at h2;obtain⟨h4,h5⟩:=wJn h2;cases h5;simp only[zJj,h1,Option.bind_some,qJf,h4,cond_true];exact h3
 ·rename_i t y;simp only[qJt,yQi]at h;obtain⟨v,h1,h2⟩:=h;rw[gJ5]at h2;simp only[zJj,hev _ _ h1,Option.bind_some];exact h2
 ·rename_i t len ps;simp only[qJt,yQi]at h;obtain⟨e,h1,s,h2,z,h3,ps',h4,h5⟩:=h;simp only[zJj,h1,h2,h3,rJs hev h4,Option.bind_some];exact h5
 ·exact h
 ·rename_i t l c;simp only[qJt,yQi]at h;obtain⟨e,h1,lv,h2,ln,h3,cv,h4,cn,h5,z,h6,bytes,h7,h8⟩:=h;rw[zQ6]at h8;simp only[zJj,h1,hev _ _ h2,h3,hev _ _ h4,h5,h6,h7,Option.bind_some];exact h8
 ·rename_i s d y;simp only[qJt,yQi]at h;obtain⟨v,h1,h2⟩:=h;simp only[zJj,hev _ _ h1,Option.bind_some];split at h2
  ·simp only[yQi]at h2;obtain⟨us,h3,e,h4,ue,h5,h6⟩:=h2;simp only[h3,h4,h5,Option.bind_some];exact h6
  ·cases h2
 ·rename_i t y;simp only[qJt,yQi]at h;obtain⟨v,h1,h2⟩:=h;simp only[zJj,hev _ _ h1,Option.bind_some];exact h2
 ·cases h
def dJs(w:AW)(t:TypeId)(b o:Nat)(v:AV):Option AW:=
 bnd (szOf P t) fun n=>match v with
  | .agg cs=>cond (mJp n cs&&mJs cs) (putF w b o cs) none
  | .tup _=>none
  | v=>cond (Nat.beq 1 n) (putF w b o [v]) none
theorem eJo {w:AW}{t:TypeId}{b o:Nat}{v:AV}{w':AW}(h:dJs P w t b o v=some w'):dJt P w t b o v=some w':=by
 simp only[dJs,qJt,yQi]at h;obtain⟨n,h1,h2⟩:=h;unfold dJt;rw[h1,Option.bind_some];have one:∀{v:AV},v.cells=[v]→qJc v=true→cond (Nat.beq 1 n) (putF w b o [v]) none=some w'→qJf (Nat.beq v.cells.length n&&v.cells.all qJc) (w.putCells b o v.cells)=some w':=fun hc hok h=>by
  obtain⟨h3,h4⟩:=wJn h;rw[hc];simp only[qJf,gQv,h3,List.all_cons,hok,List.all_nil,Bool.and_self,cond_true];rw[←fJn];exact h4
 cases v
 case agg cs=>
  obtain⟨h3,h4⟩:=wJn h2;simp only[gQ3,bJo,gJ5]at h3;simp only[qJf,AV.cells,h3.1,h3.2,Nat.beq_refl,Bool.and_self,cond_true];rw[←fJn];exact h4
 case tup cs=>cases h2
 all_goals exact one rfl rfl h2
def insF(k v:AV):List (AV×AV)→List (AV×AV)
 | []=>[(k,v)]
 | (a,u)::es=>cond (rJ9 a k) ((k,v)::es) ((a,u)::insF k v es)
theorem aJx(k v:AV):∀es,insF k v es=insM k v es
 | []=>rfl
 | (a,u)::es=>by unfold insF insM;rw[dJb,aJx k v es]
def insK(k v:AV)(es:List (AV×AV)):List (AV×AV):=AV.rec (motive_1:=fun _=>AV→AV→List (AV×AV)→List (AV×AV)) (motive_2:=fun _=>AV→AV→List (AV×AV)→List (AV×AV)) (fun _ n k v es=>insI k v n es) (fun _=>fun k v es=>insF k v es) (fun _=>fun k v es=>insF k v es) (fun k v es=>insF k v es) (fun _ _=>fun k v es=>insF k v es) (fun k v es=>insF k v es) (fun _ _ _ _ _=>fun k v es=>insF k v es) (fun k v es=>insF k v es) (fun _=>fun k v es=>insF k v es) (fun k v es=>insF k v es) (fun _ _ _ _ _=>fun k v es=>insF k v es) (fun _=>fun k v es=>insF k v es) (fun k v es=>insF k v es) (fun _ _ _=>fun k v es=>insF k v es) (fun _ _=>fun k v es=>insF k v es) (fun _ _=>fun k v es=>insF k v es) (fun k v es=>insF k v es) (fun _ _ _ _=>fun k v es=>insF k v es) k k v es
theorem wQb {k v:AV}{es:List (AV×AV)}(h:vJc k es=true):insK k v es=insM k v es:=by
 cases k<;>try exact aJx ..
 exact aJw h
def fJ4(w:AW)(t:TypeId)(m k v:AV):Option (AV×AW):=
 match m with
 | .map r=>bnd (xJk w r) fun es=>bnd ((P.underlying t).bind xJj) fun ke=>cond (oJd P ke.1 k es.1) (some (undef,w.set r (.map (insK k v es.1) (Nat.succ es.2)))) none
 | _=>none
theorem hJl(w:AW)(t:TypeId)(m k v:AV):fJ4 P w t m k v=yJz P w t m k v:=by
  unfold fJ4 yJz;cases m<;>try rfl
  rename_i r;simp only[qJt,rJx]
  cases xJk w r with
  | none=>rfl
  | some es=>
    simp only[Option.bind_some]
    cases(P.underlying t).bind xJj with
    | none=>rfl
    | some ke=>
      simp only[Option.bind_some]
      cases ho:pJ0 P ke.1 k es.1 with
      | false=>rfl
      | true=>
        have:vJc k es.1=true:=by
          have h2:=ho;unfold pJ0 at h2;simp only[gQ3]at h2;rw[gJp];exact h2.2
        rw[wQb this];rfl
def srcF(w:AW)(size:Nat):AV→Option (Nat×List AV)
 | .slice b o n _ _=>bnd (kQw w b o (Nat.mul n size)) fun cs=>some (n,cs)
 | x=>zJp w size x
theorem nJx(w:AW)(size:Nat)(x:AV):srcF w size x=zJp w size x:=by
 unfold srcF;split
 ·rw[qJt,zQ8];unfold zJp;show _=(w.read _ _ _).map _;rename_i b o n c e;show(w.read b o (n * size)).bind _=_;cases w.read b o (n * size)<;>rfl
 ·rfl
def tJk(w:AW)(e:TypeId)(size bytes:Nat)(xt:Option TypeId)(x:AV):Option (Nat×List AV):=
  match xt with
  | none=>srcF w size x
  | some t=>bnd (P.underlying t) fun u=>match kJw u with
    | some _=>madeCells P e bytes x
    | none=>srcF w size x
theorem eJa(w:AW)(e:TypeId)(size bytes:Nat)(xt:Option TypeId)(x:AV):tJk P w e size bytes xt x=appSrc P w e size bytes xt x:=by
  unfold tJk appSrc
  cases xt with
  | none=>exact nJx w size x
  | some t=>
    simp only[qJt,nJx];cases P.underlying t<;>rfl
def wQa(old new:List AV):List AV:=List.casesOn (motive:=fun _=>List AV) old new (fun a l=>(a::l)++new)
theorem xQb(old new:List AV):wQa old new=old++new:=by cases old<;>rfl
def wQc(w:AW)(size:Nat)(b o len cap:Nat)(ex:Option Nat)(n:Nat)(new:List AV):Option (AV×AW):=
  bnd (pJw w b) fun cs=>bnd (nJu cs o (Nat.mul len size)) fun old=>
    match ex with
    | none=>some (.slice w.size 0 (Nat.add len n) (Nat.add len n) (some size),newCells w (wQa old new))
    | some s=>cond (Nat.beq s size&&Nat.beq len cap&&mJp (Nat.add o (Nat.mul len size)) cs)
      (bnd (w.heir b (wQa old new)) fun w'=>some (.slice w.size 0 (Nat.add len n) (Nat.add len n) (some size),w')) none
theorem xQg(w:AW)(size b o len cap:Nat)(ex:Option Nat)(n:Nat)(new:List AV):wQc w size b o len cap ex n new=bJv w size b o len cap ex n new:=by
  unfold wQc bJv;simp only[qJt,bJ4,fJb,jQy,xQb]
  cases w.cells? b with
  | none=>rfl
  | some cs=>
    simp only[Option.bind_some];show(qJz cs o (len * size)).bind _=_;cases qJz cs o (len * size)with
    | none=>rfl
    | some old=>
      cases ex with
      | none=>rfl
      | some s=>
        simp only[Option.bind_some];unfold qJf;cases w.heir b (old++new)<;>rfl
def isSl(a:AV):Bool:=AV.rec (motive_1:=fun _=>Bool) (motive_2:=fun _=>Bool) (fun _ _=>false) (fun _=>false) (fun _=>false) (false) (fun _ _=>false) (false) (fun _ _ _ _ _=>true) (false) (fun _=>false) (false) (fun _ _ _ _ _=>false) (fun _=>false) (false) (fun _ _ _=>false) (fun _ _=>false) (fun _ _=>false) (false) (fun _ _ _ _=>false) a 
def vQr(x:AV)(new:List AV):Bool:=Bool.rec (motive:=fun _=>Bool) (mJs new) true (isSl x)
theorem aJa(x:AV)(new:List AV):vQr x new=fJw x new:=by cases x<;>first | rfl | exact gJ5 new
def tJi(w:AW)(st:TypeId)(xt:Option TypeId)(s x:AV):Option (AV×AW):=
  bnd (elemOf P st) fun e=>bnd (szOf P e) fun size=>bnd (bytesOf P e) fun bytes=>bnd (zJv P e) fun _=>
  bnd (tJk P w e size bytes xt x) fun nn=>
    cond (Nat.beq nn.1 0) (match s with | .nilslice=>some (s,w) | .slice ..=>some (s,w) | _=>none)
    (cond (!Nat.beq size 0&&vQr x nn.2) (match s with
      | .nilslice=>qJf (Nat.ble (nn.1 * bytes) room&&Nat.blt nn.1 (2^62)) (some (.slice w.size 0 nn.1 nn.1 (some size),newCells w nn.2))
      | .slice b o len cap ex=>
        cond (Nat.ble (Nat.add len nn.1) cap) (bnd (putF w b (Nat.add o (Nat.mul len size)) nn.2) fun w'=>some (.slice b o (Nat.add len nn.1) cap ex,w'))
        (qJf (Nat.blt ((2 * (len+nn.1)+1000) * bytes) room&&Nat.blt (len+nn.1) (2^62)) (wQc w size b o len cap ex nn.1 nn.2))
      | _=>none) none)
theorem iJ9(w:AW)(st:TypeId)(xt:Option TypeId)(s x:AV):tJi P w st xt s x=vJj P w st xt s x:=by
  unfold tJi vJj;simp only[qJt,eJa,aJa,xQg,fJn]
  cases elemOf P st with
  | none=>rfl
  | some e=>
    simp only[Option.bind_some]
    cases szOf P e with
    | none=>rfl
    | some size=>
      simp only[Option.bind_some]
      cases bytesOf P e with
      | none=>rfl
      | some bytes=>
        simp only[Option.bind_some]
        cases zJv P e with
        | none=>rfl
        | some z=>
          simp only[Option.bind_some]
          cases appSrc P w e size bytes xt x with
          | none=>rfl
          | some nn=>
            obtain⟨n,new⟩:=nn;simp only[Option.bind_some];unfold qJf;cases s<;>try rfl
            rename_i b o len cap ex;simp only[];show _=cond _ _ (cond _ (cond (Nat.ble (len+n) cap) ((w.putCells b (o+len * size) new).map fun w'=>(AV.slice b o (len+n) cap ex,w')) _) _);have:((w.putCells b (o+len * size) new).map fun w'=>(AV.slice b o (len+n) cap ex,w'))=(w.putCells b (Nat.add o (Nat.mul len size)) new).bind fun w'=>some (AV.slice b o (Nat.add len n) cap ex,w'):=by
              show((w.putCells b (o+len * size) new).map fun w'=>(AV.slice b o (len+n) cap ex,w'))=(w.putCells b (o+len * size) new).bind fun w'=>some (AV.slice b o (len+n) cap ex,w');cases w.putCells b (o+len * size) new<;>rfl
            rw[this];rfl
def wQo(w:AW)(st:TypeId)(dst src:AV):Option (AV×AW):=
  bnd (elemOf P st) fun e=>bnd (szOf P e) fun size=>bnd (srcF w size src) fun nc=>
    match dst with
    | .nilslice=>some (.int .i64 0,w)
    | .slice b o len _ _=>
      cond (Nat.beq (Nat.min nc.1 len) 0) (some (.int .i64 0,w))
      (cond (mJs nc.2) (bnd (putF w b o (iJa (Nat.mul (Nat.min nc.1 len) size) nc.2)) fun w'=>some (.int .i64 (Nat.min nc.1 len),w')) none)
    | _=>none
theorem xQq(w:AW)(st:TypeId)(dst src:AV):wQo P w st dst src=qQm P w st dst src:=by
  unfold wQo qQm;simp only[qJt,nJx,gJ5,fJn,pJ3]
  cases elemOf P st with
  | none=>rfl
  | some e=>
    simp only[Option.bind_some]
    cases szOf P e with
    | none=>rfl
    | some size=>
      simp only[Option.bind_some]
      cases zJp w size src with
      | none=>rfl
      | some nc=>
        obtain⟨n,cells⟩:=nc;simp only[Option.bind_some];cases dst<;>try rfl
        rename_i b o len cap ex;simp only[];unfold qJf;show cond _ _ (cond _ ((w.putCells b o (cells.take (Nat.min n len * size))).bind fun w'=>some (AV.int .i64 (Nat.min n len),w')) none)=_;cases w.putCells b o (cells.take (Nat.min n len * size))<;>rfl
def bJ6(w:AW)(ev:Ev)(b:Builtin)(args:Array Operand)(ts:Array TypeId):Option (AV×AW):=
  bnd (evs ev args.toList) fun vs=>match vs with
    | x::r=>bnd (ts[0]?) fun t=>match r with
      | [y]=>match b with
        | .append=>tJi P w t ts[1]? x y
        | .copy=>wQo P w t x y
        | .delete=>cJj P w t x y
        | _=>none
      | []=>match b with
        | .clear=>(yJg P w t x).map fun w'=>(undef,w')
        | _=>none
      | _=>none
    | []=>none
theorem lJ5 {w:AW}{ev:Ev}{tmps:Tm}(hev:EvOk ev tmps){b:Builtin}{args:Array Operand}{ts:Array TypeId}{x:AV×AW}(h:bJ6 P w ev b args ts=some x):gJz P w tmps b args ts=some x:=by
  unfold bJ6 at h;simp only[qJt,yQi,iJ9,xQq]at h;obtain⟨vs,h1,h2⟩:=h;unfold gJz;rw[pJt hev h1,Option.bind_some]
  cases vs with
  | nil=>cases h2
  | cons x r=>
    simp only[yQi]at h2 ⊢;exact h2
def effE(w:AW)(ev:Ev)(o:Op):Option (AV×AW):=
  match o with
  | .store t a x=>bnd (ev a) fun p=>bnd (ev x) fun v=>match p with
    | .ptr b o=>bnd (dJs P w t b o v) fun w'=>some (undef,w')
    | _=>none
  | .mapUpdate t m k v=>bnd (ev m) fun m=>bnd (ev k) fun k=>bnd (ev v) fun v=>fJ4 P w t m k v
  | .insert t m k v=>bnd (ev m) fun m=>bnd (ev k) fun k=>bnd (ev v) fun v=>fJ4 P w t m k v
  | .call c=>match c.callee with
    | .builtin b=>bJ6 P w ev b c.args c.argTypes
    | _=>none
  | .range t x=>bnd (ev x) (mJ9 P w t)
  | .entry i=>bnd (ev i) fun p=>match p with
    | .ptr b 0=>lJy w b
    | _=>none
  | _=>none
theorem wQk {w:AW}{ev:Ev}{tmps:Tm}(hev:EvOk ev tmps){o:Op}{x:AV×AW}(h:effE P w ev o=some x):vJ4 P w tmps o=some x:=by
 unfold effE at h;split at h
 ·simp only[qJt,yQi]at h;obtain⟨p,h1,v,h2,h3⟩:=h;simp only[vJ4,hev _ _ h1,hev _ _ h2,Option.bind_some];split at h3
  ·simp only[yQi]at h3;obtain⟨w',h4,h5⟩:=h3;simp only[asP,Option.bind_some,eJo P h4,Option.map_some];exact h5
  ·cases h3
 ·simp only[qJt,yQi]at h;obtain⟨m,h1,k,h2,v,h3,h4⟩:=h;simp only[vJ4,hev _ _ h1,hev _ _ h2,hev _ _ h3,Option.bind_some];rw[←hJl];exact h4
 ·simp only[qJt,yQi]at h;obtain⟨m,h1,k,h2,v,h3,h4⟩:=h;simp only[vJ4,hev _ _ h1,hev _ _ h2,hev _ _ h3,Option.bind_some];rw[←hJl];exact h4
 ·simp only[vJ4,wJk];split at h
  ·rename_i hb;simp only[hb];exact lJ5 P hev h
  ·cases h
 ·simp only[qJt,yQi]at h;obtain⟨v,h1,h2⟩:=h;simp only[vJ4,hev _ _ h1,Option.bind_some];exact h2
 ·simp only[qJt,yQi]at h;obtain⟨p,h1,h2⟩:=h;simp only[vJ4,hev _ _ h1,Option.bind_some];split at h2
  ·simp only[asP,Option.bind_some,qJf,Nat.beq_refl,cond_true];exact h2
  ·cases h2
 ·cases h
end ops
end
end Go.Sx
/-! The quick evaluator. -/
namespace Go.Sx
noncomputable section
inductive yJ8 where
 | code (ro:Option Nat) (c:Code) (t:TT) (n:Nat) (ds:List Nat) (w:AW)
 | scope (ro:Option Nat) (b c:Code) (t:TT) (n:Nat) (ds:List Nat) (w:AW)
 | call (f:FuncId) (args:List AV) (w:AW)
 | yield (l:Nat) (args:List AV) (w:AW)
inductive FRes where
 | ex (e:zJo) (t:TT) (ds:List Nat) (w:AW)
 | val (v:AV) (w:AW)
def yJ8.abs:yJ8→Task
 | .code ro c t n ds w=> .code ro c ⟨absT n t,ds,w⟩
 | .scope ro b c t n ds w=> .scope ro b c ⟨absT n t,ds,w⟩
 | .call f args w=> .call f args w
 | .yield l args w=> .yield l args w
def yJ8.num:yJ8→Nat
 | .code _ _ _ n _ _=>n
 | .scope _ _ _ _ n _ _=>n
 | _=>0
def FRes.abs(n:Nat):FRes→Res
 | .ex e t ds w=> .ex e ⟨absT n t,ds,w⟩
 | .val v w=> .val v w
inductive IK where
 | pu | mk | ef | call | next | bad
structure SI where
 g:GD
 k:IK
 dst:Option Tmp
 o:Op
structure FRd where
 i:Nat
 v:AV
 t:TT
def FRd.abs(n:Nat)(r:FRd):Rd:=⟨r.i,r.v,absT n r.t⟩
section ev
variable(P:Program)(fe:yJ8→Option FRes)
def ikOf(o:Op):IK:=
  match o with
  | .next ..=> .next
  | .call c=>match c.callee with
    | .value _=> .call
    | .invoke ..=> .bad
    | .builtin _=>match opKd P o with | .pure=> .pu | .read=> .pu | .make=> .bad | .eff=> .ef
  | o=>match opKd P o with | .pure=> .pu | .read=> .pu | .make=> .mk | .eff=> .ef
def siOf(ops:List Oper)(o:Oper):SI:=⟨gdOf ops o.guard,ikOf P o.op,o.dst,o.op⟩
def zQ0(ops:List Oper):List SI:=ops.map (siOf P ops)
def gdF(t:TT)(n:Nat):GD→Bool
  | .always=>true
  | .never=>false
  | .tmp d want=>match cond (Nat.blt d n) (getR t d) undef with
    | .bool b=>cond b want (!want)
    | _=>false
def sJ9:FRes→Option (AV×AW)
 | .val v w=>some (v,w)
 | _=>none
def dJh(w:AW)(args:List AV):AV→Option (AV×AW)
 | .func f first captured=>bnd (fe (.call f (first++(args++captured)) w)) sJ9
 | .yield l=>bnd (fe (.yield l args w)) sJ9
 | _=>none
def cJg(w:AW)(ev:Ev)(i:Operand)(isStr:Bool):Option (AV×AW):=
  bnd (ev i) fun x=>match x with
  | .ptr b 0=>match w.get b,isStr with
    | some (.strIter s p),true=>some (fJx w b s p)
    | some (.mapIter none _ _ _ _),false=>some (.tup [.bool false],w)
    | some (.mapIter (some m) es c rest _),false=>bnd (xJk w m) fun x=>if x.2=c then
        match rest with
        | []=>some (.tup [.bool false],w)
        | [kv]=>some (.tup [.bool true,kv.1,kv.2],w.set b (.mapIter (some m) es c [] (some (.tup [kv.1,kv.2]))))
        | _=>none
      else none
    | _,_=>none
  | _=>none
def fOp(w:AW)(ev:Ev)(k:IK)(o:Op):Option (AV×AW):=
  match k with
  | .pu=>bnd (uJn P w ev o) fun v=>some (v,w)
  | .mk=>bnd (mJd P w ev o) fun x=>some (x.1,w.push x.2)
  | .ef=>effE P w ev o
  | .call=>match o with
    | .call c=>match c.callee with
      | .value f=>bnd (ev f) fun fv=>bnd (evs ev c.args.toList) fun as=>dJh fe w as fv
      | _=>none
    | _=>none
  | .next=>match o with
    | .next i t=>cJg w ev i t
    | _=>none
  | .bad=>none
def wQf(n:Nat):List SI→TT→AW→Option (TT×AW)
 | [],t,w=>some (t,w)
 | x::r,t,w=>cond (gdF t n x.g) (bnd (fOp P fe w (evF t n) x.k x.o) fun y=>wQf n r (putR t x.dst y.1) y.2) (wQf n r (putR t x.dst undef) w)
def iJ1(ops:List Oper)(n:Nat)(w:AW)(r:FRd):Bool:=
  match nthF r.i ops with
  | some o=>match uJn P w (evF r.t n) o.op with
    | some v=>rJ9 v r.v
    | none=>false
  | none=>false
def pJr(ops:List Oper)(n:Nat)(w:AW):List FRd→Bool
 | []=>true
 | r::rds=>cond (iJ1 P ops n w r) (pJr ops n w rds) false
def fQ(n:Nat):List QI→List FRd→TT→AW→Option (List FRd×TT×AW)
 | [],rds,t,w=>some (rds,t,w)
 | .pu g o::r,rds,t,w=>cond (gdF t n g) (bnd (uJn P w (evF t n) o.op) fun v=>fQ n r rds (putR t o.dst v) w) (fQ n r rds (putR t o.dst undef) w)
 | .rd g o i keep::r,rds,t,w=>cond (gdF t n g) (bnd (uJn P w (evF t n) o.op) fun v=>fQ n r (cond keep (⟨i,v,t⟩::rds) rds) (putR t o.dst v) w) (fQ n r rds (putR t o.dst undef) w)
 | .mk g o::r,rds,t,w=>cond (gdF t n g) (bnd (mJd P w (evF t n) o.op) fun x=>fQ n r rds (putR t o.dst x.1) (w.push x.2)) (fQ n r rds (putR t o.dst undef) w)
def wQg(ops:List Oper)(n:Nat):Plan→List FRd→TT→AW→Option (TT×AW)
 | .bad,_,_,_=>none
 | .done q chk,rds,t,w=>cond (chk || pJr P ops n w rds) (bnd (fQ P n q rds t w) fun x=>cond (!chk || pJr P ops n x.2.2 x.1) (some x.2) none) none
 | .eff q chk g o _ bfi next,rds,t,w=>cond (chk || pJr P ops n w rds) (bnd (fQ P n q rds t w) fun x=>cond (!chk || pJr P ops n x.2.2 x.1)
   (cond (gdF x.2.1 n g) (bnd (fOp P fe x.2.2 (evF x.2.1 n) (ikOf P o.op) o.op) fun y=>wQg ops n next (x.1.filter fun r=>!(tb bfi r.i)) (putR x.2.1 o.dst y.1) y.2)
   (wQg ops n next (x.1.filter fun r=>!(tb bfi r.i)) (putR x.2.1 o.dst undef) x.2.2)) none) none
def wQh(w:AW)(t:TT)(n:Nat):ResultVar→Option AV
 | .tmp i=>cond (Nat.blt i n) (some (getR t i)) none
 | .cell a ty=>cond (Nat.blt a n) (match getR t a with | .ptr b o=>mJo P w ty b o | _=>none) none
def oJu(w:AW)(t:TT)(n:Nat):List ResultVar→Option (List AV)
 | []=>some []
 | r::rs=>bnd (wQh P w t n r) fun v=>bnd (oJu w t n rs) fun vs=>some (v::vs)
def fFin(fn:Func)(n:Nat)(t:TT)(ds:List Nat)(w:AW):Option FRes:=
 bnd (kJj w ds) fun w=>bnd (oJu P w t n fn.results.toList) fun vs=>some (.val (one vs) w)
def fLeave(fn:Func)(n:Nat)(r:FRes):Option FRes:=
  match r with
  | .ex e t ds w=>match e with
    | .normal=>fFin P fn n t ds w
    | .ret=>fFin P fn n t ds w
    | _=>none
  | _=>none
def fEnter(fn:Func)(args:List AV)(w:AW):Option FRes:=
 match fn.body with
 | some c=>bnd (fe (.code none c (ofL 0 args .nil) (Nat.max args.length fn.ntmps) [] w)) (fLeave P fn (Nat.max args.length fn.ntmps))
 | none=>bnd (yJ2 w fn.name args) fun x=>some (.val x.1 x.2)
def fCall(hk:Hook)(f:FuncId)(args:List AV)(w:AW):Option FRes:=
 match hk f args w with
 | some r=>bnd r fun x=>some (.val x.1 x.2)
 | none=>bnd (nthF f P.funcs.toList) fun fn=>fEnter P fe fn args w
def qQd(l:Nat)(r:FRes):Option FRes:=
 match r with
 | .ex e _ _ w=>bnd (zJ4 w l) fun r=>some (.val (.bool (jJ5 e).isNone) (w.set l (LoopA.ob {r with st:=if(jJ5 e).isNone then .ready else .done,pending:=jJ5 e})))
 | _=>none
def fBody(l:Nat)(body:Code)(n:Nat)(r:FRes):Option FRes:=
  match r with
  | .ex .normal t ds w=>bnd (zJ4 w l) fun r=>match r.st with
    | .ready=>bnd (fe (.code (some l) body t n ds (w.set l (LoopA.ob {r with st:= .busy})))) (qQd l)
    | _=>none
  | _=>none
def iJ0:List (Tmp×AV)→TT→TT
 | [],t=>t
 | x::xs,t=>iJ0 xs (setR t x.1 x.2)
def fYield(l:Nat)(args:List AV)(w:AW):Option FRes:=
 bnd (zJ4 w l) fun r=>cond (Nat.beq args.length r.params.length) (bnd (fe (.code (some l) r.assign (iJ0 (r.params.zip args) (ofL 0 r.tmps .nil)) r.tmps.length [] w)) (fBody fe l r.body r.tmps.length)) none
def qQb(ro:Option Nat)(ds:List Nat)(w:AW):Option (Nat×List Nat×AW):=
 match ro with
 | some l=>bnd (zJ4 w l) fun r=>some (r.defers,ds,w)
 | none=>some (w.size,w.size::ds,w.push .deferred)
def xQl(ro:Option Nat)(l:Nat)(t:TT)(n:Nat)(ds:List Nat)(w:AW):Option FRes:=
 bnd (zJ4 w l) fun r=>if r.st= .busy then none else
  match r.pending with
  | none=>some (.ex .normal t ds (w.set l (LoopA.ob {r with st:= .exhausted})))
  | some c=>fe (.code ro c t n ds (w.set l (LoopA.ob {r with st:= .exhausted})))
def fRange(ro:Option Nat)(f:Operand)(params:Array Tmp)(assign body:Code)(t:TT)(n:Nat)(ds:List Nat)(w:AW):Option FRes:=
 bnd (qQb ro ds w) fun x=>bnd (evF t n f) fun fv=>
  bnd (dJh fe (x.2.2.push (LoopA.ob ⟨.ready,none,0,absT n t,params.toList,assign,body,x.1⟩)) [.yield x.2.2.size] fv) fun y=>xQl fe ro x.2.2.size t n x.2.1 y.2
def fSeq(ro:Option Nat)(b:Code)(n:Nat)(r:FRes):Option FRes:=
  match r with
  | .ex e t ds w=>match e with
    | .normal=>fe (.code ro b t n ds w)
    | e=>some (.ex e t ds w)
  | _=>none
def fBlock(id:Nat)(r:FRes):Option FRes:=
  match r with
  | .ex e t ds w=>match e with
    | .exit i=>cond (Nat.beq i id) (some (.ex .normal t ds w)) (some (.ex (.exit i) t ds w))
    | e=>some (.ex e t ds w)
  | _=>none
def fScope(ro:Option Nat)(b:Code)(n:Nat)(r:FRes):Option FRes:=
  match r with
  | .ex e t ds w=>match e with
    | .goto l=>match zJ6 b l with
      | some rest=>fe (.scope ro b rest t n ds w)
      | none=>some (.ex (.goto l) t ds w)
    | e=>some (.ex e t ds w)
  | _=>none
def fCode(ro:Option Nat)(c:Code)(t:TT)(n:Nat)(ds:List Nat)(w:AW):Option FRes:=
  match c with
  | .skip=>some (.ex .normal t ds w)
  | .label _=>some (.ex .normal t ds w)
  | .ret=>some (.ex .ret t ds w)
  | .exit id=>some (.ex (.exit id) t ds w)
  | .goto l=>some (.ex (.goto l) t ds w)
  | .seq a b=>bnd (fe (.code ro a t n ds w)) (fSeq fe ro b n)
  | .cond c a b=>bnd (evF t n c) fun v=>match v with
    | .bool v=>cond v (fe (.code ro a t n ds w)) (fe (.code ro b t n ds w))
    | _=>none
  | .block id b=>bnd (fe (.code ro b t n ds w)) (fBlock id)
  | .loop b=>bnd (fe (.code ro b t n ds w)) (fSeq fe ro (.loop b) n)
  | .region _ ops draw=>cond draw
    (bnd (wQg P fe ops.toList n (lJw P ops.toList) [] t w) fun x=>some (.ex .normal x.1 ds x.2))
    (bnd (wQf P fe n (zQ0 P ops.toList) t w) fun x=>some (.ex .normal x.1 ds x.2))
  | .scope b=>fe (.scope ro b b t n ds w)
  | .rangeFunc f params assign body=>fRange fe ro f params assign body t n ds w
  | .refuse _=>none
def fTask(hk:Hook)(k:yJ8):Option FRes:=
 match k with
 | .code ro c t n ds w=>fCode P fe ro c t n ds w
 | .scope ro b c t n ds w=>bnd (fe (.code ro c t n ds w)) (fScope fe ro b n)
 | .call f args w=>fCall P fe hk f args w
 | .yield l args w=>fYield fe l args w
end ev
def fN(P:Program)(hk:Hook)(n:Nat):yJ8→Option FRes:=
 Nat.rec (motive:=fun _=>yJ8→Option FRes) (fun _=>none) (fun _ ih k=>fTask P ih hk k) n
section sound
variable {P:Program}{fe:yJ8→Option FRes}{rec:Task→(Res→Prop)→Prop}
def wQ3(fe:yJ8→Option FRes)(rec:Task→(Res→Prop)→Prop):Prop:=∀k r,fe k=some r→∀Q:Res→Prop,Q (r.abs k.num)→rec k.abs Q
theorem lJm(t:TT)(n:Nat)(g:GD):gdF t n g=gdOk (absT n t) g:=by
  cases g with
  | always=>rfl
  | never=>rfl
  | tmp d want=>
    simp only[gdF,gdOk]
    cases hb:Nat.blt d n with
    | true=>
      rw[gQm]at hb;rw[gJ7 t hb];simp only[cond_true];cases getR t d<;>try rfl
      rename_i b;cases b<;>cases want<;>rfl
    | false=>
      have:(absT n t)[d]? =none:=yQ6 (by rw[wJ2];exact Nat.le_of_not_lt fun h=>by rw[←gQm,hb]at h;cases h);rw[this];rfl
theorem tJa(h:wQ3 fe rec){w:AW}{args:List AV}{fv:AV}{x:AV×AW}{K:AV→AW→Prop}(he:dJh fe w args fv=some x)(hK:K x.1 x.2):jJl rec w args K fv:=by
 have fin:∀{k:yJ8},bnd (fe k) sJ9=some x→rec k.abs (valK K):=fun {k} ht=>by
  rw[qJt,yQi]at ht;obtain⟨r,hr,hv⟩:=ht
  cases r with
  | ex=>cases hv
  | val v w=>cases hv;exact h _ _ hr _ hK
 cases fv<;>simp only[dJh]at he<;>first | exact fin he | cases he
theorem hJy {w:AW}{ev:Ev}{tmps:Tm}(hev:EvOk ev tmps){i:Operand}{t:Bool}{x:AV×AW}{K:AV→AW→Prop}(he:cJg w ev i t=some x)(hK:K x.1 x.2):vJz w tmps i t K:=by
 unfold cJg at he;unfold vJz;rw[qJt,yQi]at he;obtain⟨y,hy,he⟩:=he;split at he
 ·rename_i b;refine⟨b,hev _ _ hy,?_⟩;split at he
  ·cases he;rename_i hg;simp only[hg];exact hK
  ·cases he;rename_i hg;simp only[hg];exact hK
  ·rename_i mm es c rest last hg;simp only[hg];rw[qJt,yQi]at he;obtain⟨⟨es',c'⟩,hm,he⟩:=he;split at he
   ·rename_i hc;simp only[]at hc;subst hc;refine⟨⟨es',hm⟩,?_⟩;split at he
    ·cases he;exact hK
    ·rename_i kv;cases he;intro kv' rest' hp;have hp:(kv',rest')∈[(kv,[])]:=hp;cases List.mem_singleton.1 hp;exact hK
    ·simp at he
   ·simp at he
  ·simp at he
 ·simp at he
theorem fOp_ok(h:wQ3 fe rec){w:AW}{ev:Ev}{tmps:Tm}(hev:EvOk ev tmps){o:Op}{x:AV×AW}{K:AV→AW→Prop}(he:fOp P fe w ev (ikOf P o) o=some x)(hK:K x.1 x.2):wOp P rec w tmps o K:=by
  have pu:∀{o:Op},(opKd P o= .pure∨opKd P o= .read)→bnd (uJn P w ev o) (fun v=>some (v,w))=some x→qJp P w tmps o=some x:=fun {o} hk he=>by
    rw[qJt,yQi]at he;obtain⟨v,hv,he⟩:=he;cases he;rcases hk with hk | hk
    · exact yJo hk (wJv P hev hv)
    · exact yJn hk (wJv P hev hv)
  have mk:∀{o:Op},opKd P o= .make→bnd (mJd P w ev o) (fun x=>some (x.1,w.push x.2))=some x→qJp P w tmps o=some x:=fun {o} hk he=>by
    rw[qJt,yQi]at he;obtain⟨v,hv,he⟩:=he;cases he;exact yJp hk (nJd P hev hv)
  have ef:∀{o:Op},opKd P o= .eff→effE P w ev o=some x→qJp P w tmps o=some x:=fun {o} hk he=>by
    unfold qJp;rw[hk];exact wQk P hev he
  have simp1:∀{o:Op},fOp P fe w ev (match opKd P o with | .pure=> .pu | .read=> .pu | .make=> .mk | .eff=> .ef) o=some x→qJp P w tmps o=some x:=fun {o} he=>by
    cases hk:opKd P o with
    | pure=>rw[hk]at he;exact pu (.inl hk) he
    | read=>rw[hk]at he;exact pu (.inr hk) he
    | make=>rw[hk]at he;exact mk hk he
    | eff=>rw[hk]at he;exact ef hk he
  cases o
  case next i t=>
    simp only[ikOf,fOp]at he;exact hJy hev he hK
  case call c=>
    simp only[wOp];unfold xJ6
    cases hc:c.callee with
    | value f=>
      simp only[ikOf,hc,fOp,qJt,yQi]at he;obtain⟨fv,hfv,as,has,hcall⟩:=he;exact⟨fv,as,hev _ _ hfv,pJt hev has,tJa h hcall hK⟩
    | invoke r m=>
      simp only[ikOf,hc,fOp]at he;cases he
    | builtin b=>
      simp only[ikOf,hc]at he;refine⟨x.1,x.2,?_,hK⟩;cases hk:opKd P (.call c)with
      | pure=>rw[hk]at he;exact pu (.inl hk) he
      | read=>rw[hk]at he;exact pu (.inr hk) he
      | make=>rw[hk]at he;simp only[fOp]at he;cases he
      | eff=>rw[hk]at he;exact ef hk he
  all_goals exact⟨x.1,x.2,simp1 he,hK⟩
theorem xQk {ops:List Oper}{n:Nat}{w:AW}{r:FRd}(h:iJ1 P ops n w r=true):xJ8 P ops w (r.abs n):=by
 unfold iJ1 at h;rw[uJt]at h;split at h
 ·rename_i o ho;split at h
  ·rename_i v hv;rw[dJb]at h;exact⟨o,ho,by have:=AV.beq_eq _ _ h;subst this;exact wJv P (kJq r.t n) hv⟩
  ·cases h
 ·cases h
theorem wJi {ops:List Oper}{n:Nat}{w:AW}:∀{rds:List FRd},pJr P ops n w rds=true→cJw P ops w (rds.map (FRd.abs n))
  | [],_=>fun r hr=>by cases hr
  | r::rds,h=>by
    unfold pJr at h
    cases hs:iJ1 P ops n w r with
    | false=>rw[hs]at h;cases h
    | true=>
      rw[hs]at h;intro x hx;rcases yQw.1 hx with rfl | hx
      · exact xQk hs
      · exact wJi h x hx
theorem mJr {n:Nat}{K:List Rd→Tm→AW→Prop}:∀{q:List QI} {rds:List FRd} {t:TT} {w:AW} {x:List FRd×TT×AW},fQ P n q rds t w=some x→K (x.1.map (FRd.abs n)) (absT n x.2.1) x.2.2→wQ P q (rds.map (FRd.abs n)) (absT n t) w K
  | [],_,_,_,_,he,hK=>by simp only[fQ,yQx]at he;subst he;exact hK
  | .pu g o::r,rds,t,w,x,he,hK=>by
    simp only[fQ,lJm]at he;simp only[wQ]
    cases hg:gdOk (absT n t) g with
    | true=>
      rw[hg]at he;simp only[cond_true,qJt,yQi]at he;obtain⟨v,hv,he⟩:=he;refine⟨v,wJv P (kJq t n) hv,?_⟩;rw[←xJh];exact mJr he hK
    | false=>rw[hg]at he;rw[←xJh];exact mJr he hK
  | .rd g o i keep::r,rds,t,w,x,he,hK=>by
    simp only[fQ,lJm]at he;simp only[wQ]
    cases hg:gdOk (absT n t) g with
    | true=>
      rw[hg]at he;simp only[cond_true,qJt,yQi]at he;obtain⟨v,hv,he⟩:=he;refine⟨v,wJv P (kJq t n) hv,?_⟩;rw[←xJh];have:=mJr he hK;cases keep<;>exact this
    | false=>rw[hg]at he;rw[←xJh];exact mJr he hK
  | .mk g o::r,rds,t,w,x,he,hK=>by
    simp only[fQ,lJm]at he;simp only[wQ]
    cases hg:gdOk (absT n t) g with
    | true=>
      rw[hg]at he;simp only[cond_true,qJt,yQi]at he;obtain⟨v,hv,he⟩:=he;refine⟨v,nJd P (kJq t n) hv,?_⟩;rw[←xJh];exact mJr he hK
    | false=>rw[hg]at he;rw[←xJh];exact mJr he hK
theorem hJt {n bfi:Nat}(l:List FRd):(l.filter fun r=>!(tb bfi r.i)).map (FRd.abs n)=(l.map (FRd.abs n)).filter fun r=>!(bfi.testBit r.i):=by
 rw[List.filter_map];congr 1;apply List.filter_congr;intro r _;simp only[Function.comp,FRd.abs,eJl]
theorem xQ6(l:List AV)(n:Nat):absT (Nat.max l.length n) (ofL 0 l .nil)=l++List.replicate (n - l.length) undef:=zQl l n
theorem xQ5(l:List AV):absT l.length (ofL 0 l .nil)=l:=by
 have:=zQl l 0;have e:Nat.max l.length 0=l.length:=Nat.max_zero _;rw[e]at this;simpa using this
theorem lJv(n:Nat):∀(l:List (Tmp×AV)) (t:TT),absT n (iJ0 l t)=zJx l (absT n t)
 | [],t=>rfl
 | x::xs,t=>by unfold iJ0 zJx;rw[lJv n xs,oJ0]
end sound
end
end Go.Sx
/-! An evaluator in continuations: what stands in the code is looked at once; each step is small. -/
namespace Go.Sx
noncomputable section
def ifB(c x y:Bool):Bool:=Bool.rec (motive:=fun _=>Bool) y x c
theorem vQ2(c x y:Bool):ifB c x y=cond c x y:=by cases c<;>rfl
def optB {α:Type}(x:Option α)(k:α→Bool):Bool:=Option.rec (motive:=fun _=>Bool) false (fun a=>k a) x
@[simp] theorem optB_none {α:Type}(k:α→Bool):optB none k=false:=rfl
@[simp] theorem kJ8 {α:Type}(a:α)(k:α→Bool):optB (some a) k=k a:=rfl
theorem qJ2 {α β:Type}(x:Option α)(f:α→Option β)(k:β→Bool):optB (bnd x f) k=optB x fun a=>optB (f a) k:=by cases x<;>rfl
theorem kJ9 {α:Type}(c:Bool)(x:Option α)(k:α→Bool):optB (cond c x none) k=ifB c (optB x k) false:=by cases c<;>rfl
theorem qJv {α:Type}{x:Option α}{k:α→Bool}(h:optB x k=true):∃a,x=some a∧k a=true:=by
 cases x with
 | none=>cases h
 | some a=>exact⟨a,rfl,h⟩
/-! ### Trees -/
def kGet {α:Type}(t:Tr α)(b:Nat):Option α:=
 Tr.rec (motive:=fun _=>Nat→Option α) (fun _=>none)
  (fun _ v _ gl gr b=>Bool.rec (motive:=fun _=>Option α) (Bool.rec (motive:=fun _=>Option α) (gr (Nat.sub (Nat.div b 2) 1)) (gl (Nat.div b 2)) (Nat.beq (Nat.mod b 2) 1)) v (Nat.beq b 0)) t b
theorem pJb {α:Type}(c:Bool)(x y:α):Bool.rec (motive:=fun _=>α) y x c=cond c x y:=by cases c<;>rfl
theorem cJa {α:Type}:∀(t:Tr α) (b:Nat),kGet t b=t.get b
  | .nil,b=>by rw[Tr.get_nil];rfl
  | .nd l v r,b=>by
    rw[Tr.get_nd,←cJa l,←cJa r];show Bool.rec (motive:=fun _=>Option α) (Bool.rec (motive:=fun _=>Option α) (kGet r (b / 2 - 1)) (kGet l (b / 2)) (Nat.beq (b % 2) 1)) v (Nat.beq b 0)=_;rw[pJb,pJb];by_cases h0:b=0
    · subst h0;rfl
    · rw[zJ5 h0,if_neg h0]
      by_cases h1:b % 2=1
      · rw[h1];rfl
      · rw[zJ5 h1,if_neg h1];rfl
def kSet {α:Type}(o:α)(t:Tr α)(b:Nat):Tr α:=
 Tr.rec (motive:=fun _=>Nat→Tr α) (fun b=>Tr.setN o b .nil b)
  (fun l v r sl sr b=>Bool.rec (motive:=fun _=>Tr α) (Bool.rec (motive:=fun _=>Tr α) (.nd l v (sr (Nat.sub (Nat.div b 2) 1))) (.nd (sl (Nat.div b 2)) v r) (Nat.beq (Nat.mod b 2) 1)) (.nd l (some o) r) (Nat.beq b 0)) t b
theorem tJw {α:Type}(o:α)(n b:Nat):Tr.setN o (n+1) .nil b=cond (Nat.beq b 0) (.nd .nil (some o) .nil) (cond (Nat.beq (b % 2) 1) (.nd (Tr.setN o n .nil (b / 2)) none .nil) (.nd .nil none (Tr.setN o n .nil (b / 2 - 1)))):=rfl
theorem nJ8 {α:Type}(o:α)(n b:Nat)(l:Tr α)(v:Option α)(r:Tr α):Tr.setN o (n+1) (.nd l v r) b=cond (Nat.beq b 0) (.nd l (some o) r) (cond (Nat.beq (b % 2) 1) (.nd (Tr.setN o n l (b / 2)) v r) (.nd l v (Tr.setN o n r (b / 2 - 1)))):=rfl
theorem dJy {α:Type}(o:α):∀(n m:Nat) (t:Tr α) (b:Nat),b≤n→b≤m→Tr.setN o n t b=Tr.setN o m t b:=by
  intro n
  induction n with
  | zero=>
    intro m t b hn hm;have:b=0:=by omega
    subst this;cases m<;>cases t<;>rfl
  | succ n ih=>
    intro m t b hn hm
    cases m with
    | zero=>
      have:b=0:=by omega
      subst this;cases t<;>rfl
    | succ m=>
      by_cases h0:b=0
      · subst h0;cases t<;>rfl
      · cases t with
        | nil=>rw[tJw,tJw,ih m .nil (b / 2) (by omega) (by omega),ih m .nil (b / 2 - 1) (by omega) (by omega)]
        | nd l v r=>rw[nJ8,nJ8,ih m l (b / 2) (by omega) (by omega),ih m r (b / 2 - 1) (by omega) (by omega)]
theorem fJ8 {α:Type}(o:α):∀(t:Tr α) (b:Nat),kSet o t b=Tr.setN o b t b
  | .nil,b=>rfl
  | .nd l v r,b=>by
    show Bool.rec (motive:=fun _=>Tr α) (Bool.rec (motive:=fun _=>Tr α) (.nd l v (kSet o r (b / 2 - 1))) (.nd (kSet o l (b / 2)) v r) (Nat.beq (b % 2) 1)) (.nd l (some o) r) (Nat.beq b 0)=_;rw[pJb,pJb,fJ8 o l,fJ8 o r]
    cases b with
    | zero=>rfl
    | succ b=>rw[nJ8,dJy o b ((b+1) / 2) l _ (by omega) (by omega),dJy o b ((b+1) / 2 - 1) r _ (by omega) (by omega)]
def jQ9(w:AW)(b:Nat)(o:AO):AW:=⟨w.size,kSet o w.tr b⟩
theorem jQ8(w:AW)(b:Nat)(o:AO):jQ9 w b o=w.set b o:=by unfold jQ9 AW.set;rw[fJ8]
def lJb(w:AW)(o:AO):AW:=⟨Nat.succ w.size,kSet o w.tr w.size⟩
theorem lJa(w:AW)(o:AO):lJb w o=w.push o:=by unfold lJb AW.push;rw[fJ8]
structure KSel(α:Type)where
 f:N16 α→α
structure KUpd(α:Type)where
 f:α→N16 α→N16 α
def selC {α:Type}(d:Nat):KSel α:=match d with
 | 0=>⟨fun x=>x.c0⟩
 | 1=>⟨fun x=>x.c1⟩
 | 2=>⟨fun x=>x.c2⟩
 | 3=>⟨fun x=>x.c3⟩
 | 4=>⟨fun x=>x.c4⟩
 | 5=>⟨fun x=>x.c5⟩
 | 6=>⟨fun x=>x.c6⟩
 | 7=>⟨fun x=>x.c7⟩
 | 8=>⟨fun x=>x.c8⟩
 | 9=>⟨fun x=>x.c9⟩
 | 10=>⟨fun x=>x.ca⟩
 | 11=>⟨fun x=>x.cb⟩
 | 12=>⟨fun x=>x.cc⟩
 | 13=>⟨fun x=>x.cd⟩
 | 14=>⟨fun x=>x.ce⟩
 | _=>⟨fun x=>x.cf⟩
def updC {α:Type}(d:Nat):KUpd α:=match d with
 | 0=>⟨fun v x=>N16.rec (motive:=fun _=>N16 α) (fun _ c1 c2 c3 c4 c5 c6 c7 c8 c9 ca cb cc cd ce cf=>⟨v,c1,c2,c3,c4,c5,c6,c7,c8,c9,ca,cb,cc,cd,ce,cf⟩) x⟩
 | 1=>⟨fun v x=>N16.rec (motive:=fun _=>N16 α) (fun c0 _ c2 c3 c4 c5 c6 c7 c8 c9 ca cb cc cd ce cf=>⟨c0,v,c2,c3,c4,c5,c6,c7,c8,c9,ca,cb,cc,cd,ce,cf⟩) x⟩
 | 2=>⟨fun v x=>N16.rec (motive:=fun _=>N16 α) (fun c0 c1 _ c3 c4 c5 c6 c7 c8 c9 ca cb cc cd ce cf=>⟨c0,c1,v,c3,c4,c5,c6,c7,c8,c9,ca,cb,cc,cd,ce,cf⟩) x⟩
 | 3=>⟨fun v x=>N16.rec (motive:=fun _=>N16 α) (fun c0 c1 c2 _ c4 c5 c6 c7 c8 c9 ca cb cc cd ce cf=>⟨c0,c1,c2,v,c4,c5,c6,c7,c8,c9,ca,cb,cc,cd,ce,cf⟩) x⟩
 | 4=>⟨fun v x=>N16.rec (motive:=fun _=>N16 α) (fun c0 c1 c2 c3 _ c5 c6 c7 c8 c9 ca cb cc cd ce cf=>⟨c0,c1,c2,c3,v,c5,c6,c7,c8,c9,ca,cb,cc,cd,ce,cf⟩) x⟩
 | 5=>⟨fun v x=>N16.rec (motive:=fun _=>N16 α) (fun c0 c1 c2 c3 c4 _ c6 c7 c8 c9 ca cb cc cd ce cf=>⟨c0,c1,c2,c3,c4,v,c6,c7,c8,c9,ca,cb,cc,cd,ce,cf⟩) x⟩
 | 6=>⟨fun v x=>N16.rec (motive:=fun _=>N16 α) (fun c0 c1 c2 c3 c4 c5 _ c7 c8 c9 ca cb cc cd ce cf=>⟨c0,c1,c2,c3,c4,c5,v,c7,c8,c9,ca,cb,cc,cd,ce,cf⟩) x⟩
 | 7=>⟨fun v x=>N16.rec (motive:=fun _=>N16 α) (fun c0 c1 c2 c3 c4 c5 c6 _ c8 c9 ca cb cc cd ce cf=>⟨c0,c1,c2,c3,c4,c5,c6,v,c8,c9,ca,cb,cc,cd,ce,cf⟩) x⟩
 | 8=>⟨fun v x=>N16.rec (motive:=fun _=>N16 α) (fun c0 c1 c2 c3 c4 c5 c6 c7 _ c9 ca cb cc cd ce cf=>⟨c0,c1,c2,c3,c4,c5,c6,c7,v,c9,ca,cb,cc,cd,ce,cf⟩) x⟩
 | 9=>⟨fun v x=>N16.rec (motive:=fun _=>N16 α) (fun c0 c1 c2 c3 c4 c5 c6 c7 c8 _ ca cb cc cd ce cf=>⟨c0,c1,c2,c3,c4,c5,c6,c7,c8,v,ca,cb,cc,cd,ce,cf⟩) x⟩
 | 10=>⟨fun v x=>N16.rec (motive:=fun _=>N16 α) (fun c0 c1 c2 c3 c4 c5 c6 c7 c8 c9 _ cb cc cd ce cf=>⟨c0,c1,c2,c3,c4,c5,c6,c7,c8,c9,v,cb,cc,cd,ce,cf⟩) x⟩
 | 11=>⟨fun v x=>N16.rec (motive:=fun _=>N16 α) (fun c0 c1 c2 c3 c4 c5 c6 c7 c8 c9 ca _ cc cd ce cf=>⟨c0,c1,c2,c3,c4,c5,c6,c7,c8,c9,ca,v,cc,cd,ce,cf⟩) x⟩
 | 12=>⟨fun v x=>N16.rec (motive:=fun _=>N16 α) (fun c0 c1 c2 c3 c4 c5 c6 c7 c8 c9 ca cb _ cd ce cf=>⟨c0,c1,c2,c3,c4,c5,c6,c7,c8,c9,ca,cb,v,cd,ce,cf⟩) x⟩
 | 13=>⟨fun v x=>N16.rec (motive:=fun _=>N16 α) (fun c0 c1 c2 c3 c4 c5 c6 c7 c8 c9 ca cb cc _ ce cf=>⟨c0,c1,c2,c3,c4,c5,c6,c7,c8,c9,ca,cb,cc,v,ce,cf⟩) x⟩
 | 14=>⟨fun v x=>N16.rec (motive:=fun _=>N16 α) (fun c0 c1 c2 c3 c4 c5 c6 c7 c8 c9 ca cb cc cd _ cf=>⟨c0,c1,c2,c3,c4,c5,c6,c7,c8,c9,ca,cb,cc,cd,v,cf⟩) x⟩
 | _=>⟨fun v x=>N16.rec (motive:=fun _=>N16 α) (fun c0 c1 c2 c3 c4 c5 c6 c7 c8 c9 ca cb cc cd ce _=>⟨c0,c1,c2,c3,c4,c5,c6,c7,c8,c9,ca,cb,cc,cd,ce,v⟩) x⟩
theorem eJy {α:Type}(d:Nat)(x:N16 α):(selC d).f x=x.sel d:=match d with
 | 0=>rfl
 | 1=>rfl
 | 2=>rfl
 | 3=>rfl
 | 4=>rfl
 | 5=>rfl
 | 6=>rfl
 | 7=>rfl
 | 8=>rfl
 | 9=>rfl
 | 10=>rfl
 | 11=>rfl
 | 12=>rfl
 | 13=>rfl
 | 14=>rfl
 | _+15=>rfl
theorem kQk {α:Type}(d:Nat)(v:α)(x:N16 α):(updC d).f v x=x.upd d v:=match d with
 | 0=>rfl
 | 1=>rfl
 | 2=>rfl
 | 3=>rfl
 | 4=>rfl
 | 5=>rfl
 | 6=>rfl
 | 7=>rfl
 | 8=>rfl
 | 9=>rfl
 | 10=>rfl
 | 11=>rfl
 | 12=>rfl
 | 13=>rfl
 | 14=>rfl
 | _+15=>rfl
structure KGt where
 get:TT→AV
structure KSt where
 set:TT→AV→TT
def getC(i:Nat):KGt:=match Nat.blt i 256 with
  | true=>match(selC (i % 16):KSel AV),(selC (i / 16):KSel (N16 AV))with
    | ⟨f⟩,⟨g⟩=>⟨fun t=>f (g t.lo)⟩
  | false=>⟨fun t=>getR t i⟩
def setC(i:Nat):KSt:=match Nat.blt i 256 with
  | true=>match(updC (i / 16):KUpd (N16 AV)),(updC (i % 16):KUpd AV),(selC (i / 16):KSel (N16 AV))with
    | ⟨u⟩,⟨u2⟩,⟨g⟩=>⟨fun t v=>⟨u (u2 v (g t.lo)) t.lo,t.hi⟩⟩
  | false=>⟨fun t v=>setR t i v⟩
theorem sJ7(i:Nat)(t:TT):(getC i).get t=getR t i:=by
  unfold getC getR
  cases h:Nat.blt i 256 with
  | true=>
    show(selC (i % 16)).f ((selC (i / 16)).f t.lo)=_;simp only[eJy,cond_true]
  | false=>simp only[getR,h]
theorem kQs(i:Nat)(t:TT)(v:AV):(setC i).set t v=setR t i v:=by
  unfold setC setR
  cases h:Nat.blt i 256 with
  | true=>
    show(⟨(updC (i / 16)).f ((updC (i % 16)).f v ((selC (i / 16)).f t.lo)) t.lo,t.hi⟩:TT)=_;simp only[eJy,kQk,cond_true]
  | false=>simp only[setR,h]
def putC(dst:Option Tmp):KSt:=match dst with
 | none=>⟨fun t _=>t⟩
 | some d=>setC d
theorem yJt(dst:Option Tmp)(t:TT)(v:AV):(putC dst).set t v=putR t dst v:=by
 cases dst with
 | none=>rfl
 | some d=>exact kQs d t v
/-! ### Looking at values -/
def bJ9(v:AV)(f:IntKind→Int→Bool)(g:Bool):Bool:=
 AV.rec (motive_1:=fun _=>(IntKind→Int→Bool)→Bool→Bool) (motive_2:=fun _=>(IntKind→Int→Bool)→Bool→Bool) (fun k n f _=>f k n) (fun _=>fun _ g=>g) (fun _=>fun _ g=>g) (fun _ g=>g) (fun _ _=>fun _ g=>g) (fun _ g=>g) (fun _ _ _ _ _=>fun _ g=>g) (fun _ g=>g) (fun _=>fun _ g=>g) (fun _ g=>g) (fun _ _ _ _ _=>fun _ g=>g) (fun _=>fun _ g=>g) (fun _ g=>g) (fun _ _ _=>fun _ g=>g) (fun _ _=>fun _ g=>g) (fun _ _=>fun _ g=>g) (fun _ g=>g) (fun _ _ _ _=>fun _ g=>g) v f g
def xQy(v:AV)(f:Nat→Bool):Bool:=
 AV.rec (motive_1:=fun _=>(Nat→Bool)→Bool) (motive_2:=fun _=>(Nat→Bool)→Bool) (fun _ n f=>Int.rec (motive:=fun _=>(Nat→Bool)→Bool) (fun m f=>f m) (fun _ _=>false) n f) (fun _=>fun _=>false) (fun _=>fun _=>false) (fun _=>false) (fun _ _=>fun _=>false) (fun _=>false) (fun _ _ _ _ _=>fun _=>false) (fun _=>false) (fun _=>fun _=>false) (fun _=>false) (fun _ _ _ _ _=>fun _=>false) (fun _=>fun _=>false) (fun _=>false) (fun _ _ _=>fun _=>false) (fun _ _=>fun _=>false) (fun _ _=>fun _=>false) (fun _=>false) (fun _ _ _ _=>fun _=>false) v f
def oJx(v:AV)(f:Nat→Nat→Bool):Bool:=
 AV.rec (motive_1:=fun _=>(Nat→Nat→Bool)→Bool) (motive_2:=fun _=>(Nat→Nat→Bool)→Bool) (fun _ _=>fun _=>false) (fun _=>fun _=>false) (fun _=>fun _=>false) (fun _=>false) (fun b o f=>f b o) (fun _=>false) (fun _ _ _ _ _=>fun _=>false) (fun _=>false) (fun _=>fun _=>false) (fun _=>false) (fun _ _ _ _ _=>fun _=>false) (fun _=>fun _=>false) (fun _=>false) (fun _ _ _=>fun _=>false) (fun _ _=>fun _=>false) (fun _ _=>fun _=>false) (fun _=>false) (fun _ _ _ _=>fun _=>false) v f
def qQ0(v:AV)(f:Bool→Bool):Bool:=
 AV.rec (motive_1:=fun _=>(Bool→Bool)→Bool) (motive_2:=fun _=>(Bool→Bool)→Bool) (fun _ _=>fun _=>false) (fun b f=>f b) (fun _=>fun _=>false) (fun _=>false) (fun _ _=>fun _=>false) (fun _=>false) (fun _ _ _ _ _=>fun _=>false) (fun _=>false) (fun _=>fun _=>false) (fun _=>false) (fun _ _ _ _ _=>fun _=>false) (fun _=>fun _=>false) (fun _=>false) (fun _ _ _=>fun _=>false) (fun _ _=>fun _=>false) (fun _ _=>fun _=>false) (fun _=>false) (fun _ _ _ _=>fun _=>false) v f
def dJj(v:AV)(f:Bool→Bool)(g:Bool):Bool:=
 AV.rec (motive_1:=fun _=>(Bool→Bool)→Bool→Bool) (motive_2:=fun _=>(Bool→Bool)→Bool→Bool) (fun _ _=>fun _ g=>g) (fun b f _=>f b) (fun _=>fun _ g=>g) (fun _ g=>g) (fun _ _=>fun _ g=>g) (fun _ g=>g) (fun _ _ _ _ _=>fun _ g=>g) (fun _ g=>g) (fun _=>fun _ g=>g) (fun _ g=>g) (fun _ _ _ _ _=>fun _ g=>g) (fun _=>fun _ g=>g) (fun _ g=>g) (fun _ _ _=>fun _ g=>g) (fun _ _=>fun _ g=>g) (fun _ _=>fun _ g=>g) (fun _ g=>g) (fun _ _ _ _=>fun _ g=>g) v f g
def asTupK(v:AV)(f:List AV→Bool):Bool:=
 AV.rec (motive_1:=fun _=>(List AV→Bool)→Bool) (motive_2:=fun _=>(List AV→Bool)→Bool) (fun _ _=>fun _=>false) (fun _=>fun _=>false) (fun _=>fun _=>false) (fun _=>false) (fun _ _=>fun _=>false) (fun _=>false) (fun _ _ _ _ _=>fun _=>false) (fun _=>false) (fun _=>fun _=>false) (fun _=>false) (fun _ _ _ _ _=>fun _=>false) (fun _=>fun _=>false) (fun _=>false) (fun _ _ _=>fun _=>false) (fun _ _=>fun _=>false) (fun vs _ f=>f vs) (fun _=>false) (fun _ _ _ _=>fun _=>false) v f
def kQc(v:AV)(f:List AV→Bool):Bool:=
 AV.rec (motive_1:=fun _=>(List AV→Bool)→Bool) (motive_2:=fun _=>(List AV→Bool)→Bool) (fun _ _=>fun _=>false) (fun _=>fun _=>false) (fun _=>fun _=>false) (fun _=>false) (fun _ _=>fun _=>false) (fun _=>false) (fun _ _ _ _ _=>fun _=>false) (fun _=>false) (fun _=>fun _=>false) (fun _=>false) (fun _ _ _ _ _=>fun _=>false) (fun _=>fun _=>false) (fun _=>false) (fun _ _ _=>fun _=>false) (fun vs _ f=>f vs) (fun _ _=>fun _=>false) (fun _=>false) (fun _ _ _ _=>fun _=>false) v f
def xQx(v:AV)(f:Nat→Nat→Nat→Bool)(g:Nat→Nat→Bool):Bool:=
 AV.rec (motive_1:=fun _=>(Nat→Nat→Nat→Bool)→(Nat→Nat→Bool)→Bool) (motive_2:=fun _=>(Nat→Nat→Nat→Bool)→(Nat→Nat→Bool)→Bool) (fun _ _=>fun _ _=>false) (fun _=>fun _ _=>false) (fun _=>fun _ _=>false) (fun _ _=>false) (fun b o _ g=>g b o) (fun _ _=>false) (fun b o len _ _ f _=>f b o len) (fun _ _=>false) (fun _=>fun _ _=>false) (fun _ _=>false) (fun _ _ _ _ _=>fun _ _=>false) (fun _=>fun _ _=>false) (fun _ _=>false) (fun _ _ _=>fun _ _=>false) (fun _ _=>fun _ _=>false) (fun _ _=>fun _ _=>false) (fun _ _=>false) (fun _ _ _ _=>fun _ _=>false) v f g
def wQz(v:AV)(f:Nat→Bool)(g:Bool):Bool:=
 AV.rec (motive_1:=fun _=>(Nat→Bool)→Bool→Bool) (motive_2:=fun _=>(Nat→Bool)→Bool→Bool) (fun _ _=>fun _ g=>g) (fun _=>fun _ g=>g) (fun _=>fun _ g=>g) (fun _ g=>g) (fun _ _=>fun _ g=>g) (fun _ g=>g) (fun _ _ len _ _ f _=>f len) (fun _ g=>g) (fun _=>fun _ g=>g) (fun _ g=>g) (fun _ _ _ _ _=>fun _ g=>g) (fun _=>fun _ g=>g) (fun _ g=>g) (fun _ _ _=>fun _ g=>g) (fun _ _=>fun _ g=>g) (fun _ _=>fun _ g=>g) (fun _ g=>g) (fun _ _ _ _=>fun _ g=>g) v f g
def qQz(v:AV)(f:List AV→Bool)(g:Bool):Bool:=
 AV.rec (motive_1:=fun _=>(List AV→Bool)→Bool→Bool) (motive_2:=fun _=>(List AV→Bool)→Bool→Bool) (fun _ _=>fun _ g=>g) (fun _=>fun _ g=>g) (fun _=>fun _ g=>g) (fun _ g=>g) (fun _ _=>fun _ g=>g) (fun _ g=>g) (fun _ _ _ _ _=>fun _ g=>g) (fun _ g=>g) (fun _=>fun _ g=>g) (fun _ g=>g) (fun _ _ _ _ _=>fun _ g=>g) (fun _=>fun _ g=>g) (fun _ g=>g) (fun _ _ _=>fun _ g=>g) (fun cs _ f _=>f cs) (fun _ _ _ _=>false) (fun _ g=>g) (fun _ _ _ _=>fun _ g=>g) v f g
def wQ0(v:AV)(f:FuncId→List AV→List AV→Bool)(g:Nat→Bool):Bool:=
 AV.rec (motive_1:=fun _=>(FuncId→List AV→List AV→Bool)→(Nat→Bool)→Bool) (motive_2:=fun _=>(FuncId→List AV→List AV→Bool)→(Nat→Bool)→Bool) (fun _ _=>fun _ _=>false) (fun _=>fun _ _=>false) (fun _=>fun _ _=>false) (fun _ _=>false) (fun _ _=>fun _ _=>false) (fun _ _=>false) (fun _ _ _ _ _=>fun _ _=>false) (fun _ _=>false) (fun _=>fun _ _=>false) (fun _ _=>false) (fun x a b _ _ f _=>f x a b) (fun l _ g=>g l) (fun _ _=>false) (fun _ _ _=>fun _ _=>false) (fun _ _=>fun _ _=>false) (fun _ _=>fun _ _=>false) (fun _ _=>false) (fun _ _ _ _=>fun _ _=>false) v f g
/-! ### Memory -/
def kNth {α:Type}(n:Nat)(l:List α)(k:α→Bool):Bool:=
 Nat.rec (motive:=fun _=>List α→(α→Bool)→Bool)
  (fun l=>List.rec (motive:=fun _=>(α→Bool)→Bool) (fun _=>false) (fun a _ _ k=>k a) l)
  (fun _ ih l=>List.rec (motive:=fun _=>(α→Bool)→Bool) (fun _=>false) (fun _ t _ k=>ih t k) l) n l k
theorem fJ9 {α:Type}:∀(n:Nat) (l:List α) (k:α→Bool),kNth n l k=optB (nthF n l) k
 | 0,[],_=>rfl
 | 0,_::_,_=>rfl
 | _+1,[],_=>rfl
 | n+1,_::l,k=>fJ9 n l k
def kQ8(o:AO)(k:List AV→Bool)(b:Nat)(w:AW):Bool:=
 AO.rec (motive:=fun _=>(List AV→Bool)→Nat→AW→Bool) (fun cs f own d k b w=>ifB (Nat.beq f b) (ifB d (ifB (Nat.beq own b) (k cs) false) (k cs)) (optB (w.cells? b) k)) (fun _ _=>fun _ _ _=>false) (fun _ _ _ _ _ _ _ _=>fun _ _ _=>false) (fun _ _ _=>false) (fun _ _ _ _ _=>fun _ _ _=>false) (fun _ _=>fun _ _ _=>false) (fun _ _ _=>false) o k b w
def hJn(w:AW)(b:Nat)(k:List AV→Bool):Bool:=Option.rec (motive:=fun _=>(List AV→Bool)→Nat→AW→Bool) (fun _ _ _=>false) (fun o=>kQ8 o) (kGet w.tr b) k b w
theorem lJd(w:AW)(b:Nat)(k:List AV→Bool):hJn w b k=optB (pJw w b) k:=by
  unfold hJn pJw AW.get;rw[cJa]
  cases w.tr.get b with
  | none=>rfl
  | some o=>
    cases o<;>try rfl
    rename_i cs f own d;show ifB (Nat.beq f b) (ifB d (ifB (Nat.beq own b) (k cs) false) (k cs)) (optB (w.cells? b) k)=optB (cond (Nat.beq f b) (cond (!d || Nat.beq own b) (some cs) none) (w.cells? b)) k;cases Nat.beq f b<;>cases d<;>cases Nat.beq own b<;>rfl
def kPutO(o:AO)(k:AW→Bool)(b:Nat)(w:AW)(i:Nat)(vs:List AV):Bool:=
 AO.rec (motive:=fun _=>(AW→Bool)→Nat→AW→Nat→List AV→Bool) (fun cs f own d k b w i vs=>ifB (Nat.beq f b) (ifB (Nat.beq own b) (ifB d (optB (w.putCells b i vs) k) (ifB (Nat.beq b 0) (optB (w.putCells b i vs) k) (ifB (hasN (Nat.add i vs.length) cs) (k (jQ9 w b (.cells (putL cs i vs) b b false))) false))) (optB (w.putCells b i vs) k)) (optB (w.putCells b i vs) k)) (fun _ _=>fun _ _ _ _ _=>false) (fun _ _ _ _ _ _ _ _=>fun _ _ _ _ _=>false) (fun _ _ _ _ _=>false) (fun _ _ _ _ _=>fun _ _ _ _ _=>false) (fun _ _=>fun _ _ _ _ _=>false) (fun _ _ _ _ _=>false) o k b w i vs
def iJw(w:AW)(b i:Nat)(vs:List AV)(k:AW→Bool):Bool:=Option.rec (motive:=fun _=>(AW→Bool)→Nat→AW→Nat→List AV→Bool) (fun _ _ _ _ _=>false) (fun o=>kPutO o) (kGet w.tr b) k b w i vs
theorem oJp(w:AW)(b i:Nat)(vs:List AV)(k:AW→Bool):iJw w b i vs k=optB (putF w b i vs) k:=by
  unfold iJw putF AW.get;rw[cJa]
  cases w.tr.get b with
  | none=>rfl
  | some o=>
    cases o<;>try rfl
    rename_i cs f own d;show ifB (Nat.beq f b) (ifB (Nat.beq own b) (ifB d (optB (w.putCells b i vs) k) (ifB (Nat.beq b 0) (optB (w.putCells b i vs) k) (ifB (hasN (Nat.add i vs.length) cs) (k (jQ9 w b (.cells (putL cs i vs) b b false))) false))) (optB (w.putCells b i vs) k)) (optB (w.putCells b i vs) k)
      =optB (cond (Nat.beq f b&&(Nat.beq own b&&(!d&&!Nat.beq b 0))) (cond (hasN (Nat.add i vs.length) cs) (some (w.set b (.cells (putL cs i vs) b b false))) none) (w.putCells b i vs)) k
    rw[jQ8];cases Nat.beq f b<;>cases Nat.beq own b<;>cases d<;>cases Nat.beq b 0<;>cases hasN (Nat.add i vs.length) cs<;>rfl
/-! ### Integers -/
def kIx(k:IntKind):Nat:=IntKind.rec (motive:=fun _=>Nat) 0 1 2 3 4 5 6 7 k
def kMax(k:IntKind):Nat:=IntKind.rec (motive:=fun _=>Nat) 127 32767 2147483647 9223372036854775807 255 65535 4294967295 18446744073709551615 k
theorem kIx_eq(a b:IntKind):Nat.beq (kIx a) (kIx b)=kEq a b:=by cases a<;>cases b<;>rfl
theorem kQ6(k:IntKind):kMax k=maxN k:=by cases k<;>rfl
def jQ4(k:IntKind)(n:Int):Int:=Int.rec (motive:=fun _=>IntKind→Int) (fun m k=>Bool.rec (motive:=fun _=>Int) (k.wrap (.ofNat m)) (.ofNat m) (Nat.ble m (kMax k))) (fun m k=>mJg k (.negSucc m)) n k
theorem oJo(k:IntKind)(n:Int):jQ4 k n=mJg k n:=by
  cases n with
  | negSucc m=>rfl
  | ofNat m=>
    show Bool.rec (motive:=fun _=>Int) _ _ (Nat.ble m (kMax k))=cond (Nat.ble m (maxN k)) _ _;rw[kQ6,pJb]
def addI(x y:Int):Int:=Int.rec (motive:=fun _=>Int→Int) (fun a y=>Int.rec (motive:=fun _=>Nat→Int) (fun b a=>Int.ofNat (Nat.add a b)) (fun b a=>Int.add (.ofNat a) (.negSucc b)) y a) (fun a y=>Int.add (.negSucc a) y) x y
theorem wQ2(x y:Int):addI x y=Int.add x y:=by cases x<;>cases y<;>rfl
def subI(x y:Int):Int:=Int.rec (motive:=fun _=>Int→Int) (fun a y=>Int.rec (motive:=fun _=>Nat→Int) (fun b a=>Bool.rec (motive:=fun _=>Int) (Int.sub (.ofNat a) (.ofNat b)) (Int.ofNat (Nat.sub a b)) (Nat.ble b a)) (fun b a=>Int.sub (.ofNat a) (.negSucc b)) y a) (fun a y=>Int.sub (.negSucc a) y) x y
theorem kQm(x y:Int):subI x y=Int.sub x y:=by
  cases x with
  | negSucc a=>rfl
  | ofNat a=>cases y with
    | negSucc b=>rfl
    | ofNat b=>
      show Bool.rec (motive:=fun _=>Int) (Int.sub (.ofNat a) (.ofNat b)) (Int.ofNat (Nat.sub a b)) (Nat.ble b a)=_
      cases h:Nat.ble b a with
      | false=>rfl
      | true=>
        have:=yQk h;show((a - b:Nat):Int)=(a:Int) - (b:Int);omega
def ltK(x y:Int):Bool:=Int.rec (motive:=fun _=>Int→Bool) (fun a y=>Int.rec (motive:=fun _=>Nat→Bool) (fun b a=>Nat.ble (Nat.succ a) b) (fun _ _=>false) y a) (fun a y=>Int.rec (motive:=fun _=>Nat→Bool) (fun _ _=>true) (fun b a=>Nat.ble (Nat.succ b) a) y a) x y
theorem ltK_eq(x y:Int):ltK x y=ltF x y:=by cases x<;>cases y<;>rfl
def eqK(x y:Int):Bool:=Int.rec (motive:=fun _=>Int→Bool) (fun a y=>Int.rec (motive:=fun _=>Nat→Bool) (fun b a=>Nat.beq a b) (fun _ _=>false) y a) (fun a y=>Int.rec (motive:=fun _=>Nat→Bool) (fun _ _=>false) (fun b a=>Nat.beq a b) y a) x y
theorem eqK_eq(x y:Int):eqK x y=eqF x y:=by cases x<;>cases y<;>rfl
def notB(b:Bool):Bool:=Bool.rec (motive:=fun _=>Bool) true false b
theorem kQ1(b:Bool):notB b=!b:=by cases b<;>rfl
structure KA where
 run:IntKind→Int→Int→(AV→Bool)→Bool
def arC(op:BinOp):KA:=
 match op with
 | .add=>⟨fun k a b c=>c (.int k (jQ4 k (addI a b)))⟩
 | .sub=>⟨fun k a b c=>c (.int k (jQ4 k (subI a b)))⟩
 | .eql=>⟨fun _ a b c=>c (.bool (eqK a b))⟩
 | .neq=>⟨fun _ a b c=>c (.bool (notB (eqK a b)))⟩
 | .lss=>⟨fun _ a b c=>c (.bool (ltK a b))⟩
 | .leq=>⟨fun _ a b c=>c (.bool (notB (ltK b a)))⟩
 | .gtr=>⟨fun _ a b c=>c (.bool (ltK b a))⟩
 | .geq=>⟨fun _ a b c=>c (.bool (notB (ltK a b)))⟩
 | op=>⟨fun k a b c=>optB (pJy op k a b) c⟩
theorem arC_eq(op:BinOp)(k:IntKind)(a b:Int)(c:AV→Bool):(arC op).run k a b c=optB (pJy op k a b) c:=by
 cases op<;>simp only[arC,pJy,oJo,wQ2,kQm,eqK_eq,ltK_eq,kQ1,kJ8]
structure KB where
 run:AV→AV→(AV→Bool)→Bool
def binC(P:Program)(op:BinOp)(t:TypeId)(c:Bool):KB:=
 match xJs op with
 | true=>⟨fun x y k=>bJ9 x (fun kx a=>bJ9 y (fun _ b=>optB (mJ3 op kx a b) k) false) (optB (jJ6 P op t c x y) k)⟩
 | false=>match arC op with | ⟨r⟩=>⟨fun x y k=>bJ9 x (fun kx a=>bJ9 y (fun ky b=>ifB (Nat.beq (kIx kx) (kIx ky)) (r kx a b k) false) false) (optB (jJ6 P op t c x y) k)⟩
theorem wQw(P:Program)(op:BinOp)(t:TypeId)(c:Bool)(x y:AV)(k:AV→Bool):(binC P op t c).run x y k=optB (binF P op t c x y) k:=by
  unfold binC
  cases hs:xJs op with
  | true=>
    cases x<;>try rfl
    cases y<;>try rfl
    rename_i kx a ky b;show optB (mJ3 op kx a b) k=optB (cond (xJs op) (mJ3 op kx a b) (cond (kEq kx ky) (pJy op kx a b) none)) k;rw[hs];rfl
  | false=>
    cases x<;>try rfl
    cases y<;>try rfl
    rename_i kx a ky b;show ifB (Nat.beq (kIx kx) (kIx ky)) ((arC op).run kx a b k) false=optB (cond (xJs op) (mJ3 op kx a b) (cond (kEq kx ky) (pJy op kx a b) none)) k;rw[hs,kIx_eq,arC_eq,cond_false,kJ9]
/-! ### Operands -/
structure KO where
 run:TT→(AV→Bool)→Bool
def opdC(n:Nat)(x:Operand):KO:=
  match x with
  | .tmp i=>match Nat.blt i n with
    | true=>match getC i with | ⟨g⟩=>⟨fun t k=>k (g t)⟩
    | false=>⟨fun _ _=>false⟩
  | .const v=>match ofValue v with
    | some a=>⟨fun _ k=>k a⟩
    | none=>⟨fun _ _=>false⟩
  | .func f=>⟨fun _ k=>k (.func f [] [])⟩
  | .global _=>⟨fun _ _=>false⟩
theorem zJy(x:Operand)(t:TT)(n:Nat)(k:AV→Bool):(opdC n x).run t k=optB (evF t n x) k:=by
  cases x with
  | tmp i=>
    show(match Nat.blt i n with | true=>(match getC i with | ⟨g⟩=>(⟨fun t k=>k (g t)⟩:KO)) | false=>⟨fun _ _=>false⟩).run t k=optB (cond (Nat.blt i n) (some (getR t i)) none) k
    cases Nat.blt i n with
    | true=>
      show k ((getC i).get t)=_;rw[sJ7];rfl
    | false=>rfl
  | const v=>
    show(match ofValue v with | some a=>(⟨fun _ k=>k a⟩:KO) | none=>⟨fun _ _=>false⟩).run t k=optB (ofValue v) k;cases ofValue v<;>rfl
  | func f=>rfl
  | global g=>rfl
structure KOs where
 run:TT→(List AV→Bool)→Bool
def jQj(n:Nat):List Operand→KOs
  | []=>⟨fun _ k=>k []⟩
  | x::xs=>match opdC n x,jQj n xs with
    | ⟨r⟩,⟨rs⟩=>⟨fun t k=>r t fun a=>rs t fun as=>k (a::as)⟩
theorem oJa:∀(l:List Operand) (t:TT) (n:Nat) (k:List AV→Bool),(jQj n l).run t k=optB (evs (evF t n) l) k
  | [],_,_,_=>rfl
  | x::xs,t,n,k=>by
    show(opdC n x).run t (fun a=>(jQj n xs).run t fun as=>k (a::as))=_;rw[zJy];unfold evs;rw[qJ2];congr 1;funext a;rw[oJa xs,qJ2];rfl
/-! ### Operations that change nothing -/
structure KP where
 run:AW→TT→(AV→Bool)→Bool
section
variable(P:Program)
def jQw(n:Nat)(a:Operand)(z:Option (Option Nat)):KP:=
 match z with
 | none=>⟨fun _ _ _=>false⟩
 | some none=>match opdC n a with | ⟨r⟩=>⟨fun w t k=>r t fun p=>oJx p fun b o=>hJn w b fun cs=>kNth o cs k⟩
 | some (some m)=>match opdC n a with | ⟨r⟩=>⟨fun w t k=>r t fun p=>oJx p fun b o=>hJn w b fun cs=>optB (nJu cs o m) fun x=>k (.agg x)⟩
def genP(n:Nat)(o:Op):KP:=⟨fun w t k=>optB (uJn P w (evF t n) o) k⟩
def hJw(n:Nat)(x:Operand)(z:Option Nat):KP:=
 match z with
 | none=>⟨fun _ _ _=>false⟩
 | some m=>match opdC n x with | ⟨r⟩=>⟨fun _ t k=>r t fun p=>oJx p fun b o=>k (.ptr b (Nat.add o m))⟩
def hJp(n:Nat)(o:Op)(x i:Operand)(e:Option Nat)(a:Option (Nat×Nat)):KP:=
 match e,a with
 | some s,none=>match opdC n x,opdC n i with | ⟨rx⟩,⟨ri⟩=>⟨fun _ t k=>rx t fun v=>ri t fun j=>xQy j fun j=>xQx v (fun b o len=>ifB (Nat.ble (Nat.succ j) len) (k (.ptr b (Nat.add o (Nat.mul j s)))) false) (fun _ _=>false)⟩
 | none,some (m,s)=>match opdC n x,opdC n i with | ⟨rx⟩,⟨ri⟩=>⟨fun _ t k=>rx t fun v=>ri t fun j=>xQy j fun j=>xQx v (fun _ _ _=>false) (fun b o=>ifB (Nat.ble (Nat.succ j) m) (k (.ptr b (Nat.add o (Nat.mul j s)))) false)⟩
 | _,_=>genP P n o
def vQ4(n:Nat)(x:Operand)(z:Option (Nat×Option Nat)):KP:=
 match z with
 | none=>⟨fun _ _ _=>false⟩
 | some (o,none)=>match opdC n x with | ⟨r⟩=>⟨fun _ t k=>r t fun v=>kQc v fun cs=>kNth o cs k⟩
 | some (o,some m)=>match opdC n x with | ⟨r⟩=>⟨fun _ t k=>r t fun v=>kQc v fun cs=>optB (nJu cs o m) fun x=>k (.agg x)⟩
def convC(n:Nat)(o:Op)(s d:TypeId)(x:Operand)(a b:Option IntKind):KP:=
 match a,b with
 | some _,some kd=>match opdC n x with | ⟨r⟩=>⟨fun w t k=>r t fun v=>bJ9 v (fun _ m=>k (.int kd (jQ4 kd m))) (optB (iJ5 P w s d v) k)⟩
 | _,_=>genP P n o
def lenC(n:Nat)(o:Op)(b:Builtin)(args:List Operand)(ty:Option TypeId):KP:=
  match b,args,ty with
  | .len,[x],some ty=>match elemOf P ty with
    | some _=>match opdC n x with | ⟨r⟩=>⟨fun w t k=>r t fun v=>wQz v (fun len=>k (.int .i64 (.ofNat len))) (optB (lenF P w ty v) k)⟩
    | none=>genP P n o
  | _,_,_=>genP P n o
def rJp(n:Nat)(o:Op):KP:=
  match o with
  | .move x=>match opdC n x with | ⟨r⟩=>⟨fun _ t k=>r t k⟩
  | .assign x=>match opdC n x with | ⟨r⟩=>⟨fun _ t k=>r t k⟩
  | .binOp op ty x y _=>match opdC n x,opdC n y,binC P op ty (isConst x || isConst y)with
    | ⟨rx⟩,⟨ry⟩,⟨rb⟩=>⟨fun _ t k=>rx t fun a=>ry t fun b=>rb a b k⟩
  | .fieldAddr s x f=>hJw n x (gJt P s f)
  | .field ty x f=>vQ4 n x (wJh P ty f)
  | .indexAddr ty x i=>hJp P n o x i (lJ0 P ty) (iJ7 P ty)
  | .extract x i=>match opdC n x with | ⟨r⟩=>⟨fun _ t k=>r t fun v=>asTupK v fun vs=>kNth i vs k⟩
  | .load ty a=>jQw n a (mJt P ty)
  | .convert s d x=>convC P n o s d x ((P.underlying s).bind kJw) ((P.underlying d).bind kJw)
  | .call c=>match c.callee with
    | .builtin b=>lenC P n o b c.args.toList c.argTypes[0]?
    | _=>genP P n o
  | o=>genP P n o
theorem pJ8(o:Op)(w:AW)(t:TT)(n:Nat)(k:AV→Bool):(rJp P n o).run w t k=optB (uJn P w (evF t n) o) k:=by
  cases o<;>try rfl
  case move x=>exact zJy x t n k
  case assign x=>exact zJy x t n k
  case binOp op ty x y yt=>
    show(opdC n x).run t (fun a=>(opdC n y).run t fun b=>(binC P op ty (isConst x || isConst y)).run a b k)=optB (bnd (evF t n x) fun a=>bnd (evF t n y) fun b=>binF P op ty (isConst x || isConst y) a b) k;rw[zJy,qJ2];congr 1;funext a;rw[zJy,qJ2];congr 1;funext b;exact wQw ..
  case fieldAddr s x f=>
    show(hJw n x (gJt P s f)).run w t k=optB (bnd (evF t n x) (xJ3 P s f)) k;rw[qJ2]
    cases h:gJt P s f with
    | none=>
      show false=_
      cases evF t n x with
      | none=>rfl
      | some v=>cases v<;>simp[xJ3,h,bnd]
    | some m=>
      show(opdC n x).run t _=_;rw[zJy];congr 1;funext v;cases v<;>simp only[xJ3,h]<;>rfl
  case field ty x f=>
    show(vQ4 n x (wJh P ty f)).run w t k=optB (bnd (evF t n x) (bJz P ty f)) k;rw[qJ2]
    cases h:wJh P ty f with
    | none=>
      show false=_
      cases evF t n x with
      | none=>rfl
      | some v=>cases v<;>simp[bJz,h,bnd]
    | some z=>
      obtain⟨o,z⟩:=z
      cases z with
      | none=>
        show(opdC n x).run t _=_;rw[zJy];congr 1;funext v;cases v<;>simp only[bJz,h]<;>first | rfl | exact fJ9 ..
      | some m=>
        show(opdC n x).run t _=_;rw[zJy];congr 1;funext v;cases v<;>simp only[bJz,h]<;>first | rfl | (show _=optB (mJm (some m) _ o) k;unfold mJm;rw[qJ2];rfl)
  case indexAddr ty x i=>
    show(hJp P n (.indexAddr ty x i) x i (lJ0 P ty) (iJ7 P ty)).run w t k=optB (bnd (evF t n x) fun a=>bnd (evF t n i) (jJs P ty a)) k;have hx:∀(f:AV→AV→Bool),(opdC n x).run t (fun v=>(opdC n i).run t fun j=>f v j)=optB (evF t n x) fun v=>optB (evF t n i) fun j=>f v j:=fun f=>by
      rw[zJy];congr 1;funext v;rw[zJy]
    rw[qJ2];simp only[qJ2]
    cases he:lJ0 P ty with
    | none=>
      cases ha:iJ7 P ty with
      | none=>
        show optB (bnd (evF t n x) fun a=>bnd (evF t n i) (jJs P ty a)) k=_;simp only[qJ2]
      | some z=>
        obtain⟨m,s⟩:=z;show(opdC n x).run t _=_;refine(hx fun v j=>xQy j fun j=>xQx v (fun _ _ _=>false) (fun b o=>ifB (Nat.ble (Nat.succ j) m) (k (.ptr b (Nat.add o (Nat.mul j s)))) false)).trans ?_;congr 1;funext v;congr 1;funext j;cases j<;>try rfl
        rename_i kk j;cases j<;>try rfl
        cases v<;>simp only[jJs,ha,he]<;>try rfl
        show ifB _ _ _=optB (cond _ _ none) k;rw[kJ9];rfl
    | some s=>
      cases ha:iJ7 P ty with
      | none=>
        show(opdC n x).run t _=_;refine(hx fun v j=>xQy j fun j=>xQx v (fun b o len=>ifB (Nat.ble (Nat.succ j) len) (k (.ptr b (Nat.add o (Nat.mul j s)))) false) (fun _ _=>false)).trans ?_;congr 1;funext v;congr 1;funext j;cases j<;>try rfl
        rename_i kk j;cases j<;>try rfl
        cases v<;>simp only[jJs,ha,he]<;>try rfl
        show ifB _ _ _=optB (cond _ _ none) k;rw[kJ9];rfl
      | some z=>
        show optB (bnd (evF t n x) fun a=>bnd (evF t n i) (jJs P ty a)) k=_;simp only[qJ2]
  case extract x i=>
    show(opdC n x).run t _=optB (bnd (evF t n x) _) k;rw[zJy,qJ2];congr 1;funext v;cases v<;>first | rfl | exact fJ9 ..
  case load ty a=>
    show(jQw n a (mJt P ty)).run w t k=optB (bnd (evF t n a) _) k;rw[qJ2]
    cases h:mJt P ty with
    | none=>
      show false=_
      cases evF t n a with
      | none=>rfl
      | some v=>
        cases v<;>try rfl
        show false=optB (mJo P w ty _ _) k;unfold mJo;rw[h];cases pJw w _<;>rfl
    | some z=>
      cases z with
      | none=>
        show(opdC n a).run t _=_;rw[zJy];congr 1;funext v;cases v<;>try rfl
        show hJn w _ _=optB (mJo P w ty _ _) k;unfold mJo;rw[h,lJd,qJ2];congr 1;funext cs;exact fJ9 ..
      | some m=>
        show(opdC n a).run t _=_;rw[zJy];congr 1;funext v;cases v<;>try rfl
        show hJn w _ _=optB (mJo P w ty _ _) k;unfold mJo;rw[h,lJd,qJ2];congr 1;funext cs;show _=optB (mJm (some m) cs _) k;unfold mJm;rw[qJ2];rfl
  case convert s d x=>
    show(convC P n (.convert s d x) s d x ((P.underlying s).bind kJw) ((P.underlying d).bind kJw)).run w t k=optB (bnd (evF t n x) (iJ5 P w s d)) k
    cases h1:(P.underlying s).bind kJw with
    | none=>rfl
    | some ks=>
      cases h2:(P.underlying d).bind kJw with
      | none=>rfl
      | some kd=>
        show(opdC n x).run t _=_;rw[zJy,qJ2];congr 1;funext v;cases v<;>try rfl
        rename_i kv m;rw[yQi]at h1 h2;obtain⟨us,h3,h4⟩:=h1;obtain⟨ud,h5,h6⟩:=h2;simp only[iJ5,h3,h4,h5,h6,bnd,←oJo];rfl
  case call c=>
    unfold rJp uJn;simp only[]
    cases hc:c.callee with
    | value f=>simp only[genP,uJn,hc]
    | invoke r m=>simp only[genP,uJn,hc]
    | builtin b=>
      simp only[];unfold lenC;have gen:(genP P n (.call c)).run w t k=optB (wJp P w (evF t n) b c.args c.argTypes) k:=by simp only[genP,uJn,hc]
      split
      · rename_i x ty hargs hty
        cases he:elemOf P ty with
        | none=>exact gen
        | some e=>
          show(opdC n x).run t _=_;unfold wJp;rw[zJy,hargs,qJ2];unfold evs;rw[qJ2];congr 1;funext v;simp only[evs,bnd,kJ8,hty];cases v<;>try rfl
          simp only[lenF,he,bnd];rfl
      · exact gen
end
end
end Go.Sx
