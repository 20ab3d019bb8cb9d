/-
 How the model's memory stands for the abstract machine's.
 No condition beyond those that each theorem names.
-/
import Derived.Test.YtghoifolghelnaaGreatSxd
import Derived.Calls
set_option linter.unusedVariables false
set_option linter.unusedSimpArgs false
/-! How the abstract heap and the model's world go together. -/
namespace Go.Sx
structure Pl where
 blk:Nat
 off:Nat
 room:Nat
abbrev Emb:=Nat→Option Pl
def Emb.le(m m':Emb):Prop:=∀b p,m b=some p→m' b=some p
def CapR(p:Pl)(o cap cc:Nat):Option Nat→Prop
 | none=>cc=cap
 | some s=>cap≤cc∧o+cc * s≤p.room
mutual
def VR(m:Emb):AV→Value→Prop
 | .int k n,v=>v= .int k n
 | .bool b,v=>v= .bool b
 | .str l,v=>∃s,v= .string s∧s.data.toList=l
 | .nilptr,v=>v= .pointer none
 | .ptr b o,v=>∃p,m b=some p∧v= .pointer (some ⟨p.blk,p.off+o,none⟩)
 | .nilslice,v=>v= .slice none 0 0
 | .slice b o len cap ex,v=>∃p a cc,m b=some p∧v= .slice (some a) len cc∧len≤cap∧CapR p o cap cc ex∧(cc≠0→a=⟨p.blk,p.off+o,none⟩)
 | .nilmap,v=>v= .map none
 | .map r,v=>∃p,m r=some p∧v= .map (some p.blk)
 | .nilfunc,v=>v= .nilFunc
 | .func f as bs,v=>∃as' bs',v= .func (.func f) as' bs'∧VRs m as as'.toList∧VRs m bs bs'.toList
 | .yield l,v=>∃p,m l=some p∧v= .func (.yield p.blk) #[] #[]
 | .niliface,v=>v= .nilIface
 | .iface t x,v=>∃x',v= .iface t x'∧VR m x x'
 | .agg cs,v=>∃vs,v= .agg vs∧VRs m cs vs.toList
 | .tup cs,v=>∃vs,v= .tuple vs∧VRs m cs vs.toList
def VRs(m:Emb):List AV→List Value→Prop
 | [],vs=>vs=[]
 | a::as,vs=>∃v vs',vs=v::vs'∧VR m a v∧VRs m as vs'
end
mutual
theorem VR.mono {m m':Emb}(h:m.le m'):∀(a:AV) (v:Value),VR m a v→VR m' a v
  | .int ..,v,hv=>by simp only[VR]at *;exact hv
  | .bool ..,v,hv=>by simp only[VR]at *;exact hv
  | .str ..,v,hv=>by simp only[VR]at *;exact hv
  | .nilptr,v,hv=>by simp only[VR]at *;exact hv
  | .ptr ..,v,hv=>by
    simp only[VR]at *;obtain⟨p,hp,hv⟩:=hv;exact⟨p,h _ _ hp,hv⟩
  | .nilslice,v,hv=>by simp only[VR]at *;exact hv
  | .slice ..,v,hv=>by
    simp only[VR]at *;obtain⟨p,a,cc,hp,hv⟩:=hv;exact⟨p,a,cc,h _ _ hp,hv⟩
  | .nilmap,v,hv=>by simp only[VR]at *;exact hv
  | .map ..,v,hv=>by
    simp only[VR]at *;obtain⟨p,hp,hv⟩:=hv;exact⟨p,h _ _ hp,hv⟩
  | .nilfunc,v,hv=>by simp only[VR]at *;exact hv
  | .func f as bs,v,hv=>by
    simp only[VR]at *;obtain⟨as',bs',hv,ha,hb⟩:=hv;exact⟨as',bs',hv,VRs.mono h as _ ha,VRs.mono h bs _ hb⟩
  | .yield ..,v,hv=>by
    simp only[VR]at *;obtain⟨p,hp,hv⟩:=hv;exact⟨p,h _ _ hp,hv⟩
  | .niliface,v,hv=>by simp only[VR]at *;exact hv
  | .iface t x,v,hv=>by
    simp only[VR]at *;obtain⟨x',hv,hx⟩:=hv;exact⟨x',hv,VR.mono h x _ hx⟩
  | .agg cs,v,hv=>by
    simp only[VR]at *;obtain⟨vs,hv,hx⟩:=hv;exact⟨vs,hv,VRs.mono h cs _ hx⟩
  | .tup cs,v,hv=>by
    simp only[VR]at *;obtain⟨vs,hv,hx⟩:=hv;exact⟨vs,hv,VRs.mono h cs _ hx⟩
theorem VRs.mono {m m':Emb}(h:m.le m'):∀(as:List AV) (vs:List Value),VRs m as vs→VRs m' as vs
  | [],vs,hv=>by simp only[VRs]at *;exact hv
  | a::as,vs,hv=>by
    simp only[VRs]at *;obtain⟨v,vs',hv,ha,hs⟩:=hv;exact⟨v,vs',hv,VR.mono h a _ ha,VRs.mono h as _ hs⟩
end
theorem Emb.le_refl(m:Emb):m.le m:=fun _ _ h=>h
theorem Emb.le_trans {a b c:Emb}(h:a.le b)(h':b.le c):a.le c:=fun x p hx=>h' x p (h x p hx)
section vrs
variable {m:Emb}
theorem VRs.length:∀{as:List AV} {vs:List Value},VRs m as vs→as.length=vs.length
  | [],vs,h=>by simp only[VRs]at h;simp[h]
  | a::as,vs,h=>by
    simp only[VRs]at h;obtain⟨v,vs',rfl,_,hs⟩:=h;simp[VRs.length hs]
theorem VRs.nil:VRs m [] []:=by simp[VRs]
theorem VRs.cons {a:AV}{v:Value}{as:List AV}{vs:List Value}(h:VR m a v)(hs:VRs m as vs):VRs m (a::as) (v::vs):=by
 simp only[VRs];exact⟨v,vs,rfl,h,hs⟩
theorem VRs.cons_iff {a:AV}{v:Value}{as:List AV}{vs:List Value}:VRs m (a::as) (v::vs)↔VR m a v∧VRs m as vs:=by
 constructor
 ·intro h;simp only[VRs]at h;obtain⟨v',vs',h,ha,hs⟩:=h;cases h;exact⟨ha,hs⟩
 ·exact fun h=>VRs.cons h.1 h.2
theorem VRs.get {as:List AV}{vs:List Value}(h:VRs m as vs){i:Nat}{a:AV}(hi:as[i]? =some a):∃v,vs[i]? =some v∧VR m a v:=by
  induction as generalizing vs i with
  | nil=>simp at hi
  | cons x as ih=>
    simp only[VRs]at h;obtain⟨v,vs',rfl,hx,hs⟩:=h
    cases i with
    | zero=>simp at hi;subst hi;exact⟨v,rfl,hx⟩
    | succ i=>simp at hi ⊢;exact ih hs hi
theorem VRs.append {as bs:List AV}{vs us:List Value}(h:VRs m as vs)(h':VRs m bs us):VRs m (as++bs) (vs++us):=by
  induction as generalizing vs with
  | nil=>simp only[VRs]at h;subst h;simpa using h'
  | cons x as ih=>
    simp only[VRs]at h;obtain⟨v,vs',rfl,hx,hs⟩:=h;exact VRs.cons hx (ih hs)
theorem VRs.take {as:List AV}{vs:List Value}(h:VRs m as vs)(n:Nat):VRs m (as.take n) (vs.take n):=by
  induction as generalizing vs n with
  | nil=>simp only[VRs]at h;subst h;simp[VRs]
  | cons x as ih=>
    simp only[VRs]at h;obtain⟨v,vs',rfl,hx,hs⟩:=h
    cases n with
    | zero=>simp[VRs]
    | succ n=>exact VRs.cons hx (ih hs n)
theorem VRs.drop {as:List AV}{vs:List Value}(h:VRs m as vs)(n:Nat):VRs m (as.drop n) (vs.drop n):=by
  induction as generalizing vs n with
  | nil=>simp only[VRs]at h;subst h;simp[VRs]
  | cons x as ih=>
    simp only[VRs]at h;obtain⟨v,vs',rfl,hx,hs⟩:=h
    cases n with
    | zero=>exact VRs.cons hx hs
    | succ n=>exact ih hs n
theorem VRs.set {as:List AV}{vs:List Value}(h:VRs m as vs)(i:Nat){a:AV}{v:Value}(ha:VR m a v):VRs m (as.set i a) (vs.set i v):=by
  induction as generalizing vs i with
  | nil=>simp only[VRs]at h;subst h;simp[VRs]
  | cons x as ih=>
    simp only[VRs]at h;obtain⟨u,vs',rfl,hx,hs⟩:=h
    cases i with
    | zero=>exact VRs.cons ha hs
    | succ i=>exact VRs.cons hx (ih hs i)
theorem VRs.replicate {a:AV}{v:Value}(h:VR m a v)(n:Nat):VRs m (List.replicate n a) (List.replicate n v):=by
 induction n with
 | zero=>simp[VRs]
 | succ n ih=>exact VRs.cons h ih
theorem VR.undef:VR m undef Go.undef:=by simp only[VR,VRs];exact⟨#[],rfl,rfl⟩
theorem VRs.getD {as:List AV}{vs:List Value}(h:VRs m as vs)(i:Nat):VR m (as.getD i Sx.undef) (vs.getD i Go.undef):=by
  cases hi:as[i]? with
  | some a=>obtain⟨v,hv,hr⟩:=h.get hi;simp[List.getD,hi,hv,hr]
  | none=>
    have:vs[i]? =none:=by
      have hl:=h.length;simp at hi ⊢;omega
    simp only[List.getD,hi,this,Option.getD_none];exact VR.undef
end vrs
def aJs:Value→Bool
 | .agg _ | .tuple _=>false
 | _=>true
theorem hJi {m:Emb}{a:AV}{v:Value}(h:VR m a v)(ha:qJc a=true):aJs v=true:=by
 cases a
 case agg=>simp[qJc]at ha
 case tup=>simp[qJc]at ha
 case str=>simp only[VR]at h;obtain⟨s,rfl,_⟩:=h;rfl
 case ptr=>simp only[VR]at h;obtain⟨p,_,rfl⟩:=h;rfl
 case slice=>simp only[VR]at h;obtain⟨p,a,cc,_,rfl,_⟩:=h;rfl
 case map=>simp only[VR]at h;obtain⟨p,_,rfl⟩:=h;rfl
 case func=>simp only[VR]at h;obtain⟨x,y,rfl,_⟩:=h;rfl
 case yield=>simp only[VR]at h;obtain⟨p,_,rfl⟩:=h;rfl
 case iface=>simp only[VR]at h;obtain⟨p,rfl,_⟩:=h;rfl
 all_goals (simp only[VR]at h;subst h;rfl)
end Go.Sx
/-! Loads and stores of rows of cells in the model's world. -/
namespace Go.Sx
def zJh(W:World)(b:Nat)(o:Obj):World:={W with heap:=W.heap.setIfInBounds b o}
@[simp] theorem kQt(W:World)(b:Nat)(o:Obj):(zJh W b o).heap.size=W.heap.size:=by simp[zJh]
theorem zJu {W:World}{b:Nat}{o o':Obj}(h:W.heap[b]? =some o):(zJh W b o').heap[b]? =some o':=by
 have:b<W.heap.size:=(gQe.1 h).1;simp[zJh,this]
theorem zJb {W:World}{b c:Nat}{o:Obj}(h:c≠b):(zJh W b o).heap[c]? =W.heap[c]? :=by
 simp[zJh,Array.getElem?_setIfInBounds,Ne.symm h]
theorem gJx {W:World}{b i:Nat}{c:Array Value}{e:TypeId}{fr:Nat×Nat}(h:W.heap[b]? =some (.cells c e fr)):W.cell? ⟨b,i,none⟩=c[i]? :=by
 simp[World.cell?,h]
theorem hJr {W:World}{b i:Nat}{c:Array Value}{e:TypeId}{fr:Nat×Nat}(h:W.heap[b]? =some (.cells c e fr)):
  W.frozen? ⟨b,i,none⟩=(decide (fr.1≤i)&&decide (i<fr.2)):=by
 simp[World.frozen?,h]
theorem iJe {W:World}{b i:Nat}{c:Array Value}{e:TypeId}{fr:Nat×Nat}(h:W.heap[b]? =some (.cells c e fr))(v:Value):
  W.setCell ⟨b,i,none⟩ v=zJh W b (.cells (c.setIfInBounds i v) e fr):=by
 have hb:b<W.heap.size:=(gQe.1 h).1;have hg:W.heap[b]= .cells c e fr:=(gQe.1 h).2;simp only[World.setCell,zJh];congr 1;apply Array.ext_getElem?;intro k;rw[Array.getElem?_modify,Array.getElem?_setIfInBounds];by_cases hk:b=k
 ·subst hk;simp[hb,hg]
 ·simp[hk]
variable {P:Program}
theorem tJx {W:World}{b i:Nat}{c:Array Value}{e:TypeId}{fr:Nat×Nat}{v:Value}(h:W.heap[b]? =some (.cells c e fr))(hv:c[i]? =some v):
  (load ⟨b,i,none⟩).run P W= .ok v W:=by
 simp[load,Sem.run,gJx h,hv]
theorem rJd {W:World}{b i:Nat}{c:Array Value}{e:TypeId}{fr:Nat×Nat}{v:Value}(h:W.heap[b]? =some (.cells c e fr))(hi:i<c.size)
  (hf:fr.1=fr.2∨c.size≤fr.1) (h1:aJs v=true) (m:Mode:= .plain):
  (store ⟨b,i,none⟩ v m).run P W= .ok () (zJh W b (.cells (c.setIfInBounds i v) e fr)):=by
 have hc:W.cell? ⟨b,i,none⟩=some c[i]:=by rw[gJx h];simp[hi]
 have hz:W.frozen? ⟨b,i,none⟩=false:=by
  rw[hJr h];rcases hf with hf | hf
  ·simp;omega
  ·simp;omega
 cases v<;>simp[aJs]at h1<;>simp[store,Sem.run,hc,hz,iJe h]
theorem pJ5 {α β:Type}(s:Sem α)(f:α→Sem β)(W:World):
    (s>>=f).run P W=match s.run P W with
      | .ok a W'=>(f a).run P W'
      | .halt h W'=> .halt h W':=by
  change (Sem.bind s f).run P W=_
  induction s generalizing W with
  | pure a=>rfl
  | load m a k ih=>
    simp only[Sem.bind,Sem.run];split
    · exact ih _ _
    · split
      · exact ih _ _
      · rfl
  | store m a v k ih=>
    cases v<;>simp only[Sem.bind,Sem.run]
    all_goals
      split
      · split
        · rfl
        · exact ih _
      · split
        · exact ih _
        · rfl
  | new o k ih=>simp only[Sem.bind,Sem.run];exact ih _ _
  | shape r k ih=>simp only[Sem.bind,Sem.run];exact ih _ _
  | freeze a n k ih=>simp only[Sem.bind,Sem.run];exact ih _
  | frozen a k ih=>simp only[Sem.bind,Sem.run];exact ih _ _
  | getObj r k ih=>
    simp only[Sem.bind,Sem.run];split
    · rfl
    · exact ih _ _
    · rfl
  | setObj r o k ih=>
    simp only[Sem.bind,Sem.run];split
    · rfl
    · exact ih _
    · rfl
  | choose q k ih=>
    simp only[Sem.bind,Sem.run];split
    · exact ih _ _
    · exact ih _ _
  | sys c k ih=>simp only[Sem.bind,Sem.run];exact ih _ _
  | program k ih=>simp only[Sem.bind,Sem.run];exact ih _ _
  | mark m k ih=>simp only[Sem.bind,Sem.run];exact ih _
  | halt h=>rfl
theorem qJo {α:Type}(a:α)(W:World):(pure a:Sem α).run P W= .ok a W:=rfl
theorem qJn {α β:Type}(a:α)(f:α→Sem β)(W:World):((pure a:Sem α)>>=f).run P W=(f a).run P W:=rfl
theorem qJb {α β:Type}{s:Sem α}{f:α→Sem β}{W W':World}{a:α}(h:s.run P W= .ok a W'):(s>>=f).run P W=(f a).run P W':=by
 rw[pJ5,h]
theorem jJ3(b i n:Nat):(Addr.mk b i none).add n=⟨b,i+n,none⟩:=by
 by_cases h:n=0<;>simp[Addr.add,h]
theorem vJ7 {W:World}{b i:Nat}{c:Array Value}{e:TypeId}{fr:Nat×Nat}(h:W.heap[b]? =some (.cells c e fr)):
    ∀(n k:Nat) (acc:Array Value),i+k+n≤c.size→
      (loadCellsFrom ⟨b,i,none⟩ k n acc).run P W= .ok (acc++((c.toList.drop (i+k)).take n).toArray) W
  | 0,k,acc,_=>by simp[loadCellsFrom,qJo]
  | n+1,k,acc,hn=>by
    have hk:i+k<c.size:=by omega
    have hv:c[i+k]? =some c[i+k]:=by simp[hk]
    rw[loadCellsFrom,jJ3,qJb (tJx h hv),vJ7 h n (k+1) _ (by omega)];congr 1;have hd:c.toList.drop (i+k)=c[i+k]::c.toList.drop (i+(k+1)):=by
      have:i+k<c.toList.length:=by simpa using hk
      rw[←Nat.add_assoc,gQq this];simp
    rw[hd,List.take_succ_cons];apply Array.ext';simp
theorem jJy {W:World}{b i n:Nat}{c:Array Value}{e:TypeId}{fr:Nat×Nat}(h:W.heap[b]? =some (.cells c e fr))(hn:i+n≤c.size):
  (loadCells ⟨b,i,none⟩ n).run P W= .ok ((c.toList.drop i).take n).toArray W:=by
 have:=vJ7 (P:=P) h n 0 #[] (by omega);simpa [loadCells]using this
def jJz(c:Array Value)(i:Nat)(vs:List Value):Array Value:=(c.toList.take i++vs++c.toList.drop (i+vs.length)).toArray
theorem dJ1 {c:Array Value}{i:Nat}{vs:List Value}(h:i+vs.length≤c.size):(jJz c i vs).size=c.size:=by
 simp[jJz];omega
theorem fJh(W:World)(b:Nat)(o o':Obj):zJh (zJh W b o) b o'=zJh W b o':=by
 simp[zJh]
theorem vJ1 {b i:Nat}{e:TypeId}{fr:Nat×Nat}:
    ∀(vs:List Value) (W:World) (c:Array Value) (k:Nat),W.heap[b]? =some (.cells c e fr)→i+k+vs.length≤c.size→(fr.1=fr.2∨c.size≤fr.1)→
      (∀v∈vs,aJs v=true)→(storeCells ⟨b,i,none⟩ vs k).run P W= .ok () (zJh W b (.cells (jJz c (i+k) vs) e fr))
  | [],W,c,k,h,_,_,_=>by
    have hb:b<W.heap.size:=(gQe.1 h).1;have hg:W.heap[b]= .cells c e fr:=(gQe.1 h).2;simp only[storeCells,qJo];congr 1;simp only[zJh,jJz,gQc,gQw,Nat.add_zero,List.take_append_drop];have:W.heap.setIfInBounds b (.cells c.toList.toArray e fr)=W.heap:=by
      apply Array.ext_getElem?;intro j;rw[Array.getElem?_setIfInBounds];by_cases hj:b=j
      · subst hj;simp[hb,hg]
      · simp[hj]
    rw[this]
  | v::vs,W,c,k,h,hn,hf,h1=>by
    have hi:i+k<c.size:=by simp at hn;omega
    rw[storeCells,jJ3,qJb (rJd h hi hf (h1 v (by simp)))];have h':=zJu (o':= .cells (c.setIfInBounds (i+k) v) e fr) h;rw[vJ1 vs _ _ (k+1) h' (by simp at hn ⊢;omega) (by simpa using hf) (fun u hu=>h1 u (by simp[hu]))];rw[fJh];congr 3;simp only[jJz];apply Array.ext';simp only[Array.toList_setIfInBounds];have hl:i+k<c.toList.length:=by simpa using hi
    have e1:(c.toList.set (i+k) v).take (i+(k+1))=c.toList.take (i+k)++[v]:=by
      rw[←Nat.add_assoc,List.take_add_one,List.take_set_of_le (yQm _),List.getElem?_set_self hl];rfl
    have e2:(c.toList.set (i+k) v).drop (i+(k+1)+vs.length)=c.toList.drop (i+k+(v::vs).length):=by
      rw[List.drop_set_of_lt (by omega)];congr 1;simp;omega
    rw[e1,e2];simp
end Go.Sx
namespace Go.Sx
/-! ### The abstract heap's own laws -/
section heap
variable {w:AW}
@[simp] theorem AW.set_get(b x:Nat)(o:AO):(w.set b o).get x=if x=b then some o else w.get x:=Tr.get_set o b w.tr b (yQm _) x
@[simp] theorem AW.set_size(b:Nat)(o:AO):(w.set b o).size=w.size:=rfl
@[simp] theorem AW.nil_get(n b:Nat):(AW.mk n .nil).get b=none:=Tr.get_nil b
@[simp] theorem AW.push_get(x:Nat)(o:AO):(w.push o).get x=if x=w.size then some o else w.get x:=Tr.get_set o w.size w.tr w.size (yQm _) x
@[simp] theorem AW.push_size(o:AO):(w.push o).size=w.size+1:=rfl
theorem AW.root?_iff {f:Nat}{x:Nat×Nat×Bool}:w.root? f=some x↔∃cs,w.get f=some (.cells cs f x.2.1 x.2.2)∧x.1=f:=by
 unfold AW.root?;split
 ·rename_i cs f' own dirty h;constructor
  ·intro h';split at h'
   ·rename_i hf;simp at h';subst h' hf;exact⟨cs,h,rfl⟩
   ·simp at h'
  ·rintro⟨cs',h',hx⟩;rw[h]at h';simp at h';obtain⟨rfl,rfl,rfl,rfl⟩:=h';simp[←hx]
 ·rename_i h;constructor
  ·intro h';simp at h'
  ·rintro⟨cs',h',_⟩;exact absurd h' (h _ _ _ _)
theorem AW.fam?_iff {b:Nat}{x:Nat×Nat×Bool}:w.fam? b=some x↔∃cs own dirty,w.get b=some (.cells cs x.1 own dirty)∧w.root? x.1=some x:=by
 unfold AW.fam?;split
 ·rename_i cs f own dirty h;constructor
  ·intro h';obtain⟨_,_,hx⟩:=AW.root?_iff.1 h';refine⟨cs,own,dirty,?_,?_⟩
   ·rw[h,hx]
   ·rw[hx];exact h'
  ·rintro⟨cs',own',dirty',h',hr⟩;rw[h]at h';simp at h';rw[h'.2.1];exact hr
 ·rename_i h;constructor
  ·intro h';simp at h'
  ·rintro⟨cs',own',dirty',h',_⟩;exact absurd h' (h _ _ _ _)
theorem AW.fam?_root {b:Nat}{x:Nat×Nat×Bool}(h:w.fam? b=some x):w.root? x.1=some x:=by
 obtain⟨_,_,_,_,h⟩:=AW.fam?_iff.1 h;exact h
theorem AW.fam?_same {b b':Nat}{x x':Nat×Nat×Bool}(h:w.fam? b=some x)(h':w.fam? b'=some x')(e:x.1=x'.1):x=x':=by
 have h1:=AW.fam?_root h;have h2:=AW.fam?_root h';rw[e,h2]at h1;exact(gQb h1).symm
theorem AW.cells?_iff {b:Nat}{cs:List AV}:w.cells? b=some cs↔
    ∃x own dirty,w.fam? b=some x∧(x.2.2=false∨x.2.1=b)∧w.get b=some (.cells cs x.1 own dirty):=by
  unfold AW.cells?
  cases hf:w.fam? b with
  | none=>simp
  | some x=>
    obtain⟨f,own,dirty⟩:=x;obtain⟨cs',o',d',hg,hr⟩:=AW.fam?_iff.1 hf;simp only[hg,Option.bind_some,oJe,yQx];constructor
    · intro h
      split at h
      · rename_i hv;simp at h;subst h;exact⟨_,o',d',rfl,hv,rfl⟩
      · simp at h
    · rintro⟨x,o,d,rfl,hv,h⟩
      simp at hv h;rw[if_pos hv,h.1]
theorem AW.root?_congr {w':AW}{f:Nat}(h:w'.get f=w.get f):w'.root? f=w.root? f:=by
 unfold AW.root?;rw[h]
theorem AW.fam?_congr {w':AW}{b:Nat}{x:Nat×Nat×Bool}(h:w.fam? b=some x)(hb:w'.get b=w.get b)(hr:w'.get x.1=w.get x.1):w'.fam? b=some x:=by
 obtain⟨cs,o,d,hg,hx⟩:=AW.fam?_iff.1 h;exact AW.fam?_iff.2 ⟨cs,o,d,hb.trans hg,by rw[AW.root?_congr hr];exact hx⟩
theorem AW.cells?_congr {w':AW}{b:Nat}{x:Nat×Nat×Bool}(h:w.fam? b=some x)(hb:w'.get b=w.get b)(hr:w'.get x.1=w.get x.1):w'.cells? b=w.cells? b:=by
 unfold AW.cells?;rw[AW.fam?_congr h hb hr,h,hb]
end heap
/-! ### The relation -/
def EsR(m:Emb):List (AV×AV)→List MapEntry→Prop
 | [],l=>l=[]
 | (k,v)::es,l=>∃e l',l=e::l'∧VR m k e.key∧VR m v e.val∧EsR m es l'
theorem EsR.mono {m m':Emb}(h:m.le m'):∀{es:List (AV×AV)} {l:List MapEntry},EsR m es l→EsR m' es l
  | [],_,he=>he
  | (_,_)::_,_,he=>by
    obtain⟨e,l',rfl,hk,hv,hs⟩:=he;exact⟨e,l',rfl,hk.mono h,hv.mono h,EsR.mono h hs⟩
def MapR(m:Emb)(es:List (AV×AV))(l:List MapEntry):Prop:=
 (∃l',l'.Perm l∧EsR m es l')∧(es.map (·.1)).Pairwise fun a b=>a.beq b=false
theorem MapR.mono {m m':Emb}(h:m.le m'){es:List (AV×AV)}{l:List MapEntry}(hm:MapR m es l):MapR m' es l:=by
 obtain⟨⟨l',hp,he⟩,hd⟩:=hm;exact⟨⟨l',hp,he.mono h⟩,hd⟩
def jJt(l:List MapEntry)(cl:Nat):Prop:=(l.map (·.born)).Nodup∧∀e∈l,e.born<cl
theorem jJt.nil(cl:Nat):jJt [] cl:=⟨by simp,by simp⟩
def OR(N0:Nat)(m:Emb)(w:AW)(b:Nat)(p:Pl)(W:World):AO→Prop
 | .cells _ _ _ _=>∃c e fr x,W.heap[p.blk]? =some (.cells c e fr)∧p.off+p.room≤c.size∧w.fam? b=some x∧(∃q,m x.1=some q)∧
   (x.1≠0→N0≤p.blk∧(fr.1=fr.2∨c.size≤fr.1))∧
   (∀cs,w.cells? b=some cs→cs.length≤p.room∧(∀a∈cs,qJc a=true)∧VRs m cs ((c.toList.drop p.off).take cs.length))
 | .map es _=>N0≤p.blk∧∃ces cl,W.heap[p.blk]? =some (.map ces cl)∧MapR m es ces.toList∧jJt ces.toList cl
 | .loop st pending _ tmps params assign body d=>N0≤p.blk∧∃fn ts ps q,m d=some q∧True∧
   W.heap[p.blk]? =some (.loop {state:=st,pending,fn,tmps:=ts,params:=ps,assign,body,defers:=q.blk})∧VRs m tmps ts.toList∧ps.toList=params
 | .deferred=>N0≤p.blk∧W.heap[p.blk]? =some (.deferred (some []))
 | .strIter s pos=>N0≤p.blk∧p.off=0∧∃bs,W.heap[p.blk]? =some (.stringIter bs pos)∧bs.data.toList=s
 | .mapIter none _ _ _ _=>N0≤p.blk∧p.off=0∧∃s t u,W.heap[p.blk]? =some (.mapIter none s t u)
 | .mapIter (some r) _ ver rest last=>N0≤p.blk∧p.off=0∧∃q since seen st esn vn,m r=some q∧W.heap[p.blk]? =some (.mapIter (some q.blk) since seen st)∧w.get r=some (.map esn vn)∧ver≤vn∧
   (vn=ver→∃ces,W.heap[q.blk]? =some (.map ces since)∧(seen=#[]∨st=since)∧(∃l,l.Perm (ces.toList.filter fun e=>!seen.contains e.born)∧EsR m rest l)∧
    ∀x,last=some x→∃e∈ces.toList,seen.back? =some e.born∧st=since∧VR m x (.tuple #[e.key,e.val]))
 | .gone=>N0≤p.blk∧p.blk<W.heap.size
abbrev Env(W W':World):Prop:=W'.os=W.os∧W'.output=W.output
theorem Env.trans {W W1 W2:World}(h:Env W W1)(h':Env W1 W2):Env W W2:=⟨h'.1.trans h.1,h'.2.trans h.2⟩
structure Rel(W0:World)(N0:Nat)(m:Emb)(w:AW)(W:World):Prop where
 env:Env W0 W
 pos:0<w.size
 dom:∀b p,m b=some p→b<w.size
 old:N0≤W.heap.size∧∀c,c<N0→W.heap[c]? =W0.heap[c]?
 obj:∀b p,m b=some p→∃o,w.get b=some o∧OR N0 m w b p W o
 sep:∀b b' p p',m b=some p→m b'=some p'→p.blk=p'.blk→b≠b'→∃x,w.fam? b=some x∧w.fam? b'=some x
 tip:∀b b' p p' x cs cs',m b=some p→m b'=some p'→p.blk=p'.blk→w.fam? b=some x→w.fam? b'=some x→x.2.1=b→
  w.cells? b=some cs→w.cells? b'=some cs'→p'.off+cs'.length≤p.off+cs.length
 single:∀b x,w.fam? b=some x→x.1≠0→x.2.1=x.1→x.2.2=false→b=x.1
 wf:∀b,w.size≤b→w.get b=none
 wfF:∀b cs f own d,w.get b=some (.cells cs f own d)→f<w.size
 root0:∀b p cs own d,m b=some p→b≠0→w.get b=some (.cells cs b own d)→p.off=0
section rel
variable {W0:World}{N0:Nat}{m:Emb}{w:AW}{W:World}
theorem OR.lt {b:Nat}{p:Pl}{o:AO}(h:OR N0 m w b p W o):p.blk<W.heap.size:=by
  have key:∀{ob:Obj},W.heap[p.blk]? =some ob→p.blk<W.heap.size:=fun h=>(gQe.1 h).1
  cases o with
  | cells=>obtain⟨_,_,_,_,h,_⟩:=h;exact key h
  | map=>obtain⟨_,_,_,h,_⟩:=h;exact key h
  | loop=>obtain⟨_,_,_,_,_,_,_,h,_⟩:=h;exact key h
  | deferred=>exact key h.2
  | mapIter r=>cases r with
    | none=>obtain⟨_,_,_,_,_,h⟩:=h;exact key h
    | some r=>obtain⟨_,_,_,_,_,_,_,_,_,h,_⟩:=h;exact key h
  | strIter=>obtain⟨_,_,_,h,_⟩:=h;exact key h
  | gone=>exact h.2
theorem Rel.lt(h:Rel W0 N0 m w W){b:Nat}{p:Pl}(hb:m b=some p):p.blk<W.heap.size:=by
 obtain⟨o,_,ho⟩:=h.obj b p hb;exact ho.lt
theorem Rel.same(h:Rel W0 N0 m w W){W':World}(e:W'.heap=W.heap)(hE:Env W W'):Rel W0 N0 m w W':=by
 refine⟨Env.trans h.env hE,h.pos,h.dom,by rw[e];exact h.old,?_,h.sep,h.tip,h.single,h.wf,h.wfF,h.root0⟩;intro b p hb;obtain⟨o,hg,ho⟩:=h.obj b p hb;refine⟨o,hg,?_⟩;cases o<;>simp only[OR,e]at *<;>first | exact ho | (rename_i r _ _ _ _;cases r<;>simp only[OR,e]at *<;>exact ho)
theorem OR.congr {m':Emb}{w':AW}{W':World}{b:Nat}{p:Pl}{o:AO}(h:OR N0 m w b p W o)(hm:m.le m')(hW:W'.heap[p.blk]? =W.heap[p.blk]?)
    (hs:W.heap.size≤W'.heap.size) (hf:∀x,w.fam? b=some x→w'.fam? b=some x) (hc:∀x,w.fam? b=some x→∀cs,w'.cells? b=some cs→w.cells? b=some cs)
    (hd:∀r q es v,m r=some q→w.get r=some (.map es v)→(w'.get r=some (.map es v)∧W'.heap[q.blk]? =W.heap[q.blk]?)∨∃es' v',w'.get r=some (.map es' v')∧v<v'):OR N0 m' w' b p W' o:=by
  cases o with
  | cells=>
    obtain⟨c,e,fr,x,h1,h2,h3,⟨q,h4⟩,h5,h6⟩:=h;exact⟨c,e,fr,x,hW.trans h1,h2,hf x h3,⟨q,hm _ _ h4⟩,h5,fun cs hcs=>by
      obtain⟨a1,a2,a3⟩:=h6 cs (hc x h3 cs hcs);exact⟨a1,a2,a3.mono hm⟩⟩
  | map=>obtain⟨h0,ces,cl,h1,h2,h3⟩:=h;exact⟨h0,ces,cl,hW.trans h1,h2.mono hm,h3⟩
  | loop=>obtain⟨h0,fn,ts,ps,q,h1,h2,h3,h4,h5⟩:=h;exact⟨h0,fn,ts,ps,q,hm _ _ h1,h2,hW.trans h3,h4.mono hm,h5⟩
  | deferred=>exact⟨h.1,hW.trans h.2⟩
  | mapIter r=>cases r with
    | none=>obtain⟨h0,h00,s,t,u,h1⟩:=h;exact⟨h0,h00,s,t,u,hW.trans h1⟩
    | some r=>
      obtain⟨h0,h00,q,since,seen,st,esn,vn,h1,h2,h3,h4,h5⟩:=h;rcases hd r q esn vn h1 h3 with⟨g1,g2⟩ | ⟨es',v',g1,g2⟩
      · refine⟨h0,h00,q,since,seen,st,esn,vn,hm _ _ h1,hW.trans h2,g1,h4,fun e=>?_⟩
        obtain⟨ces,a1,a2,⟨l,a3,a4⟩,a5⟩:=h5 e;refine⟨ces,g2.trans a1,a2,⟨l,a3,a4.mono hm⟩,fun x hx=>?_⟩;obtain⟨en,b1,b2,b3,b4⟩:=a5 x hx;exact⟨en,b1,b2,b3,b4.mono hm⟩
      · exact⟨h0,h00,q,since,seen,st,es',v',hm _ _ h1,hW.trans h2,g1,by omega,fun e=>by omega⟩
  | strIter=>obtain⟨h0,h00,bs,h1,h2⟩:=h;exact⟨h0,h00,bs,hW.trans h1,h2⟩
  | gone=>exact⟨h.1,Nat.lt_of_lt_of_le h.2 hs⟩
theorem Rel.fam_lt(h:Rel W0 N0 m w W){b:Nat}{x:Nat×Nat×Bool}(hf:w.fam? b=some x):b<w.size∧x.1<w.size:=by
 obtain⟨cs,o,d,hg,hr⟩:=AW.fam?_iff.1 hf;obtain⟨cs',hg',_⟩:=AW.root?_iff.1 hr;constructor
 ·rcases Nat.lt_or_ge b w.size with hb | hb
  ·exact hb
  ·rw[h.wf b hb]at hg;simp at hg
 ·rcases Nat.lt_or_ge x.1 w.size with hb | hb
  ·exact hb
  ·rw[h.wf _ hb]at hg';simp at hg'
def Emb.ext(m:Emb)(k:Nat)(p:Pl):Emb:=fun b=>if b=k then some p else m b
theorem Emb.le_ext(m:Emb){k:Nat}(p:Pl)(h:m k=none):m.le (m.ext k p):=fun b q hb=>by
 unfold Emb.ext;by_cases e:b=k
 ·subst e;rw[h]at hb;simp at hb
 ·simp[e,hb]
def jJ4(W:World)(o:Obj):World:={W with heap:=W.heap.push o}
theorem gJn {W:World}{o:Obj}{c:Nat}(h:c<W.heap.size):(jJ4 W o).heap[c]? =W.heap[c]? :=by
 have:c≠W.heap.size:=by omega
 simp[jJ4,Array.getElem?_push,this]
theorem kJb {W:World}{o:Obj}:(jJ4 W o).heap[W.heap.size]? =some o:=by simp[jJ4]
theorem Rel.push(h:Rel W0 N0 m w W)(o:AO)(O:Obj)(room:Nat)
  (ho:Rel W0 N0 m w W→OR N0 (m.ext w.size ⟨W.heap.size,0,room⟩) (w.push o) w.size ⟨W.heap.size,0,room⟩ (jJ4 W O) o)
  (hfam:∀cs f own d,o= .cells cs f own d→f=w.size):
  m.le (m.ext w.size ⟨W.heap.size,0,room⟩)∧Rel W0 N0 (m.ext w.size ⟨W.heap.size,0,room⟩) (w.push o) (jJ4 W O):=by
 have hno:m w.size=none:=by
  cases hm:m w.size with
  | none=>rfl
  | some p=>exact absurd (h.dom _ _ hm) (gQx _)
 have hle:=m.le_ext ⟨W.heap.size,0,room⟩ hno;have fold:∀b x,w.fam? b=some x→(w.push o).fam? b=some x:=fun b x hx=>by
  obtain⟨h1,h2⟩:=h.fam_lt hx;exact AW.fam?_congr hx (by simp[Nat.ne_of_lt h1]) (by simp[Nat.ne_of_lt h2])
 have cold:∀b x,w.fam? b=some x→(w.push o).cells? b=w.cells? b:=fun b x hx=>by
  obtain⟨h1,h2⟩:=h.fam_lt hx;exact AW.cells?_congr hx (by simp[Nat.ne_of_lt h1]) (by simp[Nat.ne_of_lt h2])
 have finv:∀b x,b≠w.size→(w.push o).fam? b=some x→w.fam? b=some x∨x.1=w.size:=fun b x hb hx=>by
  obtain⟨cs,ow,d,hg,hr⟩:=AW.fam?_iff.1 hx;by_cases hx1:x.1=w.size
  ·exact .inr hx1
  ·left;simp[hb]at hg;exact AW.fam?_iff.2 ⟨cs,ow,d,hg,by rw[←AW.root?_congr (w':=w.push o) (by simp[hx1])];exact hr⟩
 have fnew:∀x,(w.push o).fam? w.size=some x→x.1=w.size:=fun x hx=>by
  obtain⟨cs,ow,d,hg,hr⟩:=AW.fam?_iff.1 hx;simp at hg;exact(hfam _ _ _ _ hg)
 have foldinv:∀b x,b≠w.size→(∃y,w.fam? b=some y)→(w.push o).fam? b=some x→w.fam? b=some x:=fun b x hb ⟨y,hy⟩ hx=>by
  rw[fold b y hy]at hx;rw[hy];exact hx
 have old_of:∀b p,b≠w.size→(m.ext w.size ⟨W.heap.size,0,room⟩) b=some p→m b=some p:=fun b p hb hp=>by simpa [Emb.ext,hb]using hp
 refine⟨hle,⟨h.env,by simp,?_,?_,?_,?_,?_,?_,?_,?_,?_⟩⟩
 ·intro b p hb;by_cases e:b=w.size
  ·subst e;simp
  ·have:=h.dom _ _ (old_of b p e hb);simp;omega
 ·refine⟨by simp[jJ4];have:=h.old.1;omega,fun c hc=>?_⟩;rw[gJn (by have:=h.old.1;omega)];exact h.old.2 c hc
 ·intro b p hb;by_cases e:b=w.size
  ·subst e;have hp:p=⟨W.heap.size,0,room⟩:=by simpa [Emb.ext]using hb.symm
   subst hp;exact⟨o,by simp,ho h⟩
  ·have hb':=old_of b p e hb;obtain⟨ob,hg,hob⟩:=h.obj b p hb';refine⟨ob,by simp[e,hg],?_⟩;refine hob.congr hle (gJn (h.lt hb')) (by simp[jJ4]) (fold b) (fun x hx cs hcs=>by rw[←cold b x hx];exact hcs) ?_;intro d q es v hq hd;have:d≠w.size:=fun e=>by subst e;rw[h.wf _ (yQm _)]at hd;simp at hd
   exact .inl ⟨by simp[this,hd],gJn (h.lt hq)⟩
 ·intro b b' p p' hb hb' hblk hne;by_cases e:b=w.size
  ·have hp:p=⟨W.heap.size,0,room⟩:=by subst e;simpa [Emb.ext]using hb.symm
   have hb'':=old_of b' p' (fun e'=>hne (e.trans e'.symm)) hb';have:=h.lt hb'';rw[←hblk,hp]at this;exact absurd this (gQx _)
  ·by_cases e':b'=w.size
   ·have hp:p'=⟨W.heap.size,0,room⟩:=by subst e';simpa [Emb.ext]using hb'.symm
    have:=h.lt (old_of b p e hb);rw[hblk,hp]at this;exact absurd this (gQx _)
   ·obtain⟨x,hx,hx'⟩:=h.sep b b' p p' (old_of b p e hb) (old_of b' p' e' hb') hblk hne;exact⟨x,fold b x hx,fold b' x hx'⟩
 ·intro b b' p p' x cs cs' hb hb' hblk hf hf' hown hcs hcs';by_cases e:b=w.size
  ·by_cases e':b'=w.size
   ·subst e e';rw[hb]at hb';rw[hcs]at hcs';cases hb';cases hcs';exact yQm _
   ·have hp:p=⟨W.heap.size,0,room⟩:=by subst e;simpa [Emb.ext]using hb.symm
    have:=h.lt (old_of b' p' e' hb');rw[←hblk,hp]at this;exact absurd this (gQx _)
  ·by_cases e':b'=w.size
   ·have hp:p'=⟨W.heap.size,0,room⟩:=by subst e';simpa [Emb.ext]using hb'.symm
    have:=h.lt (old_of b p e hb);rw[hblk,hp]at this;exact absurd this (gQx _)
   ·have hbo:=old_of b p e hb;have hbo':=old_of b' p' e' hb';have fam_of:∀b p,m b=some p→∀x,(w.push o).fam? b=some x→b≠w.size→w.fam? b=some x:=fun b p hb x hx hne=>by
     obtain⟨ob,hg,hob⟩:=h.obj b p hb;obtain⟨c1,o1,d1,hg1,_⟩:=AW.fam?_iff.1 hx;simp[hne]at hg1;rw[hg]at hg1;cases hg1;obtain⟨_,_,_,y,_,_,hy,_⟩:=hob;exact foldinv b x hne ⟨y,hy⟩ hx
    have hx:=fam_of b p hbo x hf e;have hx':=fam_of b' p' hbo' x hf' e';exact h.tip b b' p p' x cs cs' hbo hbo' hblk hx hx' hown (by rw[←cold b x hx];exact hcs) (by rw[←cold b' x hx'];exact hcs')
 ·intro b x hx h0 hown hd;by_cases e:b=w.size
  ·subst e;exact(fnew x hx).symm
  ·rcases finv b x e hx with hx' | hx'
   ·exact h.single b x hx' h0 hown hd
   ·-- an old block of the new family: there is none
    obtain⟨cs,ow,d,hg,_⟩:=AW.fam?_iff.1 hx;simp[e]at hg;exact absurd (h.wfF _ _ _ _ _ hg) (by omega)
 ·intro b hb;simp at hb;have:b≠w.size:=by omega
  simp[this];exact h.wf b (by omega)
 ·intro b cs f own d hg;by_cases e:b=w.size
  ·subst e;simp at hg;have:=hfam _ _ _ _ hg;simp;omega
  ·simp[e]at hg;have:=h.wfF _ _ _ _ _ hg;simp;omega
 ·intro b p cs own d hb h0 hg;by_cases e:b=w.size
  ·have hp:p=⟨W.heap.size,0,room⟩:=by subst e;simpa [Emb.ext]using hb.symm
   rw[hp]
  ·simp[e]at hg;exact h.root0 b p _ _ _ (old_of b p e hb) h0 hg
end rel
end Go.Sx
namespace Go.Sx
theorem kQu {α:Type}(L vs:List α)(a o n:Nat)(h:a+n≤L.length)(hk:o+vs.length≤n):
  ((L.take (a+o)++vs++L.drop (a+o+vs.length)).drop a).take n=((L.drop a).take n).take o++vs++((L.drop a).take n).drop (o+vs.length):=by
 have e1:L.take (a+o)=L.take a++(L.drop a).take o:=by rw[List.take_add]
 have e2:L.drop (a+o+vs.length)=(L.drop a).drop (o+vs.length):=by rw[gQs,Nat.add_assoc]
 have hl:(L.take a).length=a:=by simp;omega
 rw[e1,e2,yQy,yQy,List.drop_left' hl];have hM:n≤(L.drop a).length:=by simp;omega
 generalize L.drop a=M at *;have ho:(M.take o).length=o:=by simp;omega
 rw[List.take_append,List.take_append,ho,List.take_take,List.drop_take,List.take_take];have m1:min n o=o:=by omega
 have m2:min o n=o:=by omega
 rw[m1,m2,yQ5 (by omega:vs.length≤n - o),yQy];congr 3;omega
section rel
variable {W0:World}{N0:Nat}{m:Emb}{w:AW}{W:World}
theorem Rel.setObj(h:Rel W0 N0 m w W){b:Nat}{p:Pl}(hb:m b=some p)(o o':AO)(O:Obj)(hg:w.get b=some o)
    (hn:∀cs f own d,o≠ .cells cs f own d) (hn':∀cs f own d,o'≠ .cells cs f own d) (hmap:∀es v,o= .map es v→∃es' v',o'= .map es' v'∧v<v')
    (ho:OR N0 m (w.set b o') b p (zJh W p.blk O) o') (hN:N0≤p.blk):Rel W0 N0 m (w.set b o') (zJh W p.blk O):=by
  have hno:∀x,w.fam? b≠some x:=fun x hx=>by
    obtain⟨_,_,_,hg',_⟩:=AW.fam?_iff.1 hx;rw[hg]at hg';exact hn _ _ _ _ (gQb hg')
  have hno':∀x,(w.set b o').fam? b≠some x:=fun x hx=>by
    obtain⟨_,_,_,hg',_⟩:=AW.fam?_iff.1 hx;simp at hg';exact hn' _ _ _ _ hg'
  have hroot:∀x,w.root? b≠some x:=fun x hx=>by
    obtain⟨_,hg',_⟩:=AW.root?_iff.1 hx;rw[hg]at hg';exact hn _ _ _ _ (gQb hg')
  have hroot':∀x,(w.set b o').root? b≠some x:=fun x hx=>by
    obtain⟨_,hg',_⟩:=AW.root?_iff.1 hx;simp at hg';exact hn' _ _ _ _ hg'
  have fam:∀c x,w.fam? c=some x↔(w.set b o').fam? c=some x:=fun c x=>by
    constructor
    · intro hx
      have hc:c≠b:=fun e=>hno x (e▸hx);have hr:x.1≠b:=fun e=>hroot x (e▸AW.fam?_root hx);exact AW.fam?_congr hx (by simp[hc]) (by simp[hr])
    · intro hx
      have hc:c≠b:=fun e=>hno' x (e▸hx);have hr:x.1≠b:=fun e=>by have:=AW.fam?_root hx;rw[e]at this;exact hroot' x this
      exact AW.fam?_congr hx (by simp[hc]) (by simp[hr])
  have cells:∀c x,w.fam? c=some x→(w.set b o').cells? c=w.cells? c:=fun c x hx=>by
    have hc:c≠b:=fun e=>hno x (e▸hx);have hr:x.1≠b:=fun e=>hroot x (e▸AW.fam?_root hx);exact AW.cells?_congr hx (by simp[hc]) (by simp[hr])
  have apart:∀c q,m c=some q→c≠b→q.blk≠p.blk:=fun c q hc hne e=>by
    obtain⟨x,_,hx⟩:=h.sep c b q p hc hb e hne;exact hno x hx
  refine⟨h.env,h.pos,h.dom,⟨by simp;exact h.old.1,fun c hc=>?_⟩,?_,?_,?_,?_,?_,?_,?_⟩
  · rw[zJb (by omega)];exact h.old.2 c hc
  · intro c q hc
    by_cases e:c=b
    · subst e
      rw[hb]at hc;cases hc;exact⟨o',by simp,ho⟩
    · obtain⟨ob,hg',hob⟩:=h.obj c q hc
      refine⟨ob,by simp[e,hg'],?_⟩;have hW:(zJh W p.blk O).heap[q.blk]? =W.heap[q.blk]? :=zJb (apart c q hc e);have hf:∀x,w.fam? c=some x→(w.set b o').fam? c=some x:=fun x=>(fam c x).1;have hcc:∀x,w.fam? c=some x→∀cs,(w.set b o').cells? c=some cs→w.cells? c=some cs:=fun x hx cs hcs=>by rw[←cells c x hx];exact hcs
      cases ob with
      | loop st pending fn tmps params assign body d=>
        obtain⟨h0,fn',ts,ps,r,h1,h2,h3,h4,h5⟩:=hob;exact⟨h0,fn',ts,ps,r,h1,h2,hW.trans h3,h4,h5⟩
      | cells=>
        obtain⟨c1,e1,fr,x,h1,h2,h3,h4,h5,h6⟩:=hob;exact⟨c1,e1,fr,x,hW.trans h1,h2,hf x h3,h4,h5,fun cs hcs=>h6 cs (hcc x h3 cs hcs)⟩
      | map=>obtain⟨h0,ces,cl,h1,h2⟩:=hob;exact⟨h0,ces,cl,hW.trans h1,h2⟩
      | deferred=>exact⟨hob.1,hW.trans hob.2⟩
      | mapIter r=>cases r with
        | none=>obtain⟨h0,h00,s,t,u,h1⟩:=hob;exact⟨h0,h00,s,t,u,hW.trans h1⟩
        | some r=>
          obtain⟨h0,h00,qr,since,seen,st,esn,vn,h1,h2,h3,h4,h5⟩:=hob;by_cases erb:r=b
          · subst erb
            rw[hg]at h3;obtain⟨es',v',g1,g2⟩:=hmap esn vn (gQb h3);exact⟨h0,h00,qr,since,seen,st,es',v',h1,hW.trans h2,by simp[g1],by omega,fun e=>by omega⟩
          · refine⟨h0,h00,qr,since,seen,st,esn,vn,h1,hW.trans h2,by simp[erb,h3],h4,fun e=>?_⟩
            obtain⟨ces,a1,a2⟩:=h5 e;exact⟨ces,(zJb (apart r qr h1 erb)).trans a1,a2⟩
      | strIter=>obtain⟨h0,h00,bs,h1,h2⟩:=hob;exact⟨h0,h00,bs,hW.trans h1,h2⟩
      | gone=>exact⟨hob.1,by simpa using hob.2⟩
  · intro c c' q q' hc hc' hblk hne
    obtain⟨x,hx,hx'⟩:=h.sep c c' q q' hc hc' hblk hne;exact⟨x,(fam _ _).1 hx,(fam _ _).1 hx'⟩
  · intro c c' q q' x cs cs' hc hc' hblk hf hf' hown hcs hcs'
    have hx:=(fam c x).2 hf;have hx':=(fam c' x).2 hf';exact h.tip c c' q q' x cs cs' hc hc' hblk hx hx' hown (by rw[←cells c x hx];exact hcs) (by rw[←cells c' x hx'];exact hcs')
  · intro c x hx;exact h.single c x ((fam c x).2 hx)
  · intro c hc
    have:c≠b:=fun e=>by subst e;rw[h.wf _ hc]at hg;simp at hg
    simp[this];exact h.wf c hc
  · intro c cs f own d hg'
    by_cases e:c=b
    · subst e;simp at hg';exact absurd hg' (hn' _ _ _ _)
    · simp[e]at hg';exact h.wfF _ _ _ _ _ hg'
  · intro c q cs own d hc h0 hg'
    by_cases e:c=b
    · subst e;simp at hg';exact absurd hg' (hn' _ _ _ _)
    · simp[e]at hg';exact h.root0 _ _ _ _ _ hc h0 hg'
theorem yJq(f own:Nat)(dirty:Bool):(w.setFam f own dirty).size=w.size:=by
 unfold AW.setFam;split<;>rfl
theorem mJ4(f:Nat)(cs:List AV):(w.setCs f cs).size=w.size:=by
 unfold AW.setCs;split<;>rfl
theorem vJu {b o:Nat}{vs:List AV}{w':AW}(h:w.putCells b o vs=some w'):
    ∃f own dirty cs own1 dirty1 cs0,w.fam? b=some (f,own,dirty)∧w.cells? b=some cs∧f≠0∧o+vs.length≤cs.length∧w'.size=w.size∧
      w.get b=some (.cells cs f own1 dirty1)∧w.get f=some (.cells cs0 f own dirty)∧
      ((f=b∧own=b∧dirty=false∧∀c,w'.get c=if c=b then some (.cells (qJg cs o vs) b b false)else w.get c)∨
       (¬(f=b∧own=b∧dirty=false)∧f=b∧∀c,w'.get c=if c=b then some (.cells (qJg cs o vs) b b true)else w.get c)∨
       (f≠b∧∀c,w'.get c=if c=b then some (.cells (qJg cs o vs) f own1 dirty1)else if c=f then some (.cells cs0 f b true)else w.get c)):=by
  unfold AW.putCells at h
  cases hf:w.fam? b with
  | none=>simp[hf]at h
  | some x=>
    obtain⟨f,own,dirty⟩:=x
    cases hc:w.cells? b with
    | none=>simp[hf,hc]at h
    | some cs=>
      simp only[hf,hc]at h;obtain⟨x,own1,dirty1,hf',hv,hg⟩:=AW.cells?_iff.1 hc;rw[hf]at hf';cases hf';obtain⟨cs0,hg0,_⟩:=AW.root?_iff.1 (AW.fam?_root hf);simp only at hg hg0 hv;split at h
      · simp at h
      · rename_i hcond
        simp only[not_or,Nat.not_lt]at hcond;refine⟨f,own,dirty,cs,own1,dirty1,cs0,rfl,rfl,hcond.1,hcond.2,?_,hg,hg0,?_⟩
        · split at h
          · cases h;exact mJ4 _ _
          · cases h;rw[mJ4,yJq]
        · split at h
          · rename_i hs
            obtain⟨rfl,hs2,hs3⟩:=hs;subst hs2 hs3;cases h;left;refine⟨rfl,rfl,rfl,fun c=>?_⟩;rw[hg]at hg0;cases hg0;simp[AW.setCs,hg]
          · rename_i hs
            cases h;right;by_cases e:f=b
            · subst e
              left;refine⟨hs,rfl,fun c=>?_⟩;simp only[AW.setFam,hg0,AW.setCs,AW.set_get,if_true];by_cases ec:c=f<;>simp[ec]
            · right
              refine⟨e,fun c=>?_⟩;have eb:b≠f:=fun e'=>e e'.symm;simp only[AW.setFam,hg0,AW.setCs,AW.set_get,if_neg eb,hg]
theorem Rel.put(h:Rel W0 N0 m w W){b o:Nat}{vs:List AV}{w':AW}(hp:w.putCells b o vs=some w'){p:Pl}(hb:m b=some p)
    {cvs:List Value} (hv:VRs m vs cvs) (h1:∀a∈vs,qJc a=true):
    ∃c e fr,W.heap[p.blk]? =some (.cells c e fr)∧p.off+o+cvs.length≤c.size∧(fr.1=fr.2∨c.size≤fr.1)∧
      Rel W0 N0 m w' (zJh W p.blk (.cells (jJz c (p.off+o) cvs) e fr)):=by
  obtain⟨f,own,dirty,cs,own1,dirty1,cs0,hf,hc,hf0,hlen,hsz,hgb,hgf,hcase⟩:=vJu hp;obtain⟨ob,hgob,hob⟩:=h.obj b p hb;rw[hgb]at hgob;cases hgob;obtain⟨c,e,fr,x,hW,hroom,hx,⟨q,hq⟩,hN,hcells⟩:=hob;rw[hf]at hx;cases hx;obtain⟨hl,hok,hvr⟩:=hcells cs hc;obtain⟨hN1,hfr⟩:=hN hf0;have hvl:=hv.length;refine⟨c,e,fr,hW,by omega,hfr,?_⟩
  -- what is known of the new heap
  have gother:∀k,k≠b→k≠f→w'.get k=w.get k:=fun k hk hkf=>by
    rcases hcase with⟨_,_,_,hg⟩ | ⟨_,_,hg⟩ | ⟨_,hg⟩<;>simp[hg,hk,hkf]
  have gb:∃o1 d1,w'.get b=some (.cells (qJg cs o vs) f o1 d1):=by
    rcases hcase with⟨e1,_,_,hg⟩ | ⟨_,e1,hg⟩ | ⟨_,hg⟩
    · exact⟨b,false,by simp[hg,e1]⟩
    · exact⟨b,true,by simp[hg,e1]⟩
    · exact⟨own1,dirty1,by simp[hg]⟩
  have gf:∃cs1,w'.get f=some (.cells cs1 f b (if f=b∧own=b∧dirty=false then false else true)):=by
    rcases hcase with⟨e1,e2,e3,hg⟩ | ⟨hn,e1,hg⟩ | ⟨hn,hg⟩
    · refine⟨qJg cs o vs,?_⟩
      rw[if_pos ⟨e1,e2,e3⟩,e1];simp[hg]
    · refine⟨qJg cs o vs,?_⟩
      rw[if_neg hn,e1];simp[hg]
    · refine⟨cs0,?_⟩
      rw[if_neg (fun hh=>hn hh.1)];have:f≠b:=hn;simp[hg,this]
  obtain⟨cs1,hgf'⟩:=gf;obtain⟨o1,d1,hgb'⟩:=gb
  -- the new dirt
  let D:Bool:=if f=b∧own=b∧dirty=false then false else true
  have hroot':w'.root? f=some (f,b,D):=AW.root?_iff.2 ⟨cs1,hgf',rfl⟩;have hfb':w'.fam? b=some (f,b,D):=AW.fam?_iff.2 ⟨_,o1,d1,hgb',hroot'⟩;have hcb':w'.cells? b=some (qJg cs o vs):=AW.cells?_iff.2 ⟨_,o1,d1,hfb', .inr rfl,hgb'⟩
  -- other blocks of the family
  have fsame:∀k,k≠b→w.fam? k=some (f,own,dirty)→w'.fam? k=some (f,b,D)∧w'.cells? k=none:=fun k hk hfk=>by
    obtain⟨ck,ok,dk,hgk,_⟩:=AW.fam?_iff.1 hfk;have hD:D=true:=by
      show(if _ then _ else _)=true;rw[if_neg];rintro⟨e1,e2,e3⟩;have:=h.single k _ hfk hf0 (by simp[e1,e2]) e3;exact hk (this.trans e1)
    have hgk':∃ck' ok' dk',w'.get k=some (.cells ck' f ok' dk'):=by
      by_cases ekf:k=f
      · subst ekf;exact⟨_,_,_,hgf'⟩
      · exact⟨ck,ok,dk,by rw[gother k hk ekf];exact hgk⟩
    obtain⟨ck',ok',dk',hgk'⟩:=hgk';have hfk':w'.fam? k=some (f,b,D):=AW.fam?_iff.2 ⟨_,_,_,hgk',hroot'⟩;refine⟨hfk',?_⟩
    cases hck:w'.cells? k with
    | none=>rfl
    | some ck=>
      obtain⟨y,_,_,hy,hval,_⟩:=AW.cells?_iff.1 hck;rw[hfk']at hy;cases hy;rcases hval with hval | hval
      · simp[hD]at hval
      · exact absurd hval.symm hk
  -- blocks of other families
  have fother:∀k y,w.fam? k=some y→y.1≠f→w'.fam? k=some y∧w'.cells? k=w.cells? k:=fun k y hy hne=>by
    have hkb:k≠b:=fun ek=>by subst ek;rw[hf]at hy;cases hy;exact hne rfl
    have hkf:k≠f:=fun ek=>by
      subst ek;obtain⟨_,_,_,hgk,_⟩:=AW.fam?_iff.1 hy;rw[hgf]at hgk;cases hgk;exact hne rfl
    have hyb:y.1≠b:=fun ek=>by
      obtain⟨_,hgy,_⟩:=AW.root?_iff.1 (AW.fam?_root hy);rw[ek,hgb]at hgy;cases hgy;exact hne ek
    exact⟨AW.fam?_congr hy (gother k hkb hkf) (gother _ hyb hne),AW.cells?_congr hy (gother k hkb hkf) (gother _ hyb hne)⟩
  have fam_dec:∀k y,w.fam? k=some y→y=(f,own,dirty)∨y.1≠f:=fun k y hy=>by
    by_cases e:y.1=f
    · left;exact AW.fam?_same hy hf e
    · exact .inr e
  -- back
  have fback:∀k y',w'.fam? k=some y'→∃y,w.fam? k=some y∧y.1=y'.1:=fun k y' hy'=>by
    obtain⟨ck,ok,dk,hgk,hrk⟩:=AW.fam?_iff.1 hy';have hgk0:∃ck0 ok0 dk0,w.get k=some (.cells ck0 y'.1 ok0 dk0):=by
      by_cases ekb:k=b
      · subst ekb;rw[hgb']at hgk;cases hgk;exact⟨cs,own1,dirty1,hgb⟩
      · by_cases ekf:k=f
        · subst ekf;rw[hgf']at hgk
          have:y'.1=k:=by cases hgk;rfl
          rw[this];exact⟨cs0,own,dirty,hgf⟩
        · exact⟨ck,ok,dk,by rw[←gother k ekb ekf];exact hgk⟩
    obtain⟨ck0,ok0,dk0,hgk0⟩:=hgk0;have hr0:∃y,w.root? y'.1=some y:=by
      obtain⟨cr,hgr,_⟩:=AW.root?_iff.1 hrk;by_cases ekf:y'.1=f
      · rw[ekf];exact⟨_,AW.fam?_root hf⟩
      · by_cases ekb:y'.1=b
        · rw[ekb,hgb']at hgr;cases hgr;exact absurd ekb ekf
        · rw[gother _ ekb ekf]at hgr
          exact⟨(y'.1,y'.2.1,y'.2.2),AW.root?_iff.2 ⟨cr,hgr,rfl⟩⟩
    obtain⟨y,hy⟩:=hr0;obtain⟨_,_,hy1⟩:=AW.root?_iff.1 hy;exact⟨y,AW.fam?_iff.2 ⟨ck0,ok0,dk0,by rw[hy1];exact hgk0,by rw[hy1];exact hy⟩,hy1⟩
  have gnc:∀k ob,w.get k=some ob→(∀cs f own d,ob≠ .cells cs f own d)→w'.get k=some ob:=fun k ob hk hn=>by
    have hkb:k≠b:=fun ek=>by subst ek;rw[hgb]at hk;exact hn _ _ _ _ (gQb hk).symm
    have hkf:k≠f:=fun ek=>by subst ek;rw[hgf]at hk;exact hn _ _ _ _ (gQb hk).symm
    rw[gother k hkb hkf];exact hk
  have hWn:=zJu (o':= .cells (jJz c (p.off+o) cvs) e fr) hW;have hrs:(jJz c (p.off+o) cvs).size=c.size:=dJ1 (by omega);have hlp:(qJg cs o vs).length=cs.length:=by simp[qJg];omega
  refine⟨h.env,by rw[hsz];exact h.pos,fun k q hk=>by rw[hsz];exact h.dom k q hk,⟨by simp;exact h.old.1,fun k hk=>?_⟩,?_,?_,?_,?_,?_,?_,?_⟩
  · rw[zJb (by omega)];exact h.old.2 k hk
  · intro k pk hk
    obtain⟨ob,hgk,hobk⟩:=h.obj k pk hk;by_cases ekb:k=b
    · subst ekb
      rw[hb]at hk;cases hk;refine⟨_,hgb',_,e,fr,_,hWn,by rw[hrs];exact hroom,hfb',⟨q,hq⟩,fun _=>⟨hN1,by rw[hrs];exact hfr⟩,?_⟩;intro cs2 hcs2;rw[hcb']at hcs2;cases hcs2;refine⟨by rw[hlp];exact hl,?_,?_⟩
      · intro a ha
        simp only[qJg,yQ1]at ha;rcases ha with(ha | ha) | ha
        · exact hok a (gQz ha)
        · exact h1 a ha
        · exact hok a (List.mem_of_mem_drop ha)
      · rw[hlp]
        have hrl:(jJz c (p.off+o) cvs).toList=c.toList.take (p.off+o)++cvs++c.toList.drop (p.off+o+cvs.length):=rfl
        -- the row's part from p.off on
        have hseg:((jJz c (p.off+o) cvs).toList.drop p.off).take cs.length=
            (((c.toList.drop p.off).take cs.length).take o++cvs++((c.toList.drop p.off).take cs.length).drop (o+cvs.length)):=by
          rw[hrl];exact kQu _ _ _ _ _ (by simp;omega) (by omega)
        rw[hseg];unfold qJg;exact((hvr.take o).append hv).append (by rw[←hvl];exact hvr.drop _)
    · cases ob with
      | cells ck fk ok dk=>
        obtain⟨c',e',fr',x',hW',hroom',hx',hq',hN',hcells'⟩:=hobk;have hgk2:∃ob',w'.get k=some ob'∧∃a b' c d,ob'= .cells a b' c d:=by
          by_cases ekf:k=f
          · subst ekf;exact⟨_,hgf',_,_,_,_,rfl⟩
          · exact⟨_,(gother k ekb ekf).trans hgk,_,_,_,_,rfl⟩
        obtain⟨ob',hgk',a1,a2,a3,a4,rfl⟩:=hgk2;refine⟨_,hgk',?_⟩;by_cases eblk:pk.blk=p.blk
        · -- the same block of the model: the same family: stale
          obtain⟨y,hy,hy'⟩:=h.sep k b pk p hk hb eblk ekb;rw[hf]at hy';cases hy';obtain⟨z1,z2⟩:=fsame k ekb hy;rw[hx']at hy;cases hy;have hWe:c'=c∧e'=e∧fr'=fr:=by
            rw[eblk,hW]at hW';cases hW';exact⟨rfl,rfl,rfl⟩
          obtain⟨rfl,rfl,rfl⟩:=hWe;exact⟨_,e',fr',_,by rw[eblk];exact hWn,by rw[hrs];exact hroom',z1,⟨q,hq⟩,fun _=>⟨by rw[eblk];exact hN1,by rw[hrs];exact hfr⟩,fun cs2 hcs2=>by rw[z2]at hcs2;simp at hcs2⟩
        · have hWk:(zJh W p.blk (.cells (jJz c (p.off+o) cvs) e fr)).heap[pk.blk]? =some (.cells c' e' fr'):=by rw[zJb eblk];exact hW'
          rcases fam_dec k x' hx' with rfl | hne
          · obtain⟨z1,z2⟩:=fsame k ekb hx'
            exact⟨c',e',fr',_,hWk,hroom',z1,⟨q,hq⟩,fun _=>hN' hf0,fun cs2 hcs2=>by rw[z2]at hcs2;simp at hcs2⟩
          · obtain⟨z1,z2⟩:=fother k x' hx' hne
            exact⟨c',e',fr',x',hWk,hroom',z1,hq',hN',fun cs2 hcs2=>hcells' cs2 (by rw[←z2];exact hcs2)⟩
      | _=>
        have apart:pk.blk≠p.blk:=fun e'=>by
          obtain⟨y,hy,_⟩:=h.sep k b pk p hk hb e' ekb;obtain⟨_,_,_,hg',_⟩:=AW.fam?_iff.1 hy;rw[hgk]at hg';simp at hg'
        refine⟨_,gnc k _ hgk (by simp),hobk.congr m.le_refl (zJb apart) (by simp) ?_ ?_ (fun d q es v hq hd=> .inl ⟨gnc d _ hd (by simp),zJb fun e'=>by
          have edb:d≠b:=fun e=>by subst e;rw[hgb]at hd;simp at hd
          obtain⟨y,hy,_⟩:=h.sep d b q p hq hb e' edb;obtain⟨_,_,_,hg',_⟩:=AW.fam?_iff.1 hy;rw[hd]at hg';simp at hg'⟩)⟩
        · intro x hx
          obtain⟨_,_,_,hg',_⟩:=AW.fam?_iff.1 hx;rw[hgk]at hg';simp at hg'
        · intro x hx
          obtain⟨_,_,_,hg',_⟩:=AW.fam?_iff.1 hx;rw[hgk]at hg';simp at hg'
  · intro k k' pk pk' hk hk' hblk hne
    obtain⟨y,hy,hy'⟩:=h.sep k k' pk pk' hk hk' hblk hne;rcases fam_dec k y hy with rfl | hyf
    · refine⟨(f,b,D),?_,?_⟩
      · by_cases e1:k=b
        · subst e1;exact hfb'
        · exact(fsame k e1 hy).1
      · by_cases e1:k'=b
        · subst e1;exact hfb'
        · exact(fsame k' e1 hy').1
    · exact⟨y,(fother k y hy hyf).1,(fother k' y hy' hyf).1⟩
  · intro k k' pk pk' y' ck ck' hk hk' hblk hfk hfk' hown hck hck'
    obtain⟨y,hy,hy1⟩:=fback k y' hfk;obtain⟨z,hz,hz1⟩:=fback k' y' hfk';have hyz:y=z:=AW.fam?_same hy hz (hy1.trans hz1.symm);subst hyz;rcases fam_dec k y hy with rfl | hyf
    · by_cases e1:k=b
      · subst e1
        by_cases e2:k'=k
        · subst e2;rw[hk]at hk';rw[hck]at hck';cases hk';cases hck';exact yQm _
        · rw[(fsame k' e2 hz).2]at hck';simp at hck'
      · rw[(fsame k e1 hy).2]at hck;simp at hck
    · obtain⟨a1,a2⟩:=fother k y hy hyf
      obtain⟨b1,b2⟩:=fother k' y hz hyf;rw[hfk]at a1;cases a1;exact h.tip k k' pk pk' _ ck ck' hk hk' hblk hy hz hown (by rw[←a2];exact hck) (by rw[←b2];exact hck')
  · intro k y' hfk h0 hown hd
    obtain⟨y,hy,hy1⟩:=fback k y' hfk;rcases fam_dec k y hy with rfl | hyf
    · by_cases e1:k=b
      · subst e1;rw[hfb']at hfk;cases hfk;exact hown
      · obtain⟨z1,_⟩:=fsame k e1 hy
        rw[z1]at hfk;cases hfk
        -- own = b = root: then the family was single
        simp only at hown hd;have hD:(if f=b∧own=b∧dirty=false then false else true)=false:=hd;split at hD
        · rename_i hs
          have:=h.single k _ hy hf0 (by simp[hs.1,hs.2.1]) hs.2.2;exact this
        · simp at hD
    · obtain⟨z1,_⟩:=fother k y hy hyf
      rw[z1]at hfk;cases hfk;exact h.single k _ hy h0 hown hd
  · intro k hk
    rw[hsz]at hk;have hkb:k≠b:=fun ek=>by subst ek;rw[h.wf _ hk]at hgb;simp at hgb
    have hkf:k≠f:=fun ek=>by subst ek;rw[h.wf _ hk]at hgf;simp at hgf
    rw[gother k hkb hkf];exact h.wf k hk
  · intro k ck fk ok dk hgk
    rw[hsz];by_cases ekb:k=b
    · subst ekb;rw[hgb']at hgk;cases hgk;exact h.wfF _ _ _ _ _ hgb
    · by_cases ekf:k=f
      · subst ekf;rw[hgf']at hgk;cases hgk;exact h.wfF _ _ _ _ _ hgf
      · rw[gother k ekb ekf]at hgk;exact h.wfF _ _ _ _ _ hgk
  · intro k pk ck ok dk hk h0 hgk
    by_cases ekb:k=b
    · subst ekb;rw[hgb']at hgk;cases hgk;exact h.root0 _ _ _ _ _ hk h0 hgb
    · by_cases ekf:k=f
      · subst ekf;rw[hgf']at hgk;cases hgk;exact h.root0 _ _ _ _ _ hk h0 hgf
      · rw[gother k ekb ekf]at hgk;exact h.root0 _ _ _ _ _ hk h0 hgk
end rel
end Go.Sx
namespace Go.Sx
section rel
variable {W0:World}{N0:Nat}{m:Emb}{w:AW}{W:World}
theorem pJm(cs:List AV):(newCells w cs).fam? w.size=some (w.size,w.size,false):=by
 refine AW.fam?_iff.2 ⟨cs,w.size,false,by simp[newCells,qJ4],AW.root?_iff.2 ⟨cs,by simp[newCells,qJ4],rfl⟩⟩
theorem mJn(cs:List AV):(newCells w cs).cells? w.size=some cs:=
 AW.cells?_iff.2 ⟨_,w.size,false,pJm cs,.inl rfl,by simp[newCells,qJ4]⟩
theorem Rel.newRow(h:Rel W0 N0 m w W){cs:List AV}{c:Array Value}(e:TypeId)(hl:cs.length≤c.size)(hok:∀a∈cs,qJc a=true)
  (hv:VRs m cs (c.toList.take cs.length)):
  m.le (m.ext w.size ⟨W.heap.size,0,c.size⟩)∧Rel W0 N0 (m.ext w.size ⟨W.heap.size,0,c.size⟩) (newCells w cs) (jJ4 W (.cells c e)):=by
 refine h.push (qJ4 w cs) (.cells c e) c.size ?_ ?_
 ·intro _;refine⟨c,e,(0,0),(w.size,w.size,false),kJb,by simp,pJm cs,⟨_,by simp[Emb.ext];rfl⟩,fun _=>⟨h.old.1,.inl rfl⟩,?_⟩;intro cs' hcs';have:=mJn (w:=w) cs;unfold newCells at this;rw[this]at hcs';cases hcs';have hno:m w.size=none:=by
   cases hm:m w.size with
   | none=>rfl
   | some p=>exact absurd (h.dom _ _ hm) (gQx _)
  exact⟨hl,hok,by simpa using hv.mono (m.le_ext _ hno)⟩
 ·intro cs' f own d hh;unfold qJ4 at hh;cases hh;rfl
theorem cJd {b:Nat}{cs:List AV}{w':AW}(hwf:∀b,w.size≤b→w.get b=none)(h:w.heir b cs=some w'):
    ∃f dirty cs0,w.fam? b=some (f,b,dirty)∧f≠0∧f<w.size∧w.get f=some (.cells cs0 f b dirty)∧w'.size=w.size+1∧
      ∀k,w'.get k=if k=w.size then some (.cells cs f 0 false)else if k=f then some (.cells cs0 f w.size dirty)else w.get k:=by
  unfold AW.heir at h;split at h
  · rename_i f own dirty hf
    split at h
    · rename_i hc
      obtain⟨h0,rfl⟩:=hc;cases h;obtain⟨cs0,hg,_⟩:=AW.root?_iff.1 (AW.fam?_root hf);simp only at hg;have hlt:f<w.size:=by
        rcases Nat.lt_or_ge f w.size with hb | hb
        · exact hb
        · rw[hwf f hb]at hg;simp at hg
      refine⟨f,dirty,cs0,hf,h0,hlt,hg,by simp[yJq],fun k=>?_⟩;simp only[AW.push_get,yJq];by_cases e:k=w.size
      · simp[e]
      · simp[e,AW.setFam,hg]
    · simp at h
  · simp at h
theorem aJ3(h:Rel W0 N0 m w W){b:Nat}{cs:List AV}{w':AW}{f:Nat}{dirty:Bool}{cs0:List AV}(hf:w.fam? b=some (f,b,dirty))(hf0:f≠0)(hlt:f<w.size)
    (hgf:w.get f=some (.cells cs0 f b dirty)) (hget:∀k,w'.get k=if k=w.size then some (.cells cs f 0 false)else if k=f then some (.cells cs0 f w.size dirty)else w.get k):
    w'.fam? w.size=some (f,w.size,dirty)∧w'.cells? w.size=some cs∧
    (∀k,w.fam? k=some (f,b,dirty)→w'.fam? k=some (f,w.size,dirty)∧(dirty=false→w'.cells? k=w.cells? k)∧(dirty=true→w'.cells? k=none))∧
    (∀k y,w.fam? k=some y→y.1≠f→w'.fam? k=some y∧w'.cells? k=w.cells? k)∧
    (∀k y',k≠w.size→w'.fam? k=some y'→∃y,w.fam? k=some y∧y.1=y'.1)∧
    (∀k ob,w.get k=some ob→(∀cs f own d,ob≠ .cells cs f own d)→w'.get k=some ob):=by
  have hroot':w'.root? f=some (f,w.size,dirty):=AW.root?_iff.2 ⟨cs0,by simp[hget,Nat.ne_of_lt hlt],rfl⟩;have hnew:w'.fam? w.size=some (f,w.size,dirty):=AW.fam?_iff.2 ⟨cs,0,false,by simp[hget],hroot'⟩;refine⟨hnew,AW.cells?_iff.2 ⟨_,0,false,hnew, .inr rfl,by simp[hget]⟩,?_,?_,?_,?_⟩
  · intro k hk
    have hks:k≠w.size:=Nat.ne_of_lt (h.fam_lt hk).1;obtain⟨ck,ok,dk,hgk,_⟩:=AW.fam?_iff.1 hk;simp only at hgk;have hgk':∃ok' dk',w'.get k=some (.cells ck f ok' dk'):=by
      by_cases e:k=f
      · subst e;rw[hgf]at hgk;cases hgk;exact⟨w.size,dirty,by simp[hget,hks]⟩
      · exact⟨ok,dk,by simp[hget,hks,e,hgk]⟩
    obtain⟨ok',dk',hgk'⟩:=hgk';have hfk':w'.fam? k=some (f,w.size,dirty):=AW.fam?_iff.2 ⟨_,_,_,hgk',hroot'⟩;refine⟨hfk',?_,?_⟩
    · intro hd
      rw[AW.cells?_iff.2 ⟨_,ok',dk',hfk', .inl hd,hgk'⟩,AW.cells?_iff.2 ⟨_,ok,dk,hk, .inl hd,hgk⟩]
    · intro hd
      cases hck:w'.cells? k with
      | none=>rfl
      | some c'=>
        obtain⟨y,_,_,hy,hval,_⟩:=AW.cells?_iff.1 hck;rw[hfk']at hy;cases hy;rcases hval with hval | hval
        · simp[hd]at hval
        · exact absurd hval.symm hks
  · intro k y hy hne
    have hks:k≠w.size:=Nat.ne_of_lt (h.fam_lt hy).1;have hys:y.1≠w.size:=Nat.ne_of_lt (h.fam_lt hy).2;have hkf:k≠f:=fun ek=>by
      subst ek;obtain⟨_,_,_,hgk,_⟩:=AW.fam?_iff.1 hy;rw[hgf]at hgk;cases hgk;exact hne rfl
    exact⟨AW.fam?_congr hy (by simp[hget,hks,hkf]) (by simp[hget,hys,hne]),AW.cells?_congr hy (by simp[hget,hks,hkf]) (by simp[hget,hys,hne])⟩
  · intro k y' hks hy'
    obtain⟨ck,ok,dk,hgk,hrk⟩:=AW.fam?_iff.1 hy';have hgk0:∃ok0 dk0,w.get k=some (.cells ck y'.1 ok0 dk0):=by
      by_cases ekf:k=f
      · subst ekf
        simp[hget,hks]at hgk;obtain⟨rfl,e1,_⟩:=hgk;rw[←e1];exact⟨_,_,hgf⟩
      · simp[hget,hks,ekf]at hgk;exact⟨_,_,hgk⟩
    obtain⟨ok0,dk0,hgk0⟩:=hgk0;have hys:y'.1<w.size:=h.wfF _ _ _ _ _ hgk0;have hr0:∃y,w.root? y'.1=some y:=by
      obtain⟨cr,hgr,_⟩:=AW.root?_iff.1 hrk;by_cases ekf:y'.1=f
      · rw[ekf];exact⟨_,AW.fam?_root hf⟩
      · simp[hget,Nat.ne_of_lt hys,ekf]at hgr
        exact⟨(y'.1,y'.2.1,y'.2.2),AW.root?_iff.2 ⟨cr,hgr,rfl⟩⟩
    obtain⟨y,hy⟩:=hr0;obtain⟨_,_,hy1⟩:=AW.root?_iff.1 hy;exact⟨y,AW.fam?_iff.2 ⟨ck,ok0,dk0,by rw[hy1];exact hgk0,by rw[hy1];exact hy⟩,hy1⟩
  · intro k ob hk hn
    have hks:k≠w.size:=fun e=>by subst e;rw[h.wf _ (yQm _)]at hk;simp at hk
    have hkf:k≠f:=fun ek=>by subst ek;rw[hgf]at hk;exact hn _ _ _ _ (gQb hk).symm
    simp[hget,hks,hkf,hk]
theorem Rel.heir(h:Rel W0 N0 m w W){b:Nat}{cs ns:List AV}{w':AW}(hh:w.heir b ns=some w'){p:Pl}(hb:m b=some p)(hcb:w.cells? b=some cs)
    (pn:Pl) {W':World} (hE:Env W W') (hold:N0≤W'.heap.size∧∀c,c<N0→W'.heap[c]? =W.heap[c]?) (hsz:W.heap.size≤W'.heap.size)
    (hcase:(pn.blk=W.heap.size∧(∀c,c<W.heap.size→W'.heap[c]? =W.heap[c]?))∨
      (pn.blk=p.blk∧p.off+cs.length≤pn.off+ns.length∧(∀c,c≠p.blk→W'.heap[c]? =W.heap[c]?)∧
        ∃c c' e fr,W.heap[p.blk]? =some (.cells c e fr)∧W'.heap[p.blk]? =some (.cells c' e fr)∧c'.size=c.size∧c'.toList.take (p.off+cs.length)=c.toList.take (p.off+cs.length)))
    (hnew:∃c e fr,W'.heap[pn.blk]? =some (.cells c e fr)∧pn.off+pn.room≤c.size∧N0≤pn.blk∧(fr.1=fr.2∨c.size≤fr.1)∧ns.length≤pn.room∧
      (∀a∈ns,qJc a=true)∧VRs m ns ((c.toList.drop pn.off).take ns.length)):
    m.le (m.ext w.size pn)∧Rel W0 N0 (m.ext w.size pn) w' W':=by
  obtain⟨f,dirty,cs0,hf,hf0,hlt,hgf,hws,hget⟩:=cJd h.wf hh;obtain⟨fnew,cnew,fsame,fother,fback,gnc⟩:=aJ3 h hf hf0 hlt hgf hget;have hno:m w.size=none:=by
    cases hm:m w.size with
    | none=>rfl
    | some p=>exact absurd (h.dom _ _ hm) (gQx _)
  have hle:=m.le_ext pn hno;have old_of:∀b p,b≠w.size→(m.ext w.size pn) b=some p→m b=some p:=fun b p hb hp=>by simpa [Emb.ext,hb]using hp
  have new_of:∀p,(m.ext w.size pn) w.size=some p→p=pn:=fun p hp=>by simpa [Emb.ext]using hp.symm
  have fam_dec:∀k y,w.fam? k=some y→y=(f,b,dirty)∨y.1≠f:=fun k y hy=>by
    by_cases e:y.1=f
    · left;exact AW.fam?_same hy hf e
    · exact .inr e
  -- what is sure still was sure
  have cback:∀k y,w.fam? k=some y→∀c,w'.cells? k=some c→w.cells? k=some c:=fun k y hy c hc=>by
    rcases fam_dec k y hy with rfl | hne
    · cases hd:dirty with
      | false=>rw[←((fsame k hy).2.1 hd)];exact hc
      | true=>rw[(fsame k hy).2.2 hd]at hc;simp at hc
    · rw[←(fother k y hy hne).2];exact hc
  have flift:∀k y,w.fam? k=some y→∃y',w'.fam? k=some y'∧y'.1=y.1:=fun k y hy=>by
    rcases fam_dec k y hy with rfl | hne
    · exact⟨_,(fsame k hy).1,rfl⟩
    · exact⟨_,(fother k y hy hne).1,rfl⟩
  -- old blocks of the model in the new world
  have hWold:∀q,m b=some p→q<W.heap.size→q≠p.blk→W'.heap[q]? =W.heap[q]? :=fun q _ hq hne=>by
    rcases hcase with⟨_,hc⟩ | ⟨_,_,hc,_⟩
    · exact hc q hq
    · exact hc q hne
  -- the new block's place is no other family's
  have hsepn:∀k q,m k=some q→q.blk=pn.blk→w.fam? k=some (f,b,dirty):=fun k q hk hq=>by
    rcases hcase with⟨e,_⟩ | ⟨e,_,_,_⟩
    · have:=h.lt hk;omega
    · by_cases ek:k=b
      · subst ek;exact hf
      · obtain⟨x,hx,hx'⟩:=h.sep k b q p hk hb (hq.trans e) ek
        rw[hf]at hx';cases hx';exact hx
  refine⟨hle,⟨Env.trans h.env hE,by rw[hws];omega,?_,⟨hold.1,fun c hc=>by rw[hold.2 c hc];exact h.old.2 c hc⟩,?_,?_,?_,?_,?_,?_,?_⟩⟩
  · intro k q hk
    rw[hws];by_cases e:k=w.size
    · omega
    · have:=h.dom _ _ (old_of k q e hk);omega
  · intro k q hk
    by_cases e:k=w.size
    · subst e
      rw[new_of q hk];refine⟨.cells ns f 0 false,by simp[hget],?_⟩;obtain⟨c,e,fr,h1,h2,h3,h4,h5,h6,h7⟩:=hnew;obtain⟨obf,_,hobf⟩:=h.obj b p hb;have hrootm:∃q,m f=some q:=by
        obtain⟨ob,hgb,hob⟩:=h.obj b p hb;obtain⟨_,_,_,hgb',_⟩:=AW.fam?_iff.1 hf;rw[hgb']at hgb;cases hgb;obtain⟨_,_,_,x,_,_,hx,hq,_⟩:=hob;rw[hf]at hx;cases hx;exact hq
      obtain⟨qf,hqf⟩:=hrootm;exact⟨c,e,fr,_,h1,h2,fnew,⟨qf,hle _ _ hqf⟩,fun _=>⟨h3,h4⟩,fun cs' hcs'=>by rw[cnew]at hcs';cases hcs';exact⟨h5,h6,h7.mono hle⟩⟩
    · have hk':=old_of k q e hk
      obtain⟨ob,hgk,hob⟩:=h.obj k q hk'
      cases ob with
      | cells ck fk ok dk=>
        have hgk2:∃ob',w'.get k=some ob'∧∃a b' c d,ob'= .cells a b' c d:=by
          by_cases ekf:k=f
          · subst ekf;exact⟨.cells cs0 k w.size dirty,by simp[hget,e],cs0,k,w.size,dirty,rfl⟩
          · exact⟨.cells ck fk ok dk,by simp[hget,e,ekf,hgk],ck,fk,ok,dk,rfl⟩
        obtain⟨ob',hgk',a1,a2,a3,a4,rfl⟩:=hgk2;refine⟨_,hgk',?_⟩;obtain⟨c,el,fr,x,h1,h2,h3,⟨qx,h4⟩,h5,h6⟩:=hob;obtain⟨y',hy',hy1⟩:=flift k x h3;have hcl:∀cs',w'.cells? k=some cs'→cs'.length≤q.room∧(∀a∈cs',qJc a=true)∧VRs m cs' ((c.toList.drop q.off).take cs'.length):=fun cs' hcs'=>h6 cs' (cback k x h3 cs' hcs');by_cases eblk:q.blk=p.blk
        · -- the model's block of the old one
          rcases hcase with⟨_,hc⟩ | ⟨hpn,hext,hc,c0,c0',e0,fr0,g1,g2,g3,g4⟩
          · exact⟨c,el,fr,y',(hc _ (h.lt hk')).trans h1,h2,hy',⟨qx,by rw[hy1];exact hle _ _ h4⟩,fun hn=>h5 (by rw[←hy1];exact hn),fun cs' hcs'=>by
              obtain⟨b1,b2,b3⟩:=hcl cs' hcs';exact⟨b1,b2,b3.mono hle⟩⟩
          · rw[eblk,g1]at h1
            have h1':=gQb h1;injection h1' with i1 i2 i3;subst i1 i2 i3;refine⟨c0',e0,fr0,y',by rw[eblk];exact g2,by rw[g3];exact h2,hy',⟨qx,by rw[hy1];exact hle _ _ h4⟩,fun hn=>by rw[g3];exact h5 (by rw[←hy1];exact hn),?_⟩;intro cs' hcs';obtain⟨b1,b2,b3⟩:=hcl cs' hcs';refine⟨b1,b2,?_⟩
            -- its cells end where the newest one's end
            have hend:q.off+cs'.length≤p.off+cs.length:=by
              have hfk:=hsepn k q hk' (eblk.trans hpn.symm);exact h.tip b k p q (f,b,dirty) cs cs' hb hk' eblk.symm hf hfk rfl hcb (cback k x h3 cs' hcs')
            have:(c0'.toList.drop q.off).take cs'.length=(c0.toList.drop q.off).take cs'.length:=by
              have t1:∀(l:List Value),(l.drop q.off).take cs'.length=((l.take (p.off+cs.length)).drop q.off).take cs'.length:=fun l=>by
                rw[List.drop_take,List.take_take];congr 1;omega
              rw[t1 c0'.toList,g4,←t1]
            rw[this];exact b3.mono hle
        · have hW1:W'.heap[q.blk]? =W.heap[q.blk]? :=hWold _ hb (h.lt hk') eblk
          exact⟨c,el,fr,y',hW1.trans h1,h2,hy',⟨qx,by rw[hy1];exact hle _ _ h4⟩,fun hn=>h5 (by rw[←hy1];exact hn),fun cs' hcs'=>by
            obtain⟨b1,b2,b3⟩:=hcl cs' hcs';exact⟨b1,b2,b3.mono hle⟩⟩
      | _=>
        have apart:q.blk≠p.blk:=fun e'=>by
          have ekb:k≠b:=fun ek=>by
            subst ek;obtain⟨_,_,_,hg',_⟩:=AW.fam?_iff.1 hf;rw[hgk]at hg';simp at hg'
          obtain⟨y,hy,_⟩:=h.sep k b q p hk' hb e' ekb;obtain⟨_,_,_,hg',_⟩:=AW.fam?_iff.1 hy;rw[hgk]at hg';simp at hg'
        have hW1:W'.heap[q.blk]? =W.heap[q.blk]? :=hWold _ hb (h.lt hk') apart;refine⟨_,gnc k _ hgk (by simp),hob.congr hle hW1 hsz ?_ ?_ (fun d q' es v hq' hd=> .inl ⟨gnc d _ hd (by simp),hWold _ hb (h.lt hq') fun e'=>by
          have edb:d≠b:=fun e=>by
            subst e;obtain⟨_,_,_,hg',_⟩:=AW.fam?_iff.1 hf;rw[hd]at hg';simp at hg'
          obtain⟨y,hy,_⟩:=h.sep d b q' p hq' hb e' edb;obtain⟨_,_,_,hg',_⟩:=AW.fam?_iff.1 hy;rw[hd]at hg';simp at hg'⟩)⟩
        · intro x hx
          obtain⟨_,_,_,hg',_⟩:=AW.fam?_iff.1 hx;rw[hgk]at hg';simp at hg'
        · intro x hx
          obtain⟨_,_,_,hg',_⟩:=AW.fam?_iff.1 hx;rw[hgk]at hg';simp at hg'
  · intro k k' q q' hk hk' hblk hne
    by_cases e:k=w.size
    · have hk2:=old_of k' q' (fun e'=>hne (e.trans e'.symm)) hk'
      have:=new_of q (e▸hk);subst this;subst e;exact⟨_,fnew,(fsame k' (hsepn k' q' hk2 hblk.symm)).1⟩
    · by_cases e':k'=w.size
      · have hk2:=old_of k q e hk
        have:=new_of q' (e'▸hk');subst this;subst e';exact⟨_,(fsame k (hsepn k q hk2 hblk)).1,fnew⟩
      · obtain⟨x,hx,hx'⟩:=h.sep k k' q q' (old_of k q e hk) (old_of k' q' e' hk') hblk hne
        rcases fam_dec k x hx with rfl | hxf
        · exact⟨_,(fsame k hx).1,(fsame k' hx').1⟩
        · exact⟨x,(fother k x hx hxf).1,(fother k' x hx' hxf).1⟩
  · intro k k' q q' x' ck ck' hk hk' hblk hfk hfk' hown hck hck'
    by_cases e:k=w.size
    · have:=new_of q (e▸hk);subst this
      subst e;rw[cnew]at hck;cases hck;by_cases e':k'=w.size
      · subst e'
        have:=new_of q' hk';subst this;rw[cnew]at hck';cases hck';exact yQm _
      · have hk2:=old_of k' q' e' hk'
        have hfk2:=hsepn k' q' hk2 hblk.symm;have hck2:=cback k' _ hfk2 ck' hck';rcases hcase with⟨e1,_⟩ | ⟨e1,hext,_,_⟩
        · have:=h.lt hk2;omega
        · have:=h.tip b k' p q' (f,b,dirty) cs ck' hb hk2 (e1.symm.trans hblk) hf hfk2 rfl hcb hck2
          omega
    · have hkm:=old_of k q e hk
      obtain⟨y,hy,hy1⟩:=fback k x' e hfk;rcases fam_dec k y hy with rfl | hyf
      · rw[(fsame k hy).1]at hfk;cases hfk
        exact absurd hown.symm e
      · rw[(fother k y hy hyf).1]at hfk;cases hfk
        by_cases e':k'=w.size
        · subst e'
          rw[fnew]at hfk';cases hfk';exact absurd rfl hyf
        · have hkm':=old_of k' q' e' hk'
          obtain⟨z,hz,hz1⟩:=fback k' _ e' hfk';have hzy:=AW.fam?_same hz hy hz1;rw[hzy]at hz;exact h.tip k k' q q' _ ck ck' hkm hkm' hblk hy hz hown (cback k _ hy ck hck) (cback k' _ hz ck' hck')
  · intro k x' hfk h0 hown hd
    by_cases e:k=w.size
    · subst e;rw[fnew]at hfk;cases hfk
      simp only at hown;omega
    · obtain⟨y,hy,hy1⟩:=fback k x' e hfk
      rcases fam_dec k y hy with rfl | hyf
      · rw[(fsame k hy).1]at hfk;cases hfk
        simp only at hown;omega
      · rw[(fother k y hy hyf).1]at hfk;cases hfk
        exact h.single k _ hy h0 hown hd
  · intro k hk
    rw[hws]at hk;have e1:k≠w.size:=by omega
    have e2:k≠f:=by omega
    simp[hget,e1,e2];exact h.wf k (by omega)
  · intro k ck fk ok dk hgk
    rw[hws];by_cases e:k=w.size
    · simp[hget,e]at hgk;omega
    · by_cases ekf:k=f
      · simp[hget,e,ekf]at hgk
        have:f≠w.size:=by omega
        simp[this]at hgk;omega
      · simp[hget,e,ekf]at hgk
        have:=h.wfF _ _ _ _ _ hgk;omega
  · intro k pk ck ok dk hk h0 hgk
    by_cases e:k=w.size
    · simp[hget,e]at hgk;omega
    · by_cases ekf:k=f
      · have hfs:f≠w.size:=by omega
        simp[hget,ekf,hfs]at hgk;subst ekf;exact h.root0 _ _ _ _ _ (old_of k pk e hk) h0 hgf
      · simp[hget,e,ekf]at hgk
        exact h.root0 _ _ _ _ _ (old_of k pk e hk) h0 hgk
end rel
end Go.Sx
namespace Go.Sx
mutual
theorem xJa(m:Emb):∀(v:Value) (a:AV),ofValue v=some a→VR m a v
  | .bool b,a,h=>by simp[ofValue]at h;subst h;simp[VR]
  | .int k n,a,h=>by simp[ofValue]at h;subst h;simp[VR]
  | .float ..,a,h=>by simp[ofValue]at h
  | .complex ..,a,h=>by simp[ofValue]at h
  | .string s,a,h=>by simp[ofValue]at h;subst h;simp[VR]
  | .pointer none,a,h=>by simp[ofValue]at h;subst h;simp[VR]
  | .pointer (some _),a,h=>by simp[ofValue]at h
  | .slice none 0 0,a,h=>by simp[ofValue]at h;subst h;simp[VR]
  | .slice none (n+1) _,a,h=>by simp[ofValue]at h
  | .slice none 0 (n+1),a,h=>by simp[ofValue]at h
  | .slice (some _) _ _,a,h=>by simp[ofValue]at h
  | .map none,a,h=>by simp[ofValue]at h;subst h;simp[VR]
  | .map (some _),a,h=>by simp[ofValue]at h
  | .chan _,a,h=>by simp[ofValue]at h
  | .func ..,a,h=>by simp[ofValue]at h
  | .nilFunc,a,h=>by simp[ofValue]at h;subst h;simp[VR]
  | .nilIface,a,h=>by simp[ofValue]at h;subst h;simp[VR]
  | .iface t v,a,h=>by
    simp only[ofValue,yQl]at h;obtain⟨b,hb,rfl⟩:=h;simp only[VR];exact⟨v,rfl,xJa m v b hb⟩
  | .agg ⟨cs⟩,a,h=>by
    simp only[ofValue,yQl]at h;obtain⟨b,hb,rfl⟩:=h;simp only[VR];exact⟨⟨cs⟩,rfl,yJy m cs b hb⟩
  | .tuple ⟨cs⟩,a,h=>by
    simp only[ofValue,yQl]at h;obtain⟨b,hb,rfl⟩:=h;simp only[VR];exact⟨⟨cs⟩,rfl,yJy m cs b hb⟩
theorem yJy(m:Emb):∀(vs:List Value) (as:List AV),wJy vs=some as→VRs m as vs
  | [],as,h=>by simp[wJy]at h;subst h;simp[VRs]
  | v::vs,as,h=>by
    simp only[wJy]at h;split at h
    · rename_i a as' ha hs
      cases h;exact VRs.cons (xJa m v a ha) (yJy m vs as' hs)
    · simp at h
end
theorem qJj {m:Emb}{tmps:Tm}{ts:Array Value}{ds:List Deferred}(h:VRs m tmps ts.toList){x:Operand}{v:AV}(hx:qJs tmps x=some v):
    VR m v ((Act.mk ts ds).eval x):=by
  cases x with
  | tmp t=>
    simp[qJs]at hx;subst hx;have:=h.getD t;simp only[Act.eval,getT];simpa [Array.getD_eq_getD_getElem?,yQj]using this
  | const v'=>simp[qJs]at hx;exact xJa m v' v hx
  | global g=>simp[qJs]at hx
  | func f=>simp[qJs]at hx;subst hx;simp[VR,VRs,Act.eval]
section runs
variable {P:Program}{W:World}
theorem qJa {t:TypeId}{d:TypeDesc}(h:P.underlying t=some d):(underlying t).run P W= .ok d W:=by
 simp[underlying,program,Bind.bind,Sem.bind,Sem.run,h,Pure.pure]
theorem zJ1 {t:TypeId}{i:TypeInfo}(h:P.info? t=some i):(typeInfo t).run P W= .ok i W:=by
 simp[typeInfo,program,Bind.bind,Sem.bind,Sem.run,h,Pure.pure]
theorem qJ9 {t:TypeId}{n:Nat}(h:szOf P t=some n):(sizeOf t).run P W= .ok n W:=by
  unfold szOf at h
  cases hi:P.info? t with
  | none=>simp[hi]at h
  | some i=>
    simp[hi]at h;subst h;rw[sizeOf,qJb (zJ1 hi),qJo]
theorem gJk {t:TypeId}{b:Bool}(h:Sx.isAgg P t=some b):(Go.isAgg t).run P W= .ok b W:=by
  unfold Sx.isAgg at h
  cases hu:P.underlying t with
  | none=>simp[hu]at h
  | some d=>
    simp[hu]at h;subst h;rw[Go.isAgg,qJb (qJa hu)];cases d<;>rfl
theorem kJk {t:TypeId}{z:AV}(m:Emb)(h:zJv P t=some z):∃v,(zeroValue t).run P W= .ok v W∧VR m z v∧szOf P t=some z.cells.length:=by
 unfold zJv at h;simp only[yQi]at h;obtain⟨z',⟨v,⟨i,hi,hz⟩,hv⟩,n,hn,hg⟩:=h;simp only[qJf,Bool.cond_eq_ite]at hg;split at hg
 ·rename_i hl;cases hg;refine⟨v,?_,xJa m v _ hv,?_⟩
  ·rw[zeroValue,qJb (zJ1 hi)];simp[hz,qJo]
  ·rw[hn,yQp hl]
 ·simp at hg
theorem jJj {m:Emb}{a:AV}{v:Value}(h:VR m a v):VRs m a.cells v.cells.toList:=by
 cases a<;>simp only[VR]at h<;>simp only[AV.cells]
 case agg=>obtain⟨vs,rfl,hv⟩:=h;exact hv
 case str=>obtain⟨s,rfl,hs⟩:=h;exact VRs.cons (by simp only[VR];exact⟨s,rfl,hs⟩) VRs.nil
 case ptr=>obtain⟨p,hp,rfl⟩:=h;exact VRs.cons (by simp only[VR];exact⟨p,hp,rfl⟩) VRs.nil
 case slice=>obtain⟨p,a,cc,hp,rfl,hh⟩:=h;exact VRs.cons (by simp only[VR];exact⟨p,a,cc,hp,rfl,hh⟩) VRs.nil
 case map=>obtain⟨p,hp,rfl⟩:=h;exact VRs.cons (by simp only[VR];exact⟨p,hp,rfl⟩) VRs.nil
 case func=>obtain⟨x,y,rfl,hh⟩:=h;exact VRs.cons (by simp only[VR];exact⟨x,y,rfl,hh⟩) VRs.nil
 case yield=>obtain⟨p,hp,rfl⟩:=h;exact VRs.cons (by simp only[VR];exact⟨p,hp,rfl⟩) VRs.nil
 case iface=>obtain⟨x,rfl,hh⟩:=h;exact VRs.cons (by simp only[VR];exact⟨x,rfl,hh⟩) VRs.nil
 case tup=>obtain⟨x,rfl,hh⟩:=h;exact VRs.cons (by simp only[VR];exact⟨x,rfl,hh⟩) VRs.nil
 all_goals (subst h;exact VRs.cons (by simp[VR]) VRs.nil)
theorem zJq {cs r:List AV}{o n:Nat}(h:qJz cs o n=some r):o+n≤cs.length∧r=(cs.drop o).take n:=by
 unfold qJz at h;split at h
 ·rename_i hl;cases h;exact⟨hl,rfl⟩
 ·simp at h
theorem wJs {m:Emb}{t:TypeId}{cs:List AV}{c:Array Value}{off:Nat}{v:AV}(hv:VRs m cs c.toList)(h:pJz P t cs off=some v):
    ∃cv,(part t c off).run P W= .ok cv W∧VR m v cv:=by
  unfold pJz at h;simp only[yQi]at h;obtain⟨a,ha,h⟩:=h
  cases a with
  | true=>
    simp only[cond_true,yQi,yQl]at h;obtain⟨n,hn,r,hr,rfl⟩:=h;obtain⟨hl,rfl⟩:=zJq hr;refine⟨.agg (c.extract off (off+n)),?_,?_⟩
    · rw[part,qJb (gJk ha)]
      simp only[if_true];rw[qJb (qJ9 hn),qJo]
    · simp only[VR]
      refine⟨_,rfl,?_⟩;have:=(hv.drop off).take n;simpa [Array.toList_extract,List.extract_eq_take_drop]using this
  | false=>
    simp only[cond_false]at h;obtain⟨cv,hc,hr⟩:=hv.get h;refine⟨cv,?_,hr⟩;rw[part,qJb (gJk ha)];have:c[off]? =some cv:=by simpa using hc
    simp[this,qJo]
end runs
section mem
variable {P:Program}{W0:World}{N0:Nat}{m:Emb}{w:AW}{W:World}
theorem Rel.row(h:Rel W0 N0 m w W){b:Nat}{p:Pl}(hb:m b=some p){cs:List AV}(hc:w.cells? b=some cs):
  ∃c e fr,W.heap[p.blk]? =some (.cells c e fr)∧p.off+p.room≤c.size∧cs.length≤p.room∧(∀a∈cs,qJc a=true)∧VRs m cs ((c.toList.drop p.off).take cs.length):=by
 obtain⟨o,hg,ho⟩:=h.obj b p hb;obtain⟨x,ow,d,_,_,hg'⟩:=AW.cells?_iff.1 hc;rw[hg']at hg;cases hg;obtain⟨c,e,fr,y,h1,h2,_,_,_,h6⟩:=ho;obtain⟨a1,a2,a3⟩:=h6 cs hc;exact⟨c,e,fr,h1,h2,a1,a2,a3⟩
theorem VRs.seg {cs:List AV}{l:List Value}{a:Nat}(h:VRs m cs ((l.drop a).take cs.length)){o n:Nat}(hn:o+n≤cs.length):
  VRs m ((cs.drop o).take n) ((l.drop (a+o)).take n):=by
 have:=(h.drop o).take n;rw[List.drop_take,List.take_take,gQs]at this;have e:min n (cs.length - o)=n:=by omega
 rwa [e]at this
theorem VRs.at {cs:List AV}{l:List Value}{a:Nat}(h:VRs m cs ((l.drop a).take cs.length)){o:Nat}{v:AV}(hv:cs[o]? =some v):
  ∃cv,l[a+o]? =some cv∧VR m v cv:=by
 obtain⟨cv,hc,hr⟩:=h.get hv;have hlt:o<cs.length:=(yQt.1 hv).1;rw[List.getElem?_take,if_pos hlt,gQj]at hc;exact⟨cv,hc,hr⟩
theorem dJz(h:Rel W0 N0 m w W){t:TypeId}{b o:Nat}{v:AV}(hl:rJ7 P w t b o=some v){p:Pl}(hb:m b=some p):
    ∃cv,(loadVar t ⟨p.blk,p.off+o,none⟩).run P W= .ok cv W∧VR m v cv:=by
  unfold rJ7 at hl;simp only[yQi]at hl;obtain⟨cs,hc,hp⟩:=hl;obtain⟨c,e,fr,hW,hroom,hlen,hok,hv⟩:=h.row hb hc;unfold pJz at hp;simp only[yQi]at hp;obtain⟨a,ha,hp⟩:=hp
  cases a with
  | true=>
    simp only[cond_true,yQi,yQl]at hp;obtain⟨n,hn,r,hr,rfl⟩:=hp;obtain⟨hl,rfl⟩:=zJq hr;refine⟨.agg ((c.toList.drop (p.off+o)).take n).toArray,?_,?_⟩
    · rw[loadVar,qJb (gJk ha)]
      simp only[if_true];rw[qJb (qJ9 hn),qJb (jJy hW (by omega)),qJo]
    · simp only[VR]
      exact⟨_,rfl,by simpa using hv.seg hl⟩
  | false=>
    simp only[cond_false]at hp;obtain⟨cv,hcv,hr⟩:=hv.at hp;refine⟨cv,?_,hr⟩;rw[loadVar,qJb (gJk ha)];simp only[yQ2,if_false];exact tJx hW (by simpa using hcv)
theorem VRs.one {vs:List AV}{cvs:List Value}(h:VRs m vs cvs)(hok:∀a∈vs,qJc a=true):∀v∈cvs,aJs v=true:=by
  induction vs generalizing cvs with
  | nil=>simp only[VRs]at h;subst h;simp
  | cons x vs ih=>
    simp only[VRs]at h;obtain⟨v,vs',rfl,hx,hs⟩:=h;intro u hu;simp at hu;rcases hu with rfl | hu
    · exact hJi hx (hok x (by simp))
    · exact ih hs (fun a ha=>hok a (by simp[ha])) u hu
theorem vJs(h:Rel W0 N0 m w W){b o:Nat}{vs:List AV}{w':AW}(hp:w.putCells b o vs=some w'){p:Pl}(hb:m b=some p)
  {cvs:List Value} (hv:VRs m vs cvs) (h1:∀a∈vs,qJc a=true):
  ∃W',(storeCells ⟨p.blk,p.off+o,none⟩ cvs).run P W= .ok () W'∧Rel W0 N0 m w' W':=by
 obtain⟨c,e,fr,hW,hlen,hfr,hrel⟩:=h.put hp hb hv h1;refine⟨_,?_,hrel⟩;have:=vJ1 (P:=P) (i:=p.off+o) cvs W c 0 hW (by omega) hfr (hv.one h1);simpa using this
theorem rJc(h:Rel W0 N0 m w W){t:TypeId}{b o:Nat}{v:AV}{w':AW}(hs:dJt P w t b o v=some w'){p:Pl}(hb:m b=some p)
  {cv:Value} (hv:VR m v cv):∃W',(storeVar t ⟨p.blk,p.off+o,none⟩ cv).run P W= .ok () W'∧Rel W0 N0 m w' W':=by
 unfold dJt at hs;simp only[yQi]at hs;obtain⟨n,hn,hs⟩:=hs;simp only[qJf,Bool.cond_eq_ite]at hs;split at hs
 ·rename_i hg;simp only[gQ3,yQv]at hg
  replace hg:=And.intro (yQp hg.1) hg.2
  have hcv:=jJj hv;obtain⟨W',hr,hrel⟩:=vJs (P:=P) h hs hb hcv hg.2;refine⟨W',?_,hrel⟩;have hl:cv.cells.size=n:=by rw[←hg.1,hcv.length];simp
  rw[storeVar,qJb (qJ9 hn)];simp only[hl,ne_eq,not_true_eq_false,if_false];exact hr
 ·simp at hs
end mem
end Go.Sx
namespace Go.Sx
def Soft(N0:Nat)(W W':World):Prop:=
 Env W W'∧W'.heap.size=W.heap.size∧∀b,W'.heap[b]? =W.heap[b]? ∨(N0≤b∧∃c e fr fr',W.heap[b]? =some (.cells c e fr)∧W'.heap[b]? =some (.cells c e fr')∧
  ((fr.1=fr.2∨c.size≤fr.1)→(fr'.1=fr'.2∨c.size≤fr'.1)))
theorem Soft.refl(N0:Nat)(W:World):Soft N0 W W:=⟨⟨rfl,rfl⟩,rfl,fun _=> .inl rfl⟩
theorem Rel.soft {W0:World}{N0:Nat}{m:Emb}{w:AW}{W W':World}(h:Rel W0 N0 m w W)(hs:Soft N0 W W'):Rel W0 N0 m w W':=by
  obtain⟨hE,hsz,hb⟩:=hs;have key:∀(b:Nat) (ob:Obj),(∀c e fr,ob≠ .cells c e fr)→W.heap[b]? =some ob→W'.heap[b]? =some ob:=fun b ob hn hg=>by
    rcases hb b with e | ⟨_,c,e,fr,fr',e1,_,_⟩
    · rw[e];exact hg
    · rw[hg]at e1;exact absurd (gQb e1) (hn _ _ _)
  refine⟨Env.trans h.env hE,h.pos,h.dom,⟨by rw[hsz];exact h.old.1,fun c hc=>?_⟩,?_,h.sep,h.tip,h.single,h.wf,h.wfF,h.root0⟩
  · rcases hb c with e | ⟨hN,_⟩
    · rw[e];exact h.old.2 c hc
    · omega
  · intro b p hm
    obtain⟨o,hg,ho⟩:=h.obj b p hm;refine⟨o,hg,?_⟩
    cases o with
    | cells=>
      obtain⟨c,e,fr,x,h1,h2,h3,h4,h5,h6⟩:=ho;rcases hb p.blk with e1 | ⟨hN,c',e',fr0,fr',e1,e2,e3⟩
      · exact⟨c,e,fr,x,e1.trans h1,h2,h3,h4,h5,h6⟩
      · rw[h1]at e1
        have:=gQb e1;injection this with i1 i2 i3;subst i1 i2 i3;exact⟨c,e,fr',x,e2,h2,h3,h4,fun hx=>⟨(h5 hx).1,e3 (h5 hx).2⟩,h6⟩
    | map=>obtain⟨h0,ces,cl,h1,h2⟩:=ho;exact⟨h0,ces,cl,key _ _ (by simp) h1,h2⟩
    | loop=>obtain⟨h0,fn,ts,ps,q,h1,h2,h3,h4⟩:=ho;exact⟨h0,fn,ts,ps,q,h1,h2,key _ _ (by simp) h3,h4⟩
    | deferred=>exact⟨ho.1,key _ _ (by simp) ho.2⟩
    | mapIter r=>cases r with
      | none=>obtain⟨h0,h00,s,t,u,h1⟩:=ho;exact⟨h0,h00,s,t,u,key _ _ (by simp) h1⟩
      | some r=>
        obtain⟨h0,h00,q,since,seen,st,esn,vn,h1,h2,h3,h4,h5⟩:=ho;refine⟨h0,h00,q,since,seen,st,esn,vn,h1,key _ _ (by simp) h2,h3,h4,fun e=>?_⟩;obtain⟨ces,a1,a2⟩:=h5 e;exact⟨ces,key _ _ (by simp) a1,a2⟩
    | strIter=>obtain⟨h0,h00,bs,h1,h2⟩:=ho;exact⟨h0,h00,bs,key _ _ (by simp) h1,h2⟩
    | gone=>exact⟨ho.1,by rw[hsz];exact ho.2⟩
section
variable {P:Program}{W0:World}{N0:Nat}{m:Emb}{w:AW}{W:World}
theorem qJe {α:Type}{b:Bool}{x:Option α}{y:α}:qJf b x=some y↔b=true∧x=some y:=by
 cases b<;>simp[qJf]
theorem xQ0 {v:AV}{b:Bool}:asB v=some b↔v= .bool b:=by cases v<;>simp[asB]
theorem gJ1 {v:AV}{p:Nat×Nat}:asP v=some p↔v= .ptr p.1 p.2:=by
 cases v<;>simp[asP];obtain⟨a,b⟩:=p;simp
theorem xQ1 {v:AV}{cs:List AV}:asA v=some cs↔v= .agg cs:=by cases v<;>simp[asA]
theorem xQw {v:AV}{cs:List AV}:asT v=some cs↔v= .tup cs:=by cases v<;>simp[asT]
theorem xQz {v:AV}{n:Nat}:asN v=some n↔∃k,v= .int k n:=by
 cases v<;>simp[asN];rename_i k i;cases i<;>simp;omega
theorem vJp {d:TypeDesc}{e:TypeId}:jJe d=some e↔d= .slice e:=by cases d<;>simp[jJe]
theorem pJi {d:TypeDesc}{a:Nat×TypeId}:nJt d=some a↔d= .array a.1 a.2:=by
 cases d<;>simp[nJt];obtain⟨x,y⟩:=a;simp
theorem gJe {d:TypeDesc}{fs:Array Field}:hJ8 d=some fs↔d= .struct fs:=by cases d<;>simp[hJ8]
theorem jJa {d:TypeDesc}{a:TypeId×TypeId}:xJj d=some a↔d= .map a.1 a.2:=by
 cases d<;>simp[xJj];obtain⟨x,y⟩:=a;simp
theorem oJ8 {d:TypeDesc}{e:TypeId}:hJ9 d=some e↔d= .pointer e:=by cases d<;>simp[hJ9]
theorem mJy {d:TypeDesc}{e:IntKind}:kJw d=some e↔d= .int e:=by cases d<;>simp[kJw]
theorem zJl {d:TypeDesc}:zJi d=true↔d= .string:=by cases d<;>simp[zJi]
theorem dJq {d:TypeDesc}:tdU8 d=true↔d= .int .u8:=by
 cases d<;>simp[tdU8];rename_i k;cases k<;>simp
theorem zJf {t e:TypeId}:elemOf P t=some e↔P.underlying t=some (.slice e):=by
 unfold elemOf;rw[yQi];constructor
 ·rintro⟨d,hd,h⟩;rw[vJp]at h;rw[hd,h]
 ·intro h;exact⟨_,h,by rw[vJp]⟩
theorem kJe {t:TypeId}{a:Nat×TypeId}:cJp P t=some a↔P.underlying t=some (.array a.1 a.2):=by
 unfold cJp;rw[yQi];constructor
 ·rintro⟨d,hd,h⟩;rw[pJi]at h;rw[hd,h]
 ·intro h;exact⟨_,h,by rw[pJi]⟩
theorem gJj {s:Sem Value}{cv:Value}{W':World}(h:s.run P W= .ok cv W'):(do pure (Next.value (←s)):Sem Next).run P W= .ok (.value cv) W':=by
 rw[qJb h,qJo]
theorem kJ2 {i:AV}{k:Nat}{ci:Value}(h:asN i=some k)(hr:VR m i ci):∃kd,ci= .int kd (k:Int)∧(asIntOf ci).run P W= .ok (kd,(k:Int)) W:=by
 obtain⟨kd,rfl⟩:=xQz.1 h;simp only[VR]at hr;subst hr;exact⟨kd,rfl,rfl⟩
theorem mJj {x v:AV}{cx:Value}{ρ:Operand→Value}{o:Oper}{y:Operand}(ho:o.op= .nilCheck y)(hy:ρ y=cx)(h:wJb x=some v)(hr:VR m x cx):
  (execOp ρ o).run P W= .ok (.value cx) W∧v=x:=by
 unfold execOp;rw[ho];simp only[hy];cases x<;>simp[wJb]at h<;>simp only[VR]at hr
 case str=>obtain⟨s,rfl,_⟩:=hr;exact⟨rfl,h.symm⟩
 case ptr=>obtain⟨p,_,rfl⟩:=hr;exact⟨rfl,h.symm⟩
 case slice=>obtain⟨p,a,cc,_,rfl,_⟩:=hr;exact⟨rfl,h.symm⟩
 case map=>obtain⟨p,_,rfl⟩:=hr;exact⟨rfl,h.symm⟩
 case func=>obtain⟨x,y,rfl,_⟩:=hr;exact⟨rfl,h.symm⟩
 case yield=>obtain⟨p,_,rfl⟩:=hr;exact⟨rfl,h.symm⟩
 case iface=>obtain⟨x,rfl,_⟩:=hr;exact⟨rfl,h.symm⟩
 case agg=>obtain⟨x,rfl,_⟩:=hr;exact⟨rfl,h.symm⟩
 case tup=>obtain⟨x,rfl,_⟩:=hr;exact⟨rfl,h.symm⟩
 all_goals (subst hr;exact⟨rfl,h.symm⟩)
/-! ### Arithmetic -/
theorem nJ5 {op:BinOp}{k:IntKind}{a b:Int}{v:AV}(hs:xJs op=false)(h:arith op k a b=some v)(t:TypeId):
  ∃cv,(binOp op t (.int k a) (.int k b)).run P W= .ok cv W∧VR m v cv:=by
 cases op<;>simp[xJs]at hs<;>simp only[arith]at h
 case quo=>
  split at h
  ·simp at h
  ·rename_i hb;cases h;exact⟨_,by simp[binOp,Op.intDiv,hb];rfl,by simp[VR]⟩
 case rem=>
  split at h
  ·simp at h
  ·rename_i hb;cases h;exact⟨_,by simp[binOp,Op.intDiv,hb];rfl,by simp[VR]⟩
 all_goals (cases h;refine⟨_,by simp[binOp,Op.intArith,Op.intCmp,Op.intBits];rfl,?_⟩;simp[VR,bits]<;>(try rfl))
theorem nJz {op:BinOp}{k yk:IntKind}{a b:Int}{v:AV}(hs:xJs op=true)(h:kJ1 op k a b=some v)(t:TypeId):
  ∃cv,(binOp op t (.int k a) (.int yk b)).run P W= .ok cv W∧VR m v cv:=by
 unfold kJ1 at h;split at h
 ·simp at h
 ·rename_i hb;cases op<;>simp[xJs]at hs<;>simp only[]at h<;>cases h
  all_goals exact⟨_,by simp[binOp,Op.shift,hb];rfl,by simp[VR]⟩
theorem vQ9:∀(x y:List UInt8),xJ0 x y=Op.bytesLess x y
 | _,[]=>by cases ‹List UInt8›<;>simp[xJ0,Op.bytesLess]
 | [],_::_=>by simp[xJ0,Op.bytesLess]
 | a::x,b::y=>by simp[xJ0,Op.bytesLess,vQ9 x y]
end
end Go.Sx
