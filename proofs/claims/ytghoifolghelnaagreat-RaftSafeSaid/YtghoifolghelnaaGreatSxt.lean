/-
 Values that nobody writes,and a function's own blocks beside them.
 No condition beyond those that each theorem names.
-/
import Derived.Test.YtghoifolghelnaaGreatSxr
set_option linter.unusedVariables false
set_option linter.unusedSimpArgs false
/-! Values that nobody writes: what they read as; a function's own blocks beside them. -/
namespace Go.Sx
def Rdb(w:AW)(c f:Nat)(all:List AV):Prop:=(∃own d,w.fam? c=some (f,own,d))∧w.cells? c=some all
theorem Rdb.lt {w:AW}{c f:Nat}{all:List AV}(h:Rdb w c f all)(hm:Mem w):c<w.size∧f≤c:=by
 obtain⟨⟨own,d,h1⟩,h2⟩:=h;obtain⟨x,h3,h4,h5⟩:=hm.cells_fam h2;rw[h1]at h3;cases h3;exact⟨h4,h5⟩
theorem Rdb.congr {w w':AW}{c f:Nat}{all:List AV}(h:Rdb w c f all)(h1:w'.get c=w.get c)(h2:w'.get f=w.get f):Rdb w' c f all:=by
 obtain⟨⟨own,d,h3⟩,h4⟩:=h;obtain⟨cs,o,d',h5,h6⟩:=AW.fam?_iff.1 h3;exact⟨⟨own,d,AW.fam?_iff.2 ⟨cs,o,d',h1.trans h5,by rw[AW.root?_congr h2];exact h6⟩⟩,by rw[AW.cells?_congr h3 h1 h2];exact h4⟩
theorem Rdb.fr {w w':AW}{c f n:Nat}{all:List AV}(h:Rdb w c f all)(hm:Mem w)(hf:Fr n w w')(hn:w.size≤n):Rdb w' c f all:=
 h.congr (hf.old _ (by have:=h.lt hm;omega)) (hf.old _ (by have:=h.lt hm;omega))
theorem Box.rdb {w:AW}{b:Nat}{cs:List AV}(h:Box w b cs):Rdb w b b cs:=⟨⟨b,false,h.fam⟩,h.cells⟩
theorem Rdb.mk {w:AW}{b f o:Nat}{d:Bool}{cs:List AV}(h5:w.get b=some (.cells cs f o d))(h6:w.root? f=some (f,b,false)):Rdb w b f cs:=
 ⟨⟨b,false,AW.fam?_iff.2 ⟨cs,o,d,h5,h6⟩⟩,AW.cells?_iff.2 ⟨(f,b,false),o,d,AW.fam?_iff.2 ⟨_,o,d,h5,h6⟩,.inl rfl,h5⟩⟩
theorem Rdb.grc {Q:Nat→Prop}{v:AV}{w w':AW}{c f:Nat}{all:List AV}(h:Rdb w c f all)(hg:GrC Q v w w'):Rdb w' c f all:=by
 obtain⟨⟨own,d,h3⟩,h4⟩:=h;obtain⟨cs,o,d',h5,h6⟩:=AW.fam?_iff.1 h3;obtain⟨cs',o',d2,h7⟩:=hg.fml c cs f o d' h5;have h8:=hg.cells _ _ h4;obtain⟨x,o2,d3,h9,h10,h11⟩:=AW.cells?_iff.1 h8;rw[h7]at h11;have:f=x.1:=by cases h11;rfl
 exact⟨⟨x.2.1,x.2.2,by rw[h9,this]⟩,h8⟩
structure Xa(A:Nat→Prop)(w:AW)(A':Nat→Prop)(w':AW):Prop where
 a:∀c f all,A c→A f→Rdb w c f all→A' c∧A' f∧Rdb w' c f all
theorem Xa.refl {A:Nat→Prop}{w:AW}:Xa A w A w:=⟨fun _ _ _ h h' h2=>⟨h,h',h2⟩⟩
structure Rp(α:Type)where
 sz:Nat
 rd:(Nat→Prop)→AW→List AV→α→Prop
 len:∀{A w cs x},rd A w cs x→cs.length=sz
 ok:∀{A w cs x},rd A w cs x→cs.all qJc=true
 mono:∀{A w A' w' cs x},Xa A w A' w'→rd A w cs x→rd A' w' cs x
theorem Rp.rd.xa {α:Type}{r:Rp α}{A A':Nat→Prop}{w w':AW}{cs:List AV}{x:α}(h:r.rd A w cs x)(e:Xa A w A' w'):r.rd A' w' cs x:=r.mono e h
theorem Rp.rd.ok1 {α:Type}{r:Rp α}{A:Nat→Prop}{w:AW}{v:AV}{x:α}(h:r.rd A w [v] x):qJc v=true:=by
 have:=r.ok h;simpa using this
def rI:Rp Int:=⟨1,fun _ _ cs x=>cs=[.int .i64 x],fun h=>by rw[h];rfl,fun h=>by rw[h];rfl,fun _ h=>h⟩
def rT:Rp Bool:=⟨1,fun _ _ cs x=>cs=[.bool x],fun h=>by rw[h];rfl,fun h=>by rw[h];rfl,fun _ h=>h⟩
def rU:Rp UInt8:=⟨1,fun _ _ cs x=>cs=[.int .u8 x.toNat],fun h=>by rw[h];rfl,fun h=>by rw[h];rfl,fun _ h=>h⟩
def Chk {α:Type}(r:Rp α)(A:Nat→Prop)(w:AW):List AV→List α→Prop
 | cs,[]=>cs=[]
 | cs,x::l=>∃a b,cs=a++b∧r.rd A w a x∧Chk r A w b l
section
variable {α:Type}{r:Rp α}{A A':Nat→Prop}{w w':AW}
theorem Chk.xa(e:Xa A w A' w'):∀{cs:List AV} {l:List α},Chk r A w cs l→Chk r A' w' cs l
 | _,[],h=>h
 | _,_::_,⟨a,b,h1,h2,h3⟩=>⟨a,b,h1,h2.xa e,Chk.xa e h3⟩
theorem Chk.len:∀{cs:List AV} {l:List α},Chk r A w cs l→cs.length=l.length * r.sz
  | _,[],h=>by have h:_=[]:=h;rw[h];simp
  | _,x::l,⟨a,b,h1,h2,h3⟩=>by
    have:=Chk.len h3;have:=r.len h2;rw[h1,yQs,gQd,gQl];omega
theorem Chk.app:∀{cs cs':List AV} {l l':List α},Chk r A w cs l→Chk r A w cs' l'→Chk r A w (cs++cs') (l++l')
 | _,cs',[],l',h,h'=>by have h:_=[]:=h;rw[h];exact h'
 | _,cs',x::l,l',⟨a,b,h1,h2,h3⟩,h'=>⟨a,b++cs',by rw[h1,yQy],h2,Chk.app h3 h'⟩
theorem Chk.one {cs:List AV}{x:α}(h:r.rd A w cs x):Chk r A w cs [x]:=⟨cs,[],by simp,h,rfl⟩
theorem Chk.get:∀{cs:List AV} {l:List α} (_:Chk r A w cs l) (i:Nat) (hi:i<l.length),r.rd A w ((cs.drop (i * r.sz)).take r.sz) l[i]
  | _,x::l,⟨a,b,h1,h2,h3⟩,0,_=>by
    have:=r.len h2;rw[h1,Nat.zero_mul,List.drop_zero,List.take_left' this];exact h2
  | _,x::l,⟨a,b,h1,h2,h3⟩,i+1,hi=>by
    have:=r.len h2;have e:(a++b).drop ((i+1) * r.sz)=b.drop (i * r.sz):=by
      rw[show(i+1) * r.sz=a.length+i * r.sz by rw[gQl,Nat.one_mul];omega,←gQs,List.drop_left]
    rw[h1,e];exact Chk.get h3 i (by simpa using hi)
theorem Chk.take:∀{cs:List AV} {l:List α} (_:Chk r A w cs l) (k:Nat),Chk r A w (cs.take (k * r.sz)) (l.take k)
  | _,[],h,k=>by have h:_=[]:=h;rw[h];simp;rfl
  | _,x::l,⟨a,b,h1,h2,h3⟩,0=>by simp;rfl
  | _,x::l,⟨a,b,h1,h2,h3⟩,k+1=>by
    have:=r.len h2;refine⟨a,b.take (k * r.sz),?_,h2,Chk.take h3 k⟩;rw[h1,List.take_append,yQ5 (by rw[gQl];omega),show(k+1) * r.sz - a.length=k * r.sz by rw[gQl];omega]
theorem Chk.drop:∀{cs:List AV} {l:List α} (_:Chk r A w cs l) (k:Nat),Chk r A w (cs.drop (k * r.sz)) (l.drop k)
  | _,[],h,k=>by have h:_=[]:=h;rw[h];simp;rfl
  | _,x::l,h,0=>by simpa using h
  | _,x::l,⟨a,b,h1,h2,h3⟩,k+1=>by
    have:=r.len h2;have e:(a++b).drop ((k+1) * r.sz)=b.drop (k * r.sz):=by
      rw[show(k+1) * r.sz=a.length+k * r.sz by rw[gQl,Nat.one_mul];omega,←gQs,List.drop_left]
    rw[h1,e];exact Chk.drop h3 k
theorem Chk.set:∀{cs:List AV} {l:List α} (_:Chk r A w cs l) {c:List AV} {x:α} (_:r.rd A w c x) (k:Nat) (_:k<l.length),Chk r A w (qJg cs (k * r.sz) c) (l.set k x)
  | _,y::l,⟨a,b,h1,h2,h3⟩,c,x,h,0,_=>by
    have e1:=r.len h2;have e2:=r.len h;refine⟨c,b,?_,h,h3⟩;rw[h1];simp only[qJg,Nat.zero_mul,List.take_zero,List.nil_append,Nat.zero_add];rw[e2,←e1,List.drop_left]
  | _,y::l,⟨a,b,h1,h2,h3⟩,c,x,h,k+1,hk=>by
    have e1:=r.len h2;refine⟨a,qJg b (k * r.sz) c,?_,h2,Chk.set h3 h k (by simpa using hk)⟩;rw[h1];have e3:(k+1) * r.sz=a.length+k * r.sz:=by rw[gQl,Nat.one_mul];omega
    simp only[qJg];rw[e3,List.take_append,yQ5 (by omega),Nat.add_sub_cancel_left,Nat.add_assoc,←gQs,List.drop_left];simp[yQy]
theorem Chk.bytes:∀{cs:List AV} {s:List UInt8},Chk rU A w cs s↔cs=qJk s
  | cs,[]=>Iff.rfl
  | cs,x::s=>by
    constructor
    · rintro⟨a,b,h1,h2,h3⟩
      have h2:a=[.int .u8 x.toNat]:=h2;rw[h1,h2,Chk.bytes.1 h3];rfl
    · intro h
      exact⟨[.int .u8 x.toNat],qJk s,h,rfl,Chk.bytes.2 rfl⟩
theorem Chk.ints:∀{cs:List AV} {s:List Int},Chk rI A w cs s↔cs=s.map (AV.int .i64)
  | cs,[]=>Iff.rfl
  | cs,x::s=>by
    constructor
    · rintro⟨a,b,h1,h2,h3⟩
      have h2:a=[.int .i64 x]:=h2;rw[h1,h2,Chk.ints.1 h3];rfl
    · intro h
      exact⟨[.int .i64 x],s.map (AV.int .i64),h,rfl,Chk.ints.2 rfl⟩
end
def SlR {α:Type}(r:Rp α)(A:Nat→Prop)(w:AW)(v:AV)(l:List α):Prop:=
 (v= .nilslice∧l=[])∨∃b o cap ex f all,v= .slice b o l.length cap ex∧(l.length≤cap∧okEx ex r.sz=true)∧A b∧A f∧Rdb w b f all∧o+l.length * r.sz≤all.length∧Chk r A w ((all.drop o).take (l.length * r.sz)) l
theorem SlR.xa {α:Type}{r:Rp α}{A A':Nat→Prop}{w w':AW}{v:AV}{l:List α}(h:SlR r A w v l)(e:Xa A w A' w'):SlR r A' w' v l:=by
 rcases h with h | ⟨b,o,cap,ex,f,all,h1,h0,h2,h3,h4,h5,h6⟩
 ·exact .inl h
 ·obtain⟨a1,a2,a3⟩:=e.a b f all h2 h3 h4;exact .inr ⟨b,o,cap,ex,f,all,h1,h0,a1,a2,a3,h5,h6.xa e⟩
theorem SlR.rs {α:Type}{r:Rp α}{A:Nat→Prop}{w:AW}{v:AV}{l:List α}(h:SlR r A w v l):∃all,Rs w r.sz l.length v all∧Chk r A w all l:=by
 rcases h with⟨rfl,rfl⟩ | ⟨b,o,cap,ex,f,all,h1,h0,h2,h3,h4,h5,h6⟩
 ·exact⟨[],Rs.nil,rfl⟩
 ·exact⟨_,.inr ⟨b,o,cap,ex,all,h1,h4.2,h5,rfl⟩,h6⟩
theorem SlR.ok {α:Type}{r:Rp α}{A:Nat→Prop}{w:AW}{v:AV}{l:List α}(h:SlR r A w v l):qJc v=true:=by
 rcases h with⟨rfl,rfl⟩ | ⟨b,o,cap,ex,f,all,rfl,_⟩<;>rfl
def rL {α:Type}(r:Rp α):Rp (List α):=⟨1,fun A w cs l=>∃v,cs=[v]∧SlR r A w v l,
 fun⟨v,h,_⟩=>by rw[h];rfl,fun⟨v,h,h2⟩=>by rw[h,List.all_cons,h2.ok];rfl,fun e ⟨v,h,h2⟩=>⟨v,h,h2.xa e⟩⟩
section
variable {α:Type}{r:Rp α}{A A':Nat→Prop}{w w':AW}{v:AV}{l:List α}
theorem Rp.rd.sl(h:(rL r).rd A w [v] l):SlR r A w v l:=by obtain⟨v',e,h⟩:=h;cases e;exact h
theorem SlR.rd(h:SlR r A w v l):(rL r).rd A w [v] l:=⟨v,rfl,h⟩
theorem SlR.nil:SlR r A w .nilslice []:= .inl ⟨rfl,rfl⟩
theorem Rp.rd.nil:(rL r).rd A w [.nilslice] []:=SlR.nil.rd
theorem Rp.rd.rs(h:(rL r).rd A w [v] l):∃all,Rs w r.sz l.length v all∧Chk r A w all l:=h.sl.rs
theorem Rp.rd.len'(h:(rL r).rd A w [v] l):lenS v=some (.int .i64 l.length):=by obtain⟨all,h2,_⟩:=h.rs;exact h2.len
theorem Rp.rd.rsB {s:List UInt8}(h:(rL rU).rd A w [v] s):RsB w v s:=by
 obtain⟨all,h1,h2⟩:=h.rs;rw[Chk.bytes.1 h2]at h1;exact h1
theorem Rp.rd.rsI {s:List Int}(h:(rL rI).rd A w [v] s):RsI w v s:=by
 obtain⟨all,h1,h2⟩:=h.rs;rw[Chk.ints.1 h2]at h1;exact h1
theorem Box.sl {b n cap:Nat}{ex:Option Nat}{cs:List AV}(hb:Box w b cs)(hA:A b)(hn:n=l.length)(hc:Chk r A w cs l)(hcap:n≤cap:=by omega)(hex:okEx ex r.sz=true:=by rfl):(rL r).rd A w [.slice b 0 n cap ex] l:=by
 subst hn;have:=hc.len;exact⟨_,rfl,.inr ⟨b,0,cap,ex,b,cs,rfl,⟨hcap,hex⟩,hA,hA,hb.rdb,by omega,by rw[List.drop_zero,←this,gQi];exact hc⟩⟩
theorem Rp.rd.at(h:(rL r).rd A w [v] l){i:Nat}(hi:i<l.length){K:Nat→Nat→Prop}
  (hK:∀b o cs,r.rd A w cs l[i]→(∀f,f<r.sz→ld w b (o+f)=cs[f]?)→ldN r.sz w b o=some (.agg cs)→K b o):atP (idxS r.sz v (.int .i64 (i:Int))) K:=by
 obtain⟨all,h1,h2⟩:=h.rs;refine h1.at (by omega) (by omega) fun b o hf hn=>?_;have hg:=h2.get i hi;have hl:=r.len hg;refine hK b o _ hg (fun f hf'=>?_) hn;rw[hf f hf',gQr hf',gQj];rfl
theorem Rp.rd.at1(h:(rL r).rd A w [v] l)(h1:r.sz=1){i:Nat}(hi:i<l.length){K:Nat→Nat→Prop}
  (hK:∀b o a,r.rd A w [a] l[i]→ld w b o=some a→K b o):atP (idxS 1 v (.int .i64 (i:Int))) K:=by
 have:=h.at hi (K:=K) fun b o cs hc hf _=>by
  have hl:=r.len hc;rw[h1]at hl hf
  match cs,hl with
  | [a],_=>exact hK b o a hc (by have:=hf 0 (by omega);simpa using this)
 rw[h1]at this;exact this
end
/-! ### A function's own blocks -/
inductive Ob where
 | row (cs:List AV)
 | map (es:List (AV×AV))
 | acc (b:Nat) (cs:List AV)
 | dty (b:Nat) (cs:List AV)
 | obj (o:AO)
 | none
def Ob.is:Ob→AW→Nat→Prop
 | .row cs,w,b=>Box w b cs
 | .map es,w,b=>∃cl,w.get b=some (.map es cl)
 | .acc b cs,w,f=>(∃o d,w.get b=some (.cells cs f o d))∧w.root? f=some (f,b,false)
 | .dty b cs,w,f=>(∃o d,w.get b=some (.cells cs f o d))∧w.root? f=some (f,b,true)
 | .obj o,w,b=>w.get b=some o∧∀cs f own d,o≠ .cells cs f own d
 | .none,_,_=>True
def Ob.re:Ob→Bool
 | .none=>false
 | _=>true
theorem Ob.is.lt {x:Ob}{w:AW}{b:Nat}(h:x.is w b)(hr:x.re=true)(hm:Mem w):b<w.size:=by
 cases x with
 | row cs=>exact Box.lt h hm
 | map es=>obtain⟨cl,h⟩:=h;exact hm.lt _ _ h
 | acc b' cs=>obtain⟨c0,hc0,_⟩:=AW.root?_iff.1 h.2;exact hm.lt _ _ hc0
 | dty b' cs=>obtain⟨c0,hc0,_⟩:=AW.root?_iff.1 h.2;exact hm.lt _ _ hc0
 | obj o=>exact hm.lt _ _ h.1
 | none=>cases hr
theorem Ob.is.root {x:Ob}{w:AW}{b f o:Nat}{d:Bool}{cs:List AV}(h:x.is w b)(hr:x.re=true)(hg:w.get b=some (.cells cs f o d)):f=b:=by
  cases x with
  | row cs=>have h:w.get b=some (.cells cs b b false):=h;rw[h]at hg;cases hg;rfl
  | map es=>obtain⟨cl,h⟩:=h;rw[h]at hg;cases hg
  | acc b' cs=>
    obtain⟨c0,hc0,_⟩:=AW.root?_iff.1 h.2;have hc0:w.get b=some (.cells c0 b b' false):=hc0;rw[hc0]at hg;cases hg;rfl
  | dty b' cs=>
    obtain⟨c0,hc0,_⟩:=AW.root?_iff.1 h.2;have hc0:w.get b=some (.cells c0 b b' true):=hc0;rw[hc0]at hg;cases hg;rfl
  | obj o=>exact absurd (gQb (h.1.symm.trans hg)) (h.2 _ _ _ _)
  | none=>cases hr
theorem Ob.is.keep {x:Ob}{w w':AW}{b:Nat}(h:x.is w b)(hg:x.re=true→w'.get b=w.get b)(hf:∀c cs o d,w.get c=some (.cells cs b o d)→w'.get c=w.get c):x.is w' b:=by
 cases x with
 | row cs=>exact(hg rfl).trans h
 | map es=>obtain⟨cl,h⟩:=h;exact⟨cl,(hg rfl).trans h⟩
 | acc b' cs=>obtain⟨⟨o,d,h1⟩,h2⟩:=h;exact⟨⟨o,d,(hf _ _ _ _ h1).trans h1⟩,by rw[AW.root?_congr (hg rfl)];exact h2⟩
 | dty b' cs=>obtain⟨⟨o,d,h1⟩,h2⟩:=h;exact⟨⟨o,d,(hf _ _ _ _ h1).trans h1⟩,by rw[AW.root?_congr (hg rfl)];exact h2⟩
 | obj o=>exact⟨(hg rfl).trans h.1,h.2⟩
 | none=>trivial
abbrev Obs:=List (Nat×Ob)
def ids:Obs→List Nat
 | []=>[]
 | p::L=>bif p.2.re then p.1::ids L else ids L
def fz(A:Nat→Prop)(U:List Nat)(c:Nat):Prop:=A c∧c∉U
theorem jJf {p:Nat×Ob}:∀{L:Obs},p∈L→p.2.re=true→p.1∈ids L
  | q::L,h,hr=>by
    unfold ids;rcases yQw.1 h with rfl | h
    · rw[hr];exact yQu
    · have:=jJf h hr
      cases q.2.re
      · exact this
      · exact yQq _ this
theorem gJs {c:Nat}:∀{L:Obs},c∈ids L→∃p∈L,p.2.re=true∧p.1=c
  | q::L,h=>by
    unfold ids at h
    cases hr:q.2.re with
    | false=>rw[hr]at h;obtain⟨p,h1,h2⟩:=gJs (L:=L) h;exact⟨p,yQq _ h1,h2⟩
    | true=>
      rw[hr]at h;rcases yQw.1 h with rfl | h
      · exact⟨q,yQu,hr,rfl⟩
      · obtain⟨p,h1,h2⟩:=gJs (L:=L) h;exact⟨p,yQq _ h1,h2⟩
theorem nids {L:Obs}{c:Nat}(hp:∀p∈L,p.2.re=true→p.1≠c):c∉ids L:=fun h=>by obtain⟨p,h1,hr,h2⟩:=gJs h;exact hp p h1 hr h2
structure Xw(U:List Nat)(w:AW)(U':List Nat)(w':AW):Prop where
 a:∀c f all,c∉U→f∉U→Rdb w c f all→c∉U'∧f∉U'∧Rdb w' c f all
structure Xt(U:List Nat)(w:AW)(U':List Nat)(w':AW):Prop where
 xw:Xw U w U' w'
 g:∀c,c<w.size→c∉U→c∉U'∧w'.get c=w.get c
 s:w.size≤w'.size
structure Pv(A:Nat→Prop)(w:AW):Prop where
 mem:Mem w
 pos:0<w.size
 new:∀c,w.size≤c→A c
structure Ow(A:Nat→Prop)(I:List Nat)(w0 w:AW)(L:Obs):Prop where
 mem:Mem w
 pos:0<w0.size
 size:w0.size≤w.size
 old:∀c,c<w0.size→c∉I→w.get c=w0.get c
 new:∀c,w.size≤c→A c
 box:∀p∈L,p.2.re=true→p.2.is w p.1∧(w0.size≤p.1∨p.1∈I)∧A p.1∧p.1≠0
 nd:(ids L).Nodup
def nth {β:Type}:List β→Nat→Option β
 | [],_=>none
 | x::_,0=>some x
 | _::l,i+1=>nth l i
def stN {β:Type}:List β→Nat→β→List β
 | [],_,_=>[]
 | _::l,0,y=>y::l
 | x::l,i+1,y=>x::stN l i y
def eraN {β:Type}:List β→Nat→List β
 | [],_=>[]
 | _::l,0=>l
 | x::l,i+1=>x::eraN l i
theorem qJw {β:Type}{x:β}:∀{l:List β} {i:Nat},nth l i=some x→x∈l
 | _::_,0,h=>by cases h;exact yQu
 | _::_,i+1,h=>yQq _ (qJw (i:=i) h)
theorem oJf {β:Type}{x:β}:∀{l:List β} {i:Nat},nth l i=some x→l.Perm (x::eraN l i)
 | _::_,0,h=>by cases h;exact List.Perm.refl _
 | y::l,i+1,h=>((oJf (l:=l) (i:=i) h).cons y).trans (List.Perm.swap _ _ _)
section
variable {A B:Nat→Prop}{I:List Nat}{w0 w w' w1 w2:AW}{L L':Obs}{U U' U1 U2:List Nat}{o o':Ob}
theorem dJv {b:Nat}:∀{l:Obs} {i:Nat},nth l i=some (b,o)→o.re=o'.re→ids (stN l i (b,o'))=ids l
  | _::l,0,h,e=>by
    cases h;show(bif o'.re then b::ids l else ids l)=(bif o.re then b::ids l else ids l);rw[e]
  | q::l,i+1,h,e=>by
    show(bif q.2.re then q.1::ids (stN l i (b,o'))else ids (stN l i (b,o')))=(bif q.2.re then q.1::ids l else ids l);rw[dJv (l:=l) (i:=i) h e]
theorem sJw {β:Type}{x:β}:∀{l:List β},x∈l→∃i,nth l i=some x
  | y::l,h=>by
    rcases yQw.1 h with rfl | h
    · exact⟨0,rfl⟩
    · obtain⟨i,hi⟩:=sJw h;exact⟨i+1,hi⟩
theorem uJs {β:Type}{x y:β}:∀{l:List β} {i:Nat},nth l i=some x→nth (stN l i y) i=some y
 | _::_,0,_=>rfl
 | _::l,i+1,h=>uJs (l:=l) (i:=i) h
theorem uJr {β:Type}{y:β}:∀{l:List β} {i j:Nat},i≠j→nth (stN l i y) j=nth l j
 | [],_,_,_=>rfl
 | _::_,0,0,h=>absurd rfl h
 | _::_,0,j+1,_=>rfl
 | _::_,i+1,0,_=>rfl
 | _::l,i+1,j+1,h=>uJr (l:=l) (i:=i) (j:=j) (by omega)
theorem bJi {p:Nat×Ob}{L:Obs}(hn:(ids (p::L)).Nodup):(ids L).Nodup:=by
 unfold ids at hn
 cases hr:p.2.re with
 | false=>rw[hr]at hn;exact hn
 | true=>rw[hr]at hn;exact(List.nodup_cons.1 hn).2
theorem uJv {p:Nat×Ob}{L:Obs}(hn:(ids (p::L)).Nodup)(hr:p.2.re=true):p.1∉ids L:=by
 unfold ids at hn;rw[hr]at hn;exact(List.nodup_cons.1 hn).1
theorem sJs {p:Nat×Ob}{L:Obs}(hn:(ids L).Nodup)(h:p.2.re=true→p.1∉ids L):(ids (p::L)).Nodup:=by
 unfold ids
 cases hr:p.2.re with
 | false=>exact hn
 | true=>exact List.nodup_cons.2 ⟨h hr,hn⟩
theorem Obs.uniq {p q:Nat×Ob}:∀{l:Obs} {i j:Nat},(ids l).Nodup→nth l i=some p→nth l j=some q→p.2.re=true→q.2.re=true→p.1=q.1→i=j
  | _::_,0,0,_,_,_,_,_,_=>rfl
  | x::l,0,j+1,hn,h1,h2,hp,hq,e=>by
    cases h1;exact absurd (e▸jJf (qJw (i:=j) h2) hq) (uJv hn hp)
  | x::l,i+1,0,hn,h1,h2,hp,hq,e=>by
    cases h2;exact absurd (e▸jJf (qJw (i:=i) h1) hp) (uJv hn hq)
  | x::l,i+1,j+1,hn,h1,h2,hp,hq,e=>by rw[Obs.uniq (i:=i) (j:=j) (bJi hn) h1 h2 hp hq e]
theorem eJp {y p:Nat×Ob}{l:Obs}{i:Nat}{x:Nat×Ob}(hi:nth l i=some x)(hx:x.2.re=true)(hn:(ids l).Nodup)(hp:p∈stN l i y):p=y∨(p∈l∧(p.2.re=true→p.1≠x.1)):=by
 obtain⟨j,hj⟩:=sJw hp;by_cases hij:i=j
 ·subst hij;rw[uJs hi]at hj;cases hj;exact .inl rfl
 ·rw[uJr hij]at hj;exact .inr ⟨qJw hj,fun hr e=>hij (Obs.uniq hn hi hj hx hr e.symm)⟩
theorem cJ3 {c:Nat}{y:Nat×Ob}:∀{l:Obs} {i:Nat},c∈ids (stN l i y)→(c=y.1∧y.2.re=true)∨c∈ids l:=by
  intro l i h;obtain⟨p,h1,h2,h3⟩:=gJs h;clear h
  induction l generalizing i with
  | nil=>cases i<;>cases h1
  | cons a l ih=>
    cases i with
    | zero=>
      rcases yQw.1 h1 with rfl | h1
      · exact .inl ⟨h3.symm,h2⟩
      · exact .inr (h3▸jJf (yQq _ h1) h2)
    | succ i=>
      rcases yQw.1 h1 with rfl | h1
      · exact .inr (h3▸jJf yQu h2)
      · rcases ih h1 with h | h
        · exact .inl h
        · obtain⟨q,g1,g2,g3⟩:=gJs h
          exact .inr (g3▸jJf (yQq _ g1) g2)
theorem vQj {x y:Nat×Ob}:∀{l:Obs} {i:Nat},nth l i=some x→(ids l).Nodup→y.1∉ids l∨(y.1=x.1∧x.2.re=true)→(ids (stN l i y)).Nodup
  | a::l,0,hi,hn,hy=>by
    cases hi;refine sJs (bJi hn) fun _=>?_;rcases hy with hy | ⟨hy,hr⟩
    · exact fun h=>hy (by obtain⟨q,g1,g2,g3⟩:=gJs h;exact g3▸jJf (yQq _ g1) g2)
    · rw[hy];exact uJv hn hr
  | a::l,i+1,hi,hn,hy=>by
    have hl:∀{c},c∈ids l→c∈ids (a::l):=fun h=>by obtain⟨q,g1,g2,g3⟩:=gJs h;exact g3▸jJf (yQq _ g1) g2
    refine sJs (vQj (l:=l) (i:=i) hi (bJi hn) ?_) fun ha h=>?_
    · rcases hy with hy | hy
      · exact .inl fun h=>hy (hl h)
      · exact .inr hy
    · rcases cJ3 (l:=l) (i:=i) h with⟨h1,h2⟩ | h
      · rcases hy with hy | ⟨hy,hr⟩
        · exact hy (h1▸jJf yQu ha)
        · exact uJv hn ha (by rw[h1,hy];exact jJf (qJw (i:=i) hi) hr)
      · exact uJv hn ha h
theorem oJq {L':Obs}(hp:L.Perm L'):(ids L).Perm (ids L'):=by
  have e:∀l:Obs,ids l=(l.filter fun p=>p.2.re).map (·.1):=fun l=>by
    induction l with
    | nil=>rfl
    | cons a l ih=>
      unfold ids;rw[List.filter_cons];cases a.2.re<;>simp[ih]
  rw[e,e];exact(hp.filter _).map _
theorem Xw.xa(h:Xw U w U' w'):Xa (fz B U) w (fz B U') w':=⟨fun c f all a b d=>by obtain⟨h1,h2,h3⟩:=h.a c f all a.2 b.2 d;exact⟨⟨a.1,h1⟩,⟨b.1,h2⟩,h3⟩⟩
theorem Rp.rd.x {α:Type}{r:Rp α}{cs:List AV}{x:α}(h:r.rd (fz B U) w cs x)(e:Xt U w U' w'):r.rd (fz B U') w' cs x:=h.xa e.xw.xa
theorem Rp.rd.y {α:Type}{r:Rp α}{cs:List AV}{x:α}(h:r.rd (fz B U) w cs x)(e:Xw U w U' w'):r.rd (fz B U') w' cs x:=h.xa e.xa
theorem Rp.rd.out {α:Type}{r:Rp α}{cs:List AV}{x:α}(h:r.rd (fz A U) w cs x):r.rd A w cs x:=h.xa ⟨fun _ _ _ a b d=>⟨a.1,b.1,d⟩⟩
theorem Rp.rd.le {α:Type}{r:Rp α}{cs:List AV}{x:α}(h:r.rd A w cs x)(hB:∀c,c<w.size→A c→B c)(hm:Mem w):r.rd B w cs x:=h.xa ⟨fun c f all a b d=>⟨hB c (d.lt hm).1 a,hB f (by have:=d.lt hm;omega) b,d⟩⟩
theorem Xw.refl:Xw U w U w:=⟨fun _ _ _ a b d=>⟨a,b,d⟩⟩
theorem Xt.refl:Xt U w U w:=⟨Xw.refl,fun _ _ a=>⟨a,rfl⟩,yQm _⟩
theorem Xw.trans(h:Xw U w U1 w1)(h':Xw U1 w1 U2 w2):Xw U w U2 w2:=⟨fun c f all a b d=>by obtain⟨h1,h2,h3⟩:=h.a c f all a b d;exact h'.a c f all h1 h2 h3⟩
theorem Xt.trans(h:Xt U w U1 w1)(h':Xt U1 w1 U2 w2):Xt U w U2 w2:=
 ⟨h.xw.trans h'.xw,fun c a b=>by obtain⟨h1,h2⟩:=h.g c a b;obtain⟨h3,h4⟩:=h'.g c (by have:=h.s;omega) h1;exact⟨h3,h4.trans h2⟩,gQt h.s h'.s⟩
theorem Pv.st(h:Pv A w):Ow A [] w w []:=⟨h.mem,h.pos,yQm _,fun _ _ _=>rfl,h.new,by simp,List.nodup_nil⟩
theorem Ow.P0(h:Ow A I w0 w L):Pv A w:=⟨h.mem,by have:=h.pos;have:=h.size;omega,h.new⟩
theorem Ow.P(h:Ow A I w0 w L):Pv (fz A (ids L)) w:=⟨h.mem,h.P0.pos,fun c hc=>⟨h.new c hc,nids fun p hp hr e=>by have:=(h.box p hp hr).1.lt hr h.mem;omega⟩⟩
theorem Ow.fr(h:Ow A [] w0 w L):Fr w0.size w0 w:=⟨h.size,fun c hc=>h.old c hc (by simp),h.mem⟩
theorem Ow.arg {α:Type}{r:Rp α}{cs:List AV}{x:α}(st:Ow A [] w0 w L)(hm:Mem w0)(h:r.rd B w0 cs x):r.rd (fz B (ids L)) w cs x:=h.xa ⟨fun c f all a a' d=>by
 have hd:=d.lt hm;have hn:∀c,c<w0.size→c∉ids L:=fun c hc=>nids fun p hp hr e=>by
  rcases(st.box p hp hr).2.1 with h | h
  ·omega
  ·simp at h
 exact⟨⟨a,hn _ hd.1⟩,⟨a',hn _ (by omega)⟩,d.congr (st.old _ hd.1 (by simp)) (st.old _ (by omega) (by simp))⟩⟩
theorem Ow.ids_lt(h:Ow A I w0 w L){c:Nat}(hc:c∈ids L):c<w.size:=by
 obtain⟨p,h1,hr,h2⟩:=gJs hc;rw[←h2];exact(h.box p h1 hr).1.lt hr h.mem
theorem Xt.fr(hm:Mem w)(hf:Fr w.size w w'):Xt (ids L) w (ids L) w':=⟨⟨fun _ _ _ a b d=>⟨a,b,d.fr hm hf (yQm _)⟩⟩,fun c a b=>⟨b,hf.old c a⟩,hf.size⟩
theorem Ow.call(h:Ow A I w0 w L)(hf:Fr w.size w w'):Ow A I w0 w' L∧Xt (ids L) w (ids L) w':=
 ⟨⟨hf.mem,h.pos,by have:=h.size;have:=hf.size;omega,fun c hc hi=>(hf.old c (by have:=h.size;omega)).trans (h.old c hc hi),fun c hc=>h.new c (by have:=hf.size;omega),fun p hp hr=>⟨(h.box p hp hr).1.keep (fun _=>hf.old _ ((h.box p hp hr).1.lt hr h.mem)) fun c cs o d hc=>hf.old _ (h.mem.lt _ _ hc),(h.box p hp hr).2⟩,h.nd⟩,Xt.fr h.mem hf⟩
theorem Ow.push(h:Ow A I w0 w L){p:Nat×Ob}(hpr:p.2.re=true)(f1:Fr w.size w w')(e1:w.size≤p.1)(b1:p.2.is w' p.1):Ow A I w0 w' (p::L)∧Xt (ids L) w (p.1::ids L) w':=by
 have hs:=h.size;have hs':=f1.size;have hp:=h.pos;refine⟨⟨f1.mem,h.pos,by omega,fun c hc hi=>(f1.old c (by omega)).trans (h.old c hc hi),fun c hc=>h.new c (by omega),fun q hq hr=>?_,sJs h.nd fun _ hq=>by have:=h.ids_lt hq;omega⟩,⟨⟨fun c f all a a' b=>⟨fun hq=>?_,fun hq=>?_,b.fr h.mem f1 (yQm _)⟩⟩,fun c a b=>⟨fun hq=>?_,f1.old c a⟩,hs'⟩⟩
 ·rcases yQw.1 hq with rfl | hq
  ·exact⟨b1,.inl (by omega),h.new _ (by omega),by omega⟩
  ·exact⟨(h.box q hq hr).1.keep (fun _=>f1.old _ ((h.box q hq hr).1.lt hr h.mem)) (fun c cs o d hc=>f1.old _ (h.mem.lt _ _ hc)),(h.box q hq hr).2⟩
 ·rcases yQw.1 hq with hq | hq
  ·have:=b.lt h.mem;omega
  ·exact a hq
 ·rcases yQw.1 hq with hq | hq
  ·have:=b.lt h.mem;omega
  ·exact a' hq
 ·rcases yQw.1 hq with hq | hq
  ·omega
  ·exact b hq
theorem Ow.new'(h:Ow A I w0 w L){cs:List AV}{K:Nat→AW→Prop}(hK:∀b w',Ow A I w0 w' ((b,.row cs)::L)→Xt (ids L) w (b::ids L) w'→K b w'):Sx.new w cs K:=
 new_of h.mem fun w' f1 b1 z1=>by obtain⟨a,b⟩:=h.push (p:=(w.size,.row cs)) rfl f1 (yQm _) b1;exact hK _ _ a b
theorem Ow.drop {p:Nat×Ob}(h:Ow A I w0 w (p::L))(hr:p.2.re=true:=by rfl):Ow A I w0 w L∧Xt (p.1::ids L) w (ids L) w∧fz A (ids L) p.1∧p.2.is w p.1:=by
 have hk:∀c,c∉p.1::ids L→c∉ids L:=fun c hc hx=>hc (yQq _ hx);exact⟨⟨h.mem,h.pos,h.size,h.old,h.new,fun q hq=>h.box q (yQq _ hq),bJi h.nd⟩,⟨⟨fun c f all a a' b=>⟨hk c a,hk f a',b⟩⟩,fun c a b=>⟨hk c b,rfl⟩,yQm _⟩,⟨(h.box p yQu hr).2.2.1,uJv h.nd hr⟩,(h.box p yQu hr).1⟩
theorem Ow.room(h:Ow A I w0 w L):Ow A I w0 w ((0,.none)::L):=⟨h.mem,h.pos,h.size,h.old,h.new,fun q hq hr=>by
 rcases yQw.1 hq with rfl | hq
 ·cases hr
 ·exact h.box q hq hr,h.nd⟩
theorem Ow.forget {p:Nat×Ob}(h:Ow A I w0 w (p::L)):Ow A I w0 w L∧Xt (ids (p::L)) w (ids L) w:=by
 have hk:∀c,c∉ids (p::L)→c∉ids L:=fun c hc hx=>hc (by obtain⟨q,g1,g2,g3⟩:=gJs hx;exact g3▸jJf (yQq _ g1) g2);exact⟨⟨h.mem,h.pos,h.size,h.old,h.new,fun q hq=>h.box q (yQq _ hq),bJi h.nd⟩,⟨⟨fun c f all a a' b=>⟨hk c a,hk f a',b⟩⟩,fun c a b=>⟨hk c b,rfl⟩,yQm _⟩⟩
theorem Ow.perm {L':Obs}(h:Ow A I w0 w L)(hp:L.Perm L'):Ow A I w0 w L'∧Xt (ids L) w (ids L') w:=by
 have hk:∀c,c∉ids L→c∉ids L':=fun c hc hx=>hc ((oJq hp).mem_iff.2 hx);exact⟨⟨h.mem,h.pos,h.size,h.old,h.new,fun p hp'=>h.box p (hp.mem_iff.2 hp'),(oJq hp).nodup_iff.1 h.nd⟩,⟨⟨fun c f all a a' b=>⟨hk c a,hk f a',b⟩⟩,fun c a b=>⟨hk c b,rfl⟩,yQm _⟩⟩
theorem Ow.front(h:Ow A I w0 w L)(i:Nat){p:Nat×Ob}(hi:nth L i=some p):Ow A I w0 w (p::eraN L i)∧Xt (ids L) w (ids (p::eraN L i)) w:=h.perm (oJf hi)
theorem Ow.turn(h:Ow A I w0 w L)(i:Nat){b:Nat}(hi:nth L i=some (b,o))(ho:o.re=true)(ho':o'.re=true)(c:Ch [b] w w')(b':o'.is w' b):Ow A I w0 w' (stN L i (b,o'))∧Xt (ids L) w (ids L) w':=by
 obtain⟨hb,h0,hA,hz⟩:=h.box _ (qJw hi) ho;have hs:=h.size;have hbU:b∈ids L:=jJf (qJw hi) ho;refine⟨⟨c.mem,h.pos,by have:=c.size;omega,fun c' hc hi'=>(c.old c' (by omega) (by
   simp only[List.mem_singleton];rintro rfl;rcases h0 with h0 | h0
   ·exact absurd hc (by simp only[]at h0;omega)
   ·exact hi' h0)).trans (h.old c' hc hi'),fun c' hc=>h.new c' (by have:=c.size;omega),fun p hp hpr=>?_,by rw[dJv hi (ho.trans ho'.symm)];exact h.nd⟩,⟨⟨fun c' f all a a' b''=>⟨a,a',?_⟩⟩,fun c' a b''=>⟨b'',c.old c' a (by simp only[List.mem_singleton];rintro rfl;exact b'' hbU)⟩,c.size⟩⟩
 ·rcases eJp hi ho h.nd hp with rfl | ⟨h1,h2⟩
  ·exact⟨b',h0,hA,hz⟩
  ·refine⟨(h.box p h1 hpr).1.keep (fun _=>c.old _ ((h.box p h1 hpr).1.lt hpr h.mem) (by simpa using h2 hpr)) fun c2 cs o d hc=>c.old _ (h.mem.lt _ _ hc) ?_,(h.box p h1 hpr).2⟩;simp only[List.mem_singleton];rintro rfl;exact h2 hpr (hb.root ho hc)
 ·have hne:c'≠b:=by rintro rfl;exact a hbU
  have hnf:f≠b:=by rintro rfl;exact a' hbU
  have hlt:=b''.lt h.mem;exact b''.congr (c.old c' hlt.1 (by simpa using hne)) (c.old f (by omega) (by simpa using hnf))
theorem Ow.put(h:Ow A I w0 w L)(i:Nat){b o:Nat}{cs vs:List AV}(hi:nth L i=some (b,.row cs))(hl:o+vs.length≤cs.length){K:AW→Prop}
  (hK:∀w',Ow A I w0 w' (stN L i (b,.row (qJg cs o vs)))→Xt (ids L) w (ids L) w'→K w'):onM (w.putCells b o vs) K:=by
 obtain⟨hb,h0,hA,hz⟩:=h.box _ (qJw hi) rfl;have hb:Box w b cs:=hb;refine hb.put' h.mem hz hl fun w' c b' z=>?_;obtain⟨a,e⟩:=h.turn (o':= .row (qJg cs o vs)) i hi rfl rfl c b';exact hK w' a e
theorem Ow.ld(h:Ow A I w0 w L)(i:Nat){b o:Nat}{cs:List AV}{v:AV}(hi:nth L i=some (b,.row cs))(hv:cs[o]? =some v):Sx.ld w b o=some v:=by
 have hb:Box w b cs:=(h.box _ (qJw hi) rfl).1;rw[hb.ld];exact hv
theorem Ow.ldN(h:Ow A I w0 w L)(i:Nat){b o n:Nat}{cs:List AV}{v:AV}(hi:nth L i=some (b,.row cs))(hn:Nat.ble (o+n) cs.length=true)(hv:AV.agg ((cs.drop o).take n)=v):Sx.ldN n w b o=some v:=by
 have hb:Box w b cs:=(h.box _ (qJw hi) rfl).1;rw[hb.ldN (yQk hn),hv]
/-! ### Rows that grow -/
def Ga {α:Type}(r:Rp α)(A:Nat→Prop)(w0 w:AW)(v:AV)(l:List α):Prop:=(∀b,blk v=some b→A b)∧∃cs,Gc (fun f=>w0.size≤f∧A f) r.sz w v cs∧Chk r A w cs l
end
section
variable {α:Type}{r:Rp α}{A A' B:Nat→Prop}{I:List Nat}{w0 w w':AW}{L L':Obs}{v xv:AV}{l l':List α}
theorem Ga.nil:Ga r A w0 w .nilslice []:=⟨fun _ h=>(by cases h),[],Gc.nil,rfl⟩
theorem Ga.rd(h:Ga r A w0 w v l)(hs:0<r.sz):(rL r).rd A w [v] l:=by
 obtain⟨h1,cs,h2,h3⟩:=h;have hl:=h3.len;rcases h2 with⟨rfl,rfl⟩ | ⟨b,f,n,ex,o,d,rfl,g1,g2,g3,g4,g5,g6⟩
 ·have:l=[]:=List.eq_nil_of_length_eq_zero (by
   rcases Nat.mul_eq_zero.1 hl.symm with h | h
   ·exact h
   ·omega)
  subst this;exact SlR.nil.rd
 ·have:n=l.length:=Nat.eq_of_mul_eq_mul_right hs (g1.trans hl);subst this;exact⟨_,rfl,.inr ⟨b,0,_,ex,f,cs,rfl,⟨yQm _,by rcases g2 with rfl | rfl<;>simp[okEx]⟩,h1 _ rfl,g3.2,Rdb.mk g5 g6,by omega,by rw[List.drop_zero,g1,gQi];exact h3⟩⟩
theorem Ga.rdb(h:Ga r A w0 w v l){b:Nat}(hb:blk v=some b):∃f cs,A f∧Rdb w b f cs:=by
 obtain⟨h1,cs,h2,h3⟩:=h;rcases h2 with⟨rfl,_⟩ | ⟨b',f,n,ex,o,d,rfl,g1,g2,g3,g4,g5,g6⟩
 ·cases hb
 ·cases hb;exact⟨f,cs,g3.2,Rdb.mk g5 g6⟩
theorem Ga.x {w1 w2:AW}{U U':List Nat}(e:Xt U w U' w')(hm:Ow A I w2 w L)(h:Ga r (fz B U) w1 w v l):Ga r (fz B U') w1 w' v l:=by
 obtain⟨h1,cs,h2,h3⟩:=id h;refine⟨fun b hb=>?_,cs,?_,h3.xa e.xw.xa⟩
 ·obtain⟨f,cs',hf,hc⟩:=h.rdb hb;exact⟨(h1 b hb).1,(e.xw.a b f cs' (h1 b hb).2 hf.2 hc).1⟩
 ·rcases h2 with h2 | ⟨b,f,n,ex,o,d,rfl,g1,g2,g3,g4,g5,g6⟩
  ·exact .inl h2
  ·have hbU:b∉U:=(h1 b rfl).2;have hblt:=hm.mem.lt _ _ g5;have hfl:=hm.mem.fam _ _ _ _ _ g5;have hf:=e.g f (by omega) g3.2.2;exact .inr ⟨b,f,n,ex,o,d,rfl,g1,g2,⟨g3.1,g3.2.1,hf.1⟩,g4,((e.g b hblt hbU).2).trans g5,by rw[AW.root?_congr hf.2];exact g6⟩
theorem GrC.is {Q:Nat→Prop}{o:Ob}{b:Nat}(hg:GrC Q v w w')(h:o.is w b)(hb:¬ Q b):o.is w' b:=by
  have hm:∀c cs o d,w.get c=some (.cells cs b o d)→w'.get c=w.get c:=fun c cs o d hc=>hg.fam _ _ _ _ _ hc hb;refine h.keep (fun hr=>?_) hm
  cases o with
  | row cs=>exact hm _ _ _ _ h
  | map es=>obtain⟨cl,h⟩:=h;exact(hg.obj _ _ h (fun cs f own d e=>by cases e)).trans h.symm
  | acc b' cs=>
    obtain⟨c0,hc0,_⟩:=AW.root?_iff.1 h.2;exact hm _ _ _ _ hc0
  | dty b' cs=>
    obtain⟨c0,hc0,_⟩:=AW.root?_iff.1 h.2;exact hm _ _ _ _ hc0
  | obj o=>exact(hg.obj _ _ h.1 h.2).trans h.1.symm
  | none=>cases hr
theorem Ow.appSrc(st:Ow A I w0 w L)(hg:Ga r (fz B (ids L)) w0 w v l){new:List AV}(hx:Bhd w r.sz l'.length xv new)(hc:Chk r (fz B (ids L)) w new l')(hs:0<r.sz)(hB:∀c,w.size≤c→B c){bytes:Nat}(hb:(2 * (l.length+l'.length)+1000) * bytes<2^48)(hb2:l.length+l'.length<2^62){K:AV→AW→Prop}
  (hK:∀v' w',Ow A I w0 w' L→Xw (ids L) w (ids L) w'→Ga r (fz B (ids L)) w0 w' v' (l++l')→K v' w'):onE (appS r.sz bytes w v xv) K:=by
 obtain⟨h1,cs,h2,h3⟩:=hg;have hl:cs.length / r.sz=l.length:=by rw[h3.len,gQ2 _ hs]
 have hsz:=st.size;have hpos:=st.pos;have hn:w.size∉ids L:=(st.P.new _ (yQm _)).2;refine h2.appSrc st.mem ⟨hsz,hB _ (yQm _),hn⟩ (by omega) hs hx (by rw[hl];exact hb) (by rw[hl];exact hb2) fun v' w' hg' hgr hfresh=>?_;have e:Xw (ids L) w (ids L) w':=⟨fun c f all a b d=>⟨a,b,d.grc hgr⟩⟩;refine hK v' w' ⟨hgr.mem,hpos,by have:=hgr.size;omega,fun c hc hi=>(hgr.old c (by omega) (fun h=>by have:=h.1;omega)).trans (st.old c hc hi),fun c hc=>st.new c (by have:=hgr.size;omega),fun p hp hr=>⟨hgr.is (st.box p hp hr).1 fun e=>e.2.2 (jJf hp hr),(st.box p hp hr).2⟩,st.nd⟩ e ⟨fun b hb=>?_,_,hg',(h3.xa e.xa).app (hc.xa e.xa)⟩;by_cases hlt:b<w.size
 ·have:=hfresh b hb hlt;rw[this]at hb;exact h1 b hb
 ·exact⟨hB b (by omega),(st.P.new b (by omega)).2⟩
theorem Ow.app(st:Ow A I w0 w L)(hg:Ga r (fz B (ids L)) w0 w v l)(hx:(rL r).rd (fz B (ids L)) w [xv] l')(hs:0<r.sz)(hB:∀c,w.size≤c→B c){bytes:Nat}(hb:(2 * (l.length+l'.length)+1000) * bytes<2^48)(hb2:l.length+l'.length<2^62){K:AV→AW→Prop}
  (hK:∀v' w',Ow A I w0 w' L→Xw (ids L) w (ids L) w'→Ga r (fz B (ids L)) w0 w' v' (l++l')→K v' w'):onE (appS r.sz bytes w v xv) K:=by
 obtain⟨all,g1,g2⟩:=hx.rs;exact st.appSrc hg g1.src g2 hs hB hb hb2 hK
theorem Box.rd1 {A:Nat→Prop}{b:Nat}{cs:List AV}{y:α}(hb:Box w b cs)(hA:A b)(h:r.rd A w cs y):(rL r).rd A w [.slice b 0 1 1 none] [y]:=Box.sl hb hA rfl (Chk.one h)
theorem Rp.rd.cut(h:(rL r).rd A w [v] l){i j:Nat}(hij:i≤j)(hj:j≤l.length){lo hi:Option AV}(hlo:lo=some (.int .i64 i)∨lo=none∧i=0)(hhi:hi=some (.int .i64 j)∨hi=none∧j=l.length):
  ∃v',slS r.sz v lo hi none=some v'∧(rL r).rd A w [v'] ((l.take j).drop i):=by
 have elo:qJ1 0 lo=some i:=by rcases hlo with rfl | ⟨rfl,rfl⟩<;>rfl
 rcases h.sl with⟨rfl,rfl⟩ | ⟨b,o,cap,ex,f,all,rfl,⟨hc1,hc2⟩,g0,g1,g2,g3,h3⟩
 ·have hi0:i=0:=by simp at hj;omega
  have hj0:j=0:=by simpa using hj
  subst hi0;subst hj0;have ehi:qJ1 0 hi=some 0:=by rcases hhi with rfl | ⟨rfl,_⟩<;>rfl
  exact⟨.nilslice,by simp only[slS,ehi,elo,Option.bind_some];rfl,by simpa using Rp.rd.nil⟩
 ·have ehi:qJ1 l.length hi=some j:=by rcases hhi with rfl | ⟨rfl,rfl⟩<;>rfl
  have hok:okB i j cap cap=true:=by simp[okB];omega
  refine⟨.slice b (o+i * r.sz) (j - i) (cap - i) ex,?_,?_⟩
  ·simp only[slS,ehi,elo,Option.bind_some,show qJ1 cap none=some cap from rfl,hok,hc2,qJf];rfl
  ·have hlen:((l.take j).drop i).length=j - i:=by simp;omega
   have hjm:j * r.sz≤l.length * r.sz:=yQ7 _ hj;have hij':i * r.sz+(j - i) * r.sz=j * r.sz:=by rw[←gQl];congr 1;omega
   refine⟨_,rfl,.inr ⟨b,_,_,_,f,all,by rw[hlen],⟨by omega,hc2⟩,g0,g1,g2,by rw[hlen];omega,?_⟩⟩;have:=(h3.take j).drop i;rw[List.take_take,Nat.min_eq_left hjm,List.drop_take,gQs]at this;rw[hlen,show(j - i) * r.sz=j * r.sz - i * r.sz by omega];exact this
/-! ### Rows of one's own that grow behind -/
def Sv(sz:Nat)(o:Ob)(v:AV)(cs:List AV):Prop:=(v= .nilslice∧cs=[])∨∃b n ex,o= .acc b cs∧v= .slice b 0 n n ex∧n * sz=cs.length∧(ex=none∨ex=some sz)
theorem Sv.nil {sz:Nat}{o:Ob}:Sv sz o .nilslice []:= .inl ⟨rfl,rfl⟩
theorem Sv.ok {sz:Nat}{o:Ob}{cs:List AV}(h:Sv sz o v cs):qJc v=true:=by
 rcases h with⟨rfl,_⟩ | ⟨b,n,ex,_,rfl,_⟩<;>rfl
theorem Ow.gc(h:Ow A I w0 w L){i f sz:Nat}{o:Ob}{cs:List AV}(hi:nth L i=some (f,o))(hv:Sv sz o v cs){Q:Nat→Prop}(hQ:Q f):Gc Q sz w v cs:=by
 rcases hv with h1 | ⟨b,n,ex,rfl,rfl,h2,h3⟩
 ·exact .inl h1
 ·obtain⟨⟨⟨o,d,g1⟩,g2⟩,_,_,g4⟩:=h.box _ (qJw hi) rfl;exact .inr ⟨b,f,n,ex,o,d,rfl,h2,h3,hQ,g4,g1,g2⟩
theorem gJg {β:Type}{x:β}:∀{l:List β} {i:Nat},nth l i=some x→stN l i x=l
 | _::_,0,h=>by cases h;rfl
 | y::l,i+1,h=>by show y::stN l i x=_;rw[gJg (l:=l) h]
theorem Ow.move(h:Ow A I w0 w L)(i:Nat){f f':Nat}{o o':Ob}(hi:nth L i=some (f,o))(hm':Mem w')(hs:w.size≤w'.size)(hold:∀c,c<w.size→(o.re=true→c≠f)→w'.get c=w.get c)
  (hfr:∀c g all,Rdb w c g all→c∉ids L→Rdb w' c g all) (hf':(f'=f∧o.re=true∧o'.re=true)∨f'=w.size) (ho':o'.is w' f'):Ow A I w0 w' (stN L i (f',o'))∧Xt (ids L) w (ids (stN L i (f',o'))) w':=by
 have hpos:=h.P0.pos;have hsz:=h.size;have hfL:o.re=true→f∈ids L:=fun hr=>jJf (qJw hi) hr;have hU:∀c,c<w.size→c∉ids L→c∉ids (stN L i (f',o')):=fun c hc hn hx=>by
  rcases cJ3 hx with⟨e,_⟩ | e
  ·simp only[]at e;rcases hf' with⟨rfl,hr,_⟩ | rfl
   ·exact hn (e▸hfL hr)
   ·omega
  ·exact hn e
 refine⟨⟨hm',h.pos,by omega,fun c hc hi'=>(hold c (by omega) fun hr e=>?_).trans (h.old c hc hi'),fun c hc=>h.new c (by omega),fun p hp hpr=>?_,?_⟩,⟨⟨fun c g all a a' d=>⟨hU c (d.lt h.mem).1 a,hU g (by have:=d.lt h.mem;omega) a',hfr c g all d a⟩⟩,fun c a b=>⟨hU c a b,hold c a fun hr e=>b (e▸hfL hr)⟩,hs⟩⟩
 ·subst e;rcases(h.box _ (qJw hi) hr).2.1 with h2 | h2
  ·simp only[]at h2;omega
  ·exact hi' h2
 ·obtain⟨j,hj⟩:=sJw hp;by_cases hij:i=j
  ·subst hij;rw[uJs hi]at hj;cases hj;rcases hf' with⟨rfl,hr,_⟩ | rfl
   ·exact⟨ho',(h.box _ (qJw hi) hr).2⟩
   ·exact⟨ho',.inl (by simp only[];omega),h.new _ (yQm _),by simp only[];omega⟩
  ·rw[uJr hij]at hj;obtain⟨q1,q2⟩:=h.box _ (qJw hj) hpr;have hpf:o.re=true→p.1≠f:=fun hor e=>hij (Obs.uniq h.nd hi hj hor hpr e.symm);refine⟨q1.keep (fun _=>hold _ (q1.lt hpr h.mem) hpf) fun c cs o2 d hc=>hold _ (h.mem.lt _ _ hc) fun hor e=>?_,q2⟩;subst e;exact hpf hor ((h.box _ (qJw hi) hor).1.root hor hc)
 ·refine vQj hi h.nd ?_;rcases hf' with⟨rfl,h2,_⟩ | rfl
  ·exact .inr ⟨rfl,h2⟩
  ·exact .inl fun hx=>by have:=h.ids_lt hx;simp only[]at this;omega
theorem Ow.accApp(h:Ow A I w0 w L)(i:Nat){f sz bytes k:Nat}{o:Ob}{cs new:List AV}(hi:nth L i=some (f,o))(hv:Sv sz o v cs)(hs:0<sz)(hx:Rs w sz k xv new)
  (hb:(2 * (cs.length / sz+k)+1000) * bytes<2^48) (hb2:cs.length / sz+k<2^62) {K:AV→AW→Prop}
  (hK:∀v' f' o' w',Ow A I w0 w' (stN L i (f',o'))→Xt (ids L) w (ids (stN L i (f',o'))) w'→Sv sz o' v' (cs++new)→K v' w'):onE (appS sz bytes w v xv) K:=by
 have hpos:=h.P0.pos;have hnl:=hx.length;by_cases hk:k=0
 ·subst hk;have hnil:new=[]:=by simpa using hnl
  subst hnil;have:=hK v f o w;rw[gJg hi]at this;refine yJv (v:=v) (w:=w) ?_ (this h Xt.refl (by simpa using hv));simp only[appS,hx.read,Option.bind_some];rcases hv with⟨rfl,_⟩ | ⟨b,n,ex,_,rfl,_⟩<;>rfl
 have hnn:new≠[]:=fun e=>by
  subst e;rcases Nat.mul_eq_zero.1 hnl.symm with h | h<;>omega
 rcases hv with⟨rfl,rfl⟩ | ⟨b,n,ex,rfl,rfl,h2,h3⟩
 ·refine(Gc.nil (Q:=fun c=>c=w.size)).app h.mem rfl hpos hs hx hb hb2 fun v' w' hg hgr hfresh=>?_;have hold:∀c,c<w.size→w'.get c=w.get c:=fun c hc=>hgr.old c hc (by omega);rw[List.nil_append]at hg;rcases hg with⟨rfl,hn⟩ | ⟨b,g,n,ex,o2,d,rfl,g1,g2,rfl,g4,g5,g6⟩
  ·exact absurd hn hnn
  ·obtain⟨a,e⟩:=h.move (o':= .acc b ([]++new)) i hi hgr.mem hgr.size (fun c hc _=>hold c hc) (fun c g all d _=>d.grc hgr) (.inr rfl) ⟨⟨o2,d,g5⟩,g6⟩;exact hK _ _ _ w' a e (.inr ⟨b,n,ex,rfl,rfl,by simpa using g1,g2⟩)
 ·refine(h.gc hi (.inr ⟨b,n,ex,rfl,rfl,h2,h3⟩) (Q:=fun c=>c=f∨c=w.size) (.inl rfl)).app h.mem (.inr rfl) hpos hs hx hb hb2 fun v' w' hg hgr hfresh=>?_;have hold:∀c,c<w.size→((Ob.acc b cs).re=true→c≠f)→w'.get c=w.get c:=fun c hc hn=>hgr.old c hc (by have:=hn rfl;omega);rcases hg with⟨rfl,hn⟩ | ⟨b',g,n',ex',o2,d,rfl,g1,g2,g3,g4,g5,g6⟩
  ·exact absurd (List.append_eq_nil_iff.1 hn).2 hnn
  ·obtain⟨a,e⟩:=h.move (f':=g) (o':= .acc b' (cs++new)) i hi hgr.mem hgr.size hold (fun c g all d _=>d.grc hgr) (by
    rcases g3 with rfl | rfl
    ·exact .inl ⟨rfl,rfl,rfl⟩
    ·exact .inr rfl) ⟨⟨o2,d,g5⟩,g6⟩
   exact hK _ _ _ w' a e (.inr ⟨b',n',ex',rfl,rfl,by simpa using g1,g2⟩)
end
end Go.Sx
/-! What a law's arguments read as, as rows. -/
namespace Go.Sx
open Go.RowKit
variable {P:Program}{css:List (List AV)}{t e:TypeId}{α:Type}{r:Rp α}
theorem Chk.of {A:Nat→Prop}{w:AW}{Q:α→Prop}:∀(n:Nat) (cs:List AV),cs.length=n * r.sz→(∀j,j<n→∃x,r.rd A w ((cs.drop (j * r.sz)).take r.sz) x∧Q x)→∃l:List α,l.length=n∧Chk r A w cs l∧∀x∈l,Q x
  | 0,cs,hl,_=>⟨[],rfl,List.eq_nil_of_length_eq_zero (by simpa using hl),by simp⟩
  | n+1,cs,hl,h=>by
    have e1:(n+1) * r.sz=r.sz+n * r.sz:=by rw[gQl,Nat.one_mul,Nat.add_comm]
    obtain⟨x,hx,hq⟩:=h 0 (by omega);obtain⟨l,h1,h2,h3⟩:=Chk.of n (cs.drop r.sz) (by rw[yQ3];omega) fun j hj=>by
      have:=h (j+1) (by omega);rw[gQs,show r.sz+j * r.sz=(j+1) * r.sz by rw[gQl,Nat.one_mul,Nat.add_comm]];exact this
    rw[Nat.zero_mul,List.drop_zero]at hx;exact⟨x::l,by simp[h1],⟨_,_,(List.take_append_drop r.sz cs).symm,hx,h2⟩,fun y hy=>by
      rcases yQw.1 hy with rfl | hy
      · exact hq
      · exact h3 y hy⟩
theorem xQ2 {i:Nat}{cs:List AV}(h:css[i]? =some cs):Rdb (argL css) (i+1) 0 cs:=by
 have hi:=(yQt.1 h).1;exact⟨⟨0,false,wJq (by omega)⟩,iJ8 h⟩
theorem Dt.rdL {Q:α→Prop}{v:AV}(hu:P.underlying t=some (.slice e))(hs:P.cellsOf e=r.sz)(he:∀cs,Dt P css e cs→∃x,r.rd (fun _=>True) (argL css) cs x∧Q x)(h:Dt P css t [v]):
    ∃l:List α,(rL r).rd (fun _=>True) (argL css) [v] l∧l.length * P.bytesOf e≤reachBytes∧∀x∈l,Q x:=by
  cases h with
  | int h=>rw[hu]at h;cases h
  | bool h=>rw[hu]at h;cases h
  | str h=>rw[hu]at h;cases h
  | nils h=>exact⟨[],Rp.rd.nil,by simp,by simp⟩
  | slice h1 h2 h3 h4 h5 h6=>
    rename_i e' i len cap cs;rw[hu]at h1;cases h1;rw[hs]at h3 h6;obtain⟨l,g1,g2,g3⟩:=Chk.of (r:=r) (A:=fun _=>True) (w:=argL css) (Q:=Q) len cs h3 fun j hj=>he _ (h6 j hj);subst g1;exact⟨l,⟨_,rfl, .inr ⟨i+1,0,cap,none,0,cs,rfl,⟨h4,rfl⟩,trivial,trivial,xQ2 h2,by omega,by rw[List.drop_zero,←h3,gQi];exact g2⟩⟩,gQt (yQ7 _ h4) h5.2,g3⟩
  | struct h=>rw[hu]at h;cases h
theorem Dt.fields {cs:List AV}{fs:Array Field}(hu:P.underlying t=some (.struct fs))(h:Dt P css t cs):cs.length=P.cellsOf t∧∀(j:Nat) (f:Field),fs.toList[j]? =some f→Dt P css f.type ((cs.drop f.offset).take (P.cellsOf f.type)):=by
 cases h with
 | int h=>rw[hu]at h;cases h
 | bool h=>rw[hu]at h;cases h
 | str h=>rw[hu]at h;cases h
 | nils h=>rw[hu]at h;cases h
 | slice h=>rw[hu]at h;cases h
 | struct h h2 h3=>rw[hu]at h;cases h;exact⟨h2,h3⟩
theorem Pv.arg:Pv (fun _=>True) (argL css):=⟨xQ3 css,by rw[xJo];omega,fun _ _=>trivial⟩
end Go.Sx
/-! Structs among a law's arguments: what they read as. -/
namespace Go.Sx
section
variable {P:Program}{css:List (List AV)}{t e:TypeId}
theorem DtA.one {a:AV}(hu:(match P.underlying t with | some (.struct _)=>true | _=>false)=false)(h:DtA P css t a):Dt P css t [a]:=by
 unfold DtA at h;split at h
 ·rename_i fs h1;rw[h1]at hu;cases hu
 ·exact h
def jQl(P:Program):Nat→List Field→Bool
 | _,[]=>true
 | k,f::l=>Nat.beq f.offset k&&Nat.beq (P.cellsOf f.type) 1&&jQl P (k+1) l
theorem Dt.ones {cs:List AV}{fs:Array Field}(hu:P.underlying t=some (.struct fs))(h:Dt P css t cs)(hb:jQl P 0 fs.toList=true)(hl:P.cellsOf t=fs.toList.length):yQg P css (fs.toList.map (·.type)) cs:=by
  obtain⟨hlen,hf⟩:=Dt.fields hu h;have key:∀(l:List Field) (k:Nat),jQl P k l=true→(∀(j:Nat) (f:Field),l[j]? =some f→Dt P css f.type ((cs.drop f.offset).take (P.cellsOf f.type)))→cs.length=k+l.length→yQg P css (l.map (·.type)) (cs.drop k):=by
    intro l
    induction l with
    | nil=>intro k _ _ hk;exact List.drop_eq_nil_of_le (by simp at hk;omega)
    | cons f l ih=>
      intro k hb hf hk;simp only[jQl,gQ3]at hb;obtain⟨⟨h1,h2⟩,h3⟩:=hb;have e1:=yQp h1;have e2:=yQp h2;have hlt:k<cs.length:=by rw[hk,gQd];omega
      have h0:=hf 0 f rfl;rw[e1,e2,gQq hlt]at h0;refine⟨cs[k],cs.drop (k+1),gQq hlt,h0,ih (k+1) h3 (fun j g hj=>hf (j+1) g hj) (by rw[hk,gQd];omega)⟩
  have:=key fs.toList 0 hb hf (by rw[hlen,hl];omega);simpa using this
end
end Go.Sx
