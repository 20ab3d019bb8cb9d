/-
 What was goes on: a vote,an election,an entry,a settling,a taking.
 No condition beyond those that each theorem names.
-/
import Derived.Test.YtghoifolghelnaaGreatMe
import Derived.Test.YtghoifolghelnaaGreatMa
set_option linter.unusedSimpArgs false
set_option linter.unusedVariables false
open Go.Sx
namespace Go.Proofs.YtghoifolghelnaaGreat
def u1 {α:Type}(f:Int→α)(t:Int)(v:α):Int→α:=fun x=>if x=t then v else f x
def u2 {α:Type}(f:Int→Nat→α)(t:Int)(i:Nat)(v:α):Int→Nat→α:=fun x k=>if x=t∧k=i then v else f x k
def uH {α:Type}(f:Nat→α)(i:Nat)(v:α):Nat→α:=fun k=>if k=i then v else f k
theorem xJi {α:Type}{f:Int→α}{t:Int}{v:α}:u1 f t v t=v:=if_pos rfl
theorem jJu {α:Type}{f:Int→α}{t x:Int}{v:α}(h:x≠t):u1 f t v x=f x:=if_neg h
theorem yJm {α:Type}{f:Int→Nat→α}{t:Int}{i:Nat}{v:α}:u2 f t i v t i=v:=if_pos ⟨rfl,rfl⟩
theorem jJv {α:Type}{f:Int→Nat→α}{t x:Int}{i k:Nat}{v:α}(h:¬ (x=t∧k=i)):u2 f t i v x k=f x k:=if_neg h
theorem nJq {α:Type}{f:Nat→α}{i:Nat}{v:α}:uH f i v i=v:=if_pos rfl
theorem kQl {α:Type}{f:Nat→α}{i k:Nat}{v:α}(h:k≠i):uH f i v k=f k:=if_neg h
section
variable {G G':Gh}{N M M' i j k:Nat}{T:Nat→Int}{P Q:List Ent}{n n':Nd}{nd:Nat→Nd}{bag out:List Msg}{m:Msg}{t t':Int}
theorem Gh.Rv.ext(h:G.Rv t' k)(hL:∀t0,G.L t0<+:G'.L t0)(hA:∀t0,t0<t'→G'.A t0 k=G.A t0 k)(hAl:∀t0,G.A t0 k≤(G.L t0).length)(hX:G'.X t' k=G.X t' k)(hld:∀t2,G.ld t2≠0→G'.ld t2≠0∧G'.B t2=G.B t2):G'.Rv t' k:=by
 intro t0 k0 hlt hk0;rw[hA t0 hlt]at hk0;have eL:(G'.L t0).take k0=(G.L t0).take k0:=xJv (hL t0) (by have:=hAl t0;omega);rcases h t0 k0 hlt hk0 with h1 | ⟨t2,a,b,c,d⟩
 ·left;rw[eL,hX];exact h1
 ·obtain⟨c',e⟩:=hld t2 c;exact .inr ⟨t2,a,b,c',by rw[eL,e];exact d⟩
theorem sJd {τ:Int}(h:∀t0 k0,k0≤G.A t0 k→(G.L t0).take k0<+:G.H k∨∃t2,t0<t2∧t2≤τ∧G.ld t2≠0∧¬ (G.L t0).take k0<+:G.B t2)(hL:∀t0,G.L t0<+:G'.L t0)(hAl:∀t0,G.A t0 k≤(G.L t0).length)(hH:G.H k<+:G'.H k)(hld:∀t2,G.ld t2≠0→G'.ld t2≠0∧G'.B t2=G.B t2){t0:Int}{k0:Nat}(hA:k0≤G.A t0 k):(G'.L t0).take k0<+:G'.H k∨∃t2,t0<t2∧t2≤τ∧G'.ld t2≠0∧¬ (G'.L t0).take k0<+:G'.B t2:=by
 have eL:(G'.L t0).take k0=(G.L t0).take k0:=xJv (hL t0) (by have:=hAl t0;omega);rcases h t0 k0 hA with h1 | ⟨t2,a,b,c,d⟩
 ·left;rw[eL];exact h1.trans hH
 ·obtain⟨c',e⟩:=hld t2 c;exact .inr ⟨t2,a,b,c',by rw[eL,e];exact d⟩
theorem tJf {c:Nat}(h:tA (G.L t) c=t∧c≤(G.L t).length∧maj N fun i=>decide (c≤G.A t i))(hL:∀t0,G.L t0<+:G'.L t0)(hA:∀k,G.A t k≤G'.A t k):tA (G'.L t) c=t∧c≤(G'.L t).length∧maj N fun i=>decide (c≤G'.A t i):=by
 obtain⟨a,b,d⟩:=h;have:=(hL t).length_le;exact⟨by rw[vJ6 (hL t) b];exact a,by omega,oJg (fun i _ hi=>decide_eq_true (gQt (of_decide_eq_true hi) (hA i))) d⟩
def Gh.vote(G:Gh)(t:Int)(i c:Nat):Gh:={G with V:=u2 G.V t i (c+1),X:=u2 G.X t i (G.H i)}
theorem GI.vote {c:Nat}(g:GI G N T)(hi:i<N)(hV:G.V t i=0)(ht:T i=t)(h1:1≤t)(hs:c=i∨G.V t c=c+1):GI (G.vote t i c) N T:=by
 refine⟨g.z,g.ldN,g.led,fun t' h=>?_,fun t' k hk h0 hV'=>?_,g.ret,g.ack,g.top,fun t' k hk hV'=>?_,g.com,g.log,g.set,fun t' k c' hk hV'=>?_⟩
 ·obtain⟨q,v⟩:=g.ele t' h;refine⟨q,fun k hk hQ=>?_⟩;obtain⟨v1,v2,v3⟩:=v k hk hQ;have hne:¬ (t'=t∧k=i):=by
   rintro⟨rfl,rfl⟩;have hz:G.ld t'=0:=by rw[←v1];exact hV
   exact h hz
  have e2:(G.vote t i c).X t' k=G.X t' k:=jJv hne;refine⟨(jJv hne).trans v1,by rw[e2];exact v2,?_⟩;unfold Gh.Rv;rw[e2];exact v3
 ·by_cases hne:t'=t∧k=i
  ·obtain⟨rfl,rfl⟩:=hne;have e2:(G.vote t' k c).X t' k=G.H k:=yJm;intro t0 k0 hlt hk0;rw[e2];rcases g.ret k hk t0 k0 hk0 with h | ⟨t2,a,b,c',d⟩
   ·exact .inl h
   ·refine .inr ⟨t2,a,?_,c',d⟩;have:t2≠t':=fun e=>c' (by rw[e];exact h0);omega
  ·have e2:(G.vote t i c).X t' k=G.X t' k:=jJv hne;have e1:(G.vote t i c).V t' k=G.V t' k:=jJv hne;unfold Gh.Rv;rw[e2];exact g.vot t' k hk h0 (by rw[←e1];exact hV')
 ·by_cases hne:t'=t∧k=i
  ·obtain⟨rfl,rfl⟩:=hne;have e2:(G.vote t' k c).X t' k=G.H k:=yJm;exact⟨by omega,by rw[e2];exact(g.log k hk).1,h1⟩
  ·have e2:(G.vote t i c).X t' k=G.X t' k:=jJv hne;have e1:(G.vote t i c).V t' k=G.V t' k:=jJv hne;obtain⟨a,b,d⟩:=g.vt t' k hk (by rw[←e1];exact hV');exact⟨a,by rw[e2];exact b,d⟩
 ·show u2 G.V t i (c+1) t' c'=c'+1;have hV':u2 G.V t i (c+1) t' k=c'+1:=hV';have old:G.V t' c'=c'+1→u2 G.V t i (c+1) t' c'=c'+1:=fun h=>by
   have hne:¬ (t'=t∧c'=i):=by
    rintro⟨rfl,rfl⟩;omega
   rw[jJv hne];exact h
  by_cases hne:t'=t∧k=i
  ·obtain⟨rfl,rfl⟩:=hne;rw[yJm]at hV';have hcc:c'=c:=by omega
   subst hcc;rcases hs with rfl | hs
   ·exact yJm
   ·exact old hs
  ·rw[jJv hne]at hV';exact old (g.std t' k c' hk hV')
theorem Ext.vote {c:Nat}(hV:G.V t i=0):Ext G (G.vote t i c) i:=by
 refine⟨fun _=>gQf,fun _ _=>⟨rfl,rfl⟩,fun _ _ _=>⟨rfl,rfl⟩,fun _ h h'=>absurd h h',fun t' k h=>?_,fun t' k h=>?_,fun _ _=>yQm _,fun _=>yQm _,fun _ _=>rfl,gQf⟩
 ·have hne:¬ (t'=t∧k=i):=by
   rintro⟨rfl,rfl⟩;exact h hV
  exact⟨jJv hne,jJv hne⟩
 ·exact⟨jJv fun e=>h e.2,jJv fun e=>h e.2⟩
def Gh.elect(G:Gh)(t:Int)(i:Nat)(q:Nat→Bool):Gh:={G with L:=u1 G.L t (G.H i),B:=u1 G.B t (G.H i),ld:=u1 G.ld t (i+1),Q:=u1 G.Q t q}
theorem Ext.elect {q:Nat→Bool}(g:GI G N T)(h0:G.ld t=0):Ext G (G.elect t i q) i:=by
 have hL:=(g.z t h0).1;have hne:∀t',G.ld t'≠0→t'≠t:=fun t' h e=>h (by rw[e];exact h0);refine⟨fun t'=>?_,fun t' h=>⟨jJu (hne t' h),jJu (hne t' h)⟩,fun t' h _=>⟨jJu (hne t' h),rfl⟩,fun t' h h'=>?_,fun _ _ _=>⟨rfl,rfl⟩,fun _ _ _=>⟨rfl,rfl⟩,fun _ _=>yQm _,fun _=>yQm _,fun _ _=>rfl,gQf⟩
 ·by_cases e:t'=t
  ·subst e;rw[hL];exact List.nil_prefix
  ·show G.L t'<+:u1 G.L t (G.H i) t';rw[jJu e];exact gQf
 ·by_cases e:t'=t
  ·subst e;exact xJi
  ·exact absurd (show u1 G.ld t (i+1) t'=0 by rw[jJu e];exact h) h'
theorem GI.elect {q:Nat→Bool}(g:GI G N T)(hi:i<N)(h0:G.ld t=0)(ht:T i=t)(h1:1≤t)(hq:maj N q)(hv:∀k,k<N→q k=true→G.V t k=i+1∧Utd (G.H i) (G.X t k)):GI (G.elect t i q) N T:=by
 have x:Ext G (G.elect t i q) i:=Ext.elect g h0;obtain⟨z1,z2,z3⟩:=g.z t h0;have hld:∀t2,G.ld t2≠0→(G.elect t i q).ld t2≠0∧(G.elect t i q).B t2=G.B t2:=fun t2 h=>⟨by rw[(x.ld t2 h).1];exact h,(x.ld t2 h).2⟩;have hRv:∀t' k,k<N→G.Rv t' k→(G.elect t i q).Rv t' k:=fun t' k hk h=>h.ext x.L (fun _ _=>rfl) (fun t0=>(g.ack t0 k hk).1) rfl hld;have hlt:∀e∈G.H i,e.1<t:=by
  intro e he;obtain⟨l1,l2⟩:=g.log i hi;have h3:=l2 e he;rw[ht]at h3;rcases Int.lt_or_le e.1 t with h4 | h4
  ·exact h4
  ·exfalso;have h5:e.1=t:=by omega
   obtain⟨k,hk,hk2⟩:=List.getElem_of_mem he;have:=l1.2 (k+1) (by omega) (by omega);unfold tA at this;rw[if_neg (by omega),Nat.add_sub_cancel,yQj,yQn hk,hk2]at this;have h6:(some e).getD (0,[])=e:=rfl;rw[h6,h5,z1]at this;have:=this.length_le;rw[yQ9,gQw]at this;omega
 refine⟨fun t' h=>?_,fun t'=>?_,fun t' h=>?_,fun t' h=>?_,fun t' k hk h hV=>?_,fun k hk t0 k0 hA=>?_,fun t' k hk=>?_,fun t' k h=>?_,fun t' k hk hV=>?_,fun t' h=>?_,fun k hk=>?_,?_,g.std⟩
 ·by_cases e:t'=t
  ·subst e;have:u1 G.ld t' (i+1) t'=0:=h;rw[xJi]at this;omega
  ·have h:u1 G.ld t (i+1) t'=0:=h;rw[jJu e]at h;obtain⟨a,b,c⟩:=g.z t' h;exact⟨(jJu e).trans a,b,c⟩
 ·by_cases e:t'=t
  ·subst e;show u1 G.ld t' (i+1) t'≤N;rw[xJi];omega
  ·show u1 G.ld t (i+1) t'≤N;rw[jJu e];exact g.ldN t'
 ·by_cases e:t'=t
  ·subst e;refine⟨h1,⟨[],?_,by simp⟩,?_,?_⟩
   ·show u1 G.L t' (G.H i) t'=u1 G.B t' (G.H i) t'++[];rw[xJi,xJi,gQc]
   ·show∀e∈u1 G.B t' (G.H i) t',e.1<t';rw[xJi];exact hlt
   ·show Gh.Pre _ (u1 G.B t' (G.H i) t');rw[xJi];exact x.Pre (g.log i hi).1
  ·have h:u1 G.ld t (i+1) t'≠0:=h;rw[jJu e]at h;obtain⟨a,⟨E,b1,b2⟩,c,d⟩:=g.led t' h;refine⟨a,⟨E,?_,b2⟩,?_,?_⟩
   ·show u1 G.L t (G.H i) t'=u1 G.B t (G.H i) t'++E;rw[jJu e,jJu e];exact b1
   ·show∀e∈u1 G.B t (G.H i) t',e.1<t';rw[jJu e];exact c
   ·show Gh.Pre _ (u1 G.B t (G.H i) t');rw[jJu e];exact x.Pre d
 ·by_cases e:t'=t
  ·subst e;refine⟨?_,fun k hk hQ=>?_⟩
   ·show maj N (u1 G.Q t' q t');rw[xJi];exact hq
   ·have hQ:u1 G.Q t' q t' k=true:=hQ;rw[xJi]at hQ;obtain⟨v1,v2⟩:=hv k hk hQ;refine⟨?_,?_,hRv t' k hk (g.vot t' k hk h0 (by omega))⟩
    ·show G.V t' k=u1 G.ld t' (i+1) t';rw[xJi];exact v1
    ·show Utd (u1 G.B t' (G.H i) t') (G.X t' k);rw[xJi];exact v2
  ·have h:u1 G.ld t (i+1) t'≠0:=h;rw[jJu e]at h;obtain⟨a,b⟩:=g.ele t' h;refine⟨?_,fun k hk hQ=>?_⟩
   ·show maj N (u1 G.Q t q t');rw[jJu e];exact a
   ·have hQ:u1 G.Q t q t' k=true:=hQ;rw[jJu e]at hQ;obtain⟨v1,v2,v3⟩:=b k hk hQ;refine⟨?_,?_,hRv t' k hk v3⟩
    ·show G.V t' k=u1 G.ld t (i+1) t';rw[jJu e];exact v1
    ·show Utd (u1 G.B t (G.H i) t') (G.X t' k);rw[jJu e];exact v2
 ·have h':G.ld t'=0:=Classical.byContradiction fun c=>(hld t' c).1 h;exact hRv t' k hk (g.vot t' k hk h' hV)
 ·exact sJd (g.ret k hk) x.L (fun t0=>(g.ack t0 k hk).1) gQf hld hA
 ·obtain⟨a,b⟩:=g.ack t' k hk;exact⟨gQt a (x.L t').length_le,b⟩
 ·by_cases e:t'=t
  ·subst e;have h:u1 G.ld t' (i+1) t'=k+1:=h;rw[xJi]at h;have:k=i:=by omega
   subst this;omega
  ·have h:u1 G.ld t (i+1) t'=k+1:=h;rw[jJu e]at h;exact g.top t' k h
 ·obtain⟨a,b,c⟩:=g.vt t' k hk hV;exact⟨a,x.Pre b,c⟩
 ·exact tJf (g.com t' h) x.L fun _=>yQm _
 ·exact⟨x.Pre (g.log k hk).1,(g.log k hk).2⟩
 ·exact x.CP g g.set
def Gh.push(G:Gh)(t:Int)(i:Nat)(d:Byts):Gh:={G with L:=u1 G.L t (G.L t++[(t,d)]),A:=u2 G.A t i ((G.L t).length+1),H:=uH G.H i (G.L t++[(t,d)])}
theorem Ext.push {d:Byts}(g:GI G N T)(hi:i<N)(h0:G.ld t=i+1):Ext G (G.push t i d) i:=by
 refine⟨fun t'=>?_,fun t' h=>⟨rfl,rfl⟩,fun t' h h'=>⟨jJu ?_,rfl⟩,fun t' h h'=>absurd h h',fun _ _ _=>⟨rfl,rfl⟩,fun _ _ _=>⟨rfl,rfl⟩,fun t' k=>?_,fun _=>yQm _,fun k h=>kQl h,gQf⟩
 ·show G.L t'<+:u1 G.L t _ t';by_cases e:t'=t
  ·subst e;rw[xJi];exact List.prefix_append _ _
  ·rw[jJu e];exact gQf
 ·intro e;rw[e]at h';exact h' h0
 ·show G.A t' k≤u2 G.A t i _ t' k;by_cases e:t'=t∧k=i
  ·obtain⟨rfl,rfl⟩:=e;rw[yJm];have:=(g.ack t' k hi).1;omega
  ·rw[jJv e];exact yQm _
theorem GI.push {d:Byts}(g:GI G N T)(hi:i<N)(h0:G.ld t=i+1)(ht:T i=t)(hH:G.H i=G.L t):GI (G.push t i d) N T:=by
 have x:Ext G (G.push t i d) i:=Ext.push g hi h0;have hld0:G.ld t≠0:=by omega
 obtain⟨p1,⟨E,p2,p3⟩,p4,p5⟩:=g.led t hld0;have hld:∀t2,G.ld t2≠0→(G.push t i d).ld t2≠0∧(G.push t i d).B t2=G.B t2:=fun t2 h=>⟨h,rfl⟩;have hRv:∀t' k,k<N→G.V t' k≠0→G.Rv t' k→(G.push t i d).Rv t' k:=fun t' k hk hV h=>h.ext x.L (fun t0 hlt=>jJv fun e=>by
  obtain⟨rfl,rfl⟩:=e;have:=(g.vt t' k hk hV).1;omega) (fun t0=>(g.ack t0 k hk).1) rfl hld
 have hL:(G.push t i d).L t=G.L t++[(t,d)]:=xJi;have hLn:∀t',t'≠t→(G.push t i d).L t'=G.L t':=fun t' h=>jJu h;have hlog:(G.push t i d).Pre (G.L t++[(t,d)]):=by
  have hp:=g.Lpre hld0;refine⟨hp.1.snoc p1 (g.Lterm hld0),fun k k1 k2=>?_⟩;rw[yQs,gQv]at k2;by_cases hk:k≤(G.L t).length
  ·rw[gQk hk,vJ6 (List.prefix_append _ _) hk];exact(hp.2 k k1 hk).trans (x.L _)
  ·have e:k=(G.L t).length+1:=by omega
   have e2:tA (G.L t++[(t,d)]) k=t:=by
    unfold tA;rw[if_neg (by omega),yQj,e,Nat.add_sub_cancel,gQg (yQm _),Nat.sub_self];rfl
   rw[e2,hL];exact gQu _ _
 refine⟨fun t' h=>?_,g.ldN,fun t' h=>?_,fun t' h=>?_,fun t' k hk h hV=>hRv t' k hk hV (g.vot t' k hk h hV),fun k hk t0 k0 hA=>?_,fun t' k hk=>?_,g.top,fun t' k hk hV=>?_,fun t' h=>?_,fun k hk=>?_,?_,g.std⟩
 ·have hne:t'≠t:=fun e=>hld0 (by rw[←e];exact h);obtain⟨a,b,c⟩:=g.z t' h;exact⟨(hLn t' hne).trans a,fun k=>(jJv fun e=>hne e.1).trans (b k),c⟩
 ·obtain⟨a,⟨E',b1,b2⟩,c,d'⟩:=g.led t' h;by_cases e:t'=t
  ·subst e;refine⟨a,⟨E++[(t',d)],?_,fun y hy=>?_⟩,c,x.Pre d'⟩
   ·rw[hL];show G.L t'++[(t',d)]=G.B t'++(E++[(t',d)]);rw[←yQy,←p2]
   ·rcases yQ1.1 hy with hy | hy
    ·exact p3 y hy
    ·simp at hy;subst hy;rfl
  ·exact⟨a,⟨E',by rw[hLn t' e];exact b1,b2⟩,c,x.Pre d'⟩
 ·obtain⟨a,b⟩:=g.ele t' h;refine⟨a,fun k hk hQ=>?_⟩;obtain⟨v1,v2,v3⟩:=b k hk hQ;exact⟨v1,v2,hRv t' k hk (by rw[v1];exact h) v3⟩
 ·by_cases e:k=i
  ·subst e;by_cases e2:t0=t
   ·subst e2;left;rw[hL];show _<+:uH G.H k _ k;rw[nJq];exact gQu _ _
   ·refine sJd (g.ret k hk) x.L (fun t0=>(g.ack t0 k hk).1) ?_ hld ?_
    ·show G.H k<+:uH G.H k _ k;rw[nJq,hH];exact List.prefix_append _ _
    ·have:k0≤u2 G.A t k _ t0 k:=hA;rw[jJv fun e=>e2 e.1]at this;exact this
  ·refine sJd (g.ret k hk) x.L (fun t0=>(g.ack t0 k hk).1) ?_ hld ?_
   ·rw[x.Ho k e];exact gQf
   ·have:k0≤u2 G.A t i _ t0 k:=hA;rw[jJv fun e'=>e e'.2]at this;exact this
 ·obtain⟨a,b⟩:=g.ack t' k hk;by_cases e:t'=t∧k=i
  ·obtain⟨rfl,rfl⟩:=e;refine⟨?_,fun _=>by omega⟩;show u2 G.A t' k _ t' k≤_;rw[yJm,hL,yQs,gQv];exact yQm _
  ·have ea:(G.push t i d).A t' k=G.A t' k:=jJv e;rw[ea];exact⟨gQt a (x.L t').length_le,b⟩
 ·obtain⟨a,b,c⟩:=g.vt t' k hk hV;exact⟨a,x.Pre b,c⟩
 ·exact tJf (g.com t' h) x.L fun k=>x.A t' k
 ·by_cases e:k=i
  ·subst e;have eh:(G.push t k d).H k=G.L t++[(t,d)]:=nJq;rw[eh];refine⟨hlog,fun y hy=>?_⟩;rcases yQ1.1 hy with hy | hy
   ·rw[ht];exact g.Lterm hld0 y hy
   ·simp at hy;subst hy;exact Int.le_of_eq ht.symm
  ·rw[x.Ho k e];exact⟨x.Pre (g.log k hk).1,(g.log k hk).2⟩
 ·exact x.CP g g.set
def kn(S P:List Ent)(c:Nat):List Ent:=if c≤S.length then S else P.take c
def Gh.setl(G:Gh)(t:Int)(c:Nat):Gh:={G with C:=u1 G.C t c,S:=kn G.S (G.L t) c}
theorem vQx {S P:List Ent}{c:Nat}(h:S<+:P.take c∨P.take c<+:S)(hc:c≤P.length):S<+:kn S P c∧P.take c<+:kn S P c:=by
 have hl:(P.take c).length=c:=by rw[yQ9];omega
 unfold kn;split
 ·rename_i hle;refine⟨gQf,?_⟩;rcases h with h | h
  ·have:=h.length_le;have e:S=P.take c:=h.eq_of_length (by omega);rw[←e];exact gQf
  ·exact h
 ·rename_i hgt;refine⟨?_,gQf⟩;rcases h with h | h
  ·exact h
  ·have:=h.length_le;omega
theorem GI.setl0 {c:Nat}(g:GI G N T)(h0:G.ld t≠0)(hC:G.C t≤c)(hc0:c≠0)(hcom:tA (G.L t) c=t∧c≤(G.L t).length∧maj N fun i=>decide (c≤G.A t i)):GI {G with C:=u1 G.C t c} N T:=by
 have hCe:∀t',t'≠t→u1 G.C t c t'=G.C t':=fun t' h=>jJu h;refine⟨fun t' h=>?_,g.ldN,g.led,g.ele,g.vot,g.ret,g.ack,g.top,g.vt,fun t' h=>?_,g.log,?_,g.std⟩
 ·have hne:t'≠t:=fun e=>h0 (by rw[←e];exact h);obtain⟨a,b,d⟩:=g.z t' h;exact⟨a,b,(hCe t' hne).trans d⟩
 ·by_cases e:t'=t
  ·subst e;have e1:({G with C:=u1 G.C t' c}:Gh).C t'=c:=xJi;rw[e1];exact hcom
  ·have e1:({G with C:=u1 G.C t c}:Gh).C t'=G.C t':=jJu e;rw[e1];rw[e1]at h;exact g.com t' h
 ·rcases g.set with h | ⟨t',h1,h2⟩
  ·exact .inl h
  ·by_cases e:t'=t
   ·subst e;refine .inr ⟨t',?_,?_⟩
    ·show u1 G.C t' c t'≠0;rw[xJi];exact hc0
    ·show G.S<+:(G.L t').take (u1 G.C t' c t');rw[xJi];exact h2.trans (zJ8 hC)
   ·refine .inr ⟨t',?_,?_⟩
    ·show u1 G.C t c t'≠0;rw[jJu e];exact h1
    ·show G.S<+:(G.L t').take (u1 G.C t c t');rw[jJu e];exact h2
theorem GI.setl_cmp {c:Nat}(g:GI G N T)(h0:G.ld t≠0)(hC:G.C t≤c)(hc0:c≠0)(hcom:tA (G.L t) c=t∧c≤(G.L t).length∧maj N fun i=>decide (c≤G.A t i)):G.S<+:(G.L t).take c∨(G.L t).take c<+:G.S:=by
 have g0:=g.setl0 h0 hC hc0 hcom;refine g0.CP_cmp g0.set (.inr ⟨t,?_,?_⟩)
 ·show u1 G.C t c t≠0;rw[xJi];exact hc0
 ·show(G.L t).take c<+:(G.L t).take (u1 G.C t c t);rw[xJi];exact gQf
theorem GI.setl {c:Nat}(g:GI G N T)(h0:G.ld t≠0)(hC:G.C t≤c)(hc0:c≠0)(hcom:tA (G.L t) c=t∧c≤(G.L t).length∧maj N fun i=>decide (c≤G.A t i)):GI (G.setl t c) N T:=by
 have g0:=g.setl0 h0 hC hc0 hcom;refine⟨g0.z,g0.ldN,g0.led,g0.ele,g0.vot,g0.ret,g0.ack,g0.top,g0.vt,g0.com,g0.log,?_,g0.std⟩;show Gh.CP _ (kn G.S (G.L t) c);unfold kn;split
 ·exact g0.set
 ·refine .inr ⟨t,?_,?_⟩
  ·show u1 G.C t c t≠0;rw[xJi];exact hc0
  ·show(G.L t).take c<+:(G.L t).take (u1 G.C t c t);rw[xJi];exact gQf
theorem Ext.setl {c:Nat}(g:GI G N T)(h0:G.ld t=i+1)(hC:G.C t≤c)(hc0:c≠0)(hcom:tA (G.L t) c=t∧c≤(G.L t).length∧maj N fun i=>decide (c≤G.A t i)):Ext G (G.setl t c) i:=by
 refine⟨fun _=>gQf,fun _ _=>⟨rfl,rfl⟩,fun t' h h'=>⟨rfl,jJu fun e=>h' (by rw[e];exact h0)⟩,fun _ h h'=>absurd h h',fun _ _ _=>⟨rfl,rfl⟩,fun _ _ _=>⟨rfl,rfl⟩,fun _ _=>yQm _,fun t'=>?_,fun _ _=>rfl,(vQx (g.setl_cmp (by omega) hC hc0 hcom) hcom.2.1).1⟩;show G.C t'≤u1 G.C t c t';by_cases e:t'=t
 ·subst e;rw[xJi];exact hC
 ·rw[jJu e];exact yQm _
def Gh.took(G:Gh)(t:Int)(i k:Nat)(P:List Ent):Gh:={G with A:=u2 G.A t i (max (G.A t i) k),H:=uH G.H i P}
theorem Ext.took:Ext G (G.took t i k P) i:=by
 refine⟨fun _=>gQf,fun _ _=>⟨rfl,rfl⟩,fun _ _ _=>⟨rfl,rfl⟩,fun _ h h'=>absurd h h',fun _ _ _=>⟨rfl,rfl⟩,fun _ _ _=>⟨rfl,rfl⟩,fun t' j=>?_,fun _=>yQm _,fun j h=>kQl h,gQf⟩;show G.A t' j≤u2 G.A t i _ t' j;by_cases e:t'=t∧j=i
 ·obtain⟨rfl,rfl⟩:=e;rw[yJm];omega
 ·rw[jJv e];exact yQm _
theorem GI.took(g:GI G N T)(hi:i<N)(h0:G.ld t≠0)(ht:T i=t)(hk:k≤(G.L t).length)(hP:(G.L t).take k<+:P)(hpre:G.Pre P)(hle:∀e∈P,e.1≤t)
  (hH:P=G.H i∨∀R,R<+:G.H i→R<+:G.L t→R<+:P):GI (G.took t i k P) N T:=by
 have x:Ext G (G.took t i k P) i:=Ext.took;have hRv:∀t' j,j<N→G.V t' j≠0→G.Rv t' j→(G.took t i k P).Rv t' j:=fun t' j hj hV h=>h.ext x.L (fun t0 hlt=>jJv fun e=>by
  obtain⟨rfl,rfl⟩:=e;have:=(g.vt t' j hj hV).1;omega) (fun t0=>(g.ack t0 j hj).1) rfl fun _ h=>⟨h,rfl⟩
 refine⟨fun t' h=>?_,g.ldN,g.led,fun t' h=>?_,fun t' j hj h hV=>hRv t' j hj hV (g.vot t' j hj h hV),fun j hj t1 k0 hA=>?_,fun t' j hj=>?_,g.top,g.vt,fun t' h=>?_,fun j hj=>?_,g.set,g.std⟩
 ·have hne:t'≠t:=fun e=>h0 (by rw[←e];exact h);obtain⟨a,b,c⟩:=g.z t' h;exact⟨a,fun j=>(jJv fun e=>hne e.1).trans (b j),c⟩
 ·obtain⟨a,b⟩:=g.ele t' h;refine⟨a,fun j hj hQ=>?_⟩;obtain⟨v1,v2,v3⟩:=b j hj hQ;exact⟨v1,v2,hRv t' j hj (by rw[v1];exact h) v3⟩
 ·by_cases e:j=i
  ·subst e;have eH:(G.took t j k P).H j=P:=nJq;rw[eH];show(G.L t1).take k0<+:P∨∃t2,t1<t2∧t2≤T j∧G.ld t2≠0∧¬ (G.L t1).take k0<+:G.B t2;have old:k0≤G.A t1 j→t1≤t→(G.L t1).take k0<+:P∨∃t2,t1<t2∧t2≤T j∧G.ld t2≠0∧¬ (G.L t1).take k0<+:G.B t2:=by
    intro hA htt;rcases g.ret j hj t1 k0 hA with h | h
    ·rcases hH with rfl | hH
     ·exact .inl h
     ·by_cases e2:t1=t
      ·subst e2;exact .inl (hH _ h (gQu _ _))
      ·by_cases hb:(G.L t1).take k0<+:G.B t
       ·exact .inl (hH _ h (hb.trans (g.BL h0)))
       ·exact .inr ⟨t,by omega,by omega,h0,hb⟩
    ·exact .inr h
   by_cases e2:t1=t
   ·subst e2;have hA:k0≤u2 G.A t1 j _ t1 j:=hA;rw[yJm]at hA;by_cases hk0:k0≤k
    ·exact .inl ((zJ8 hk0).trans hP)
    ·exact old (by omega) (yQo _)
   ·have hA:k0≤u2 G.A t j _ t1 j:=hA;rw[jJv fun e=>e2 e.1]at hA;by_cases hz:k0=0
    ·subst hz;left;rw[List.take_zero];exact List.nil_prefix
    ·have:=(g.ack t1 j hj).2 (by omega);exact old hA (by omega)
  ·have hA:k0≤u2 G.A t i _ t1 j:=hA;rw[jJv fun e'=>e e'.2]at hA;have eH:(G.took t i k P).H j=G.H j:=kQl e;rw[eH];exact g.ret j hj t1 k0 hA
 ·obtain⟨a,b⟩:=g.ack t' j hj;by_cases e:t'=t∧j=i
  ·obtain⟨rfl,rfl⟩:=e;refine⟨?_,fun _=>by omega⟩;show u2 G.A t' j _ t' j≤_;rw[yJm];show max (G.A t' j) k≤(G.L t').length;omega
  ·have ea:(G.took t i k P).A t' j=G.A t' j:=jJv e;rw[ea];exact⟨a,b⟩
 ·exact tJf (g.com t' h) x.L fun j=>x.A t' j
 ·by_cases e:j=i
  ·subst e;have eH:(G.took t j k P).H j=P:=nJq;rw[eH];exact⟨hpre,fun y hy=>by rw[ht];exact hle y hy⟩
  ·rw[x.Ho j e];exact g.log j hj
end
end Go.Proofs.YtghoifolghelnaaGreat
/-
 What one node does,with what was.
 No condition beyond those that each theorem names.
-/
open Go.Sx
namespace Go.Proofs.YtghoifolghelnaaGreat
theorem wQd {nd:Nat→Nd}{i:Nat}{n n':Nd}:fu (fu nd i n) i n'=fu nd i n':=by
 funext k;unfold fu;split<;>rfl
theorem vJe {nd:Nat→Nd}{i:Nat}:fu nd i (nd i)=nd:=by
 funext k;unfold fu;split
 ·rename_i e;rw[e]
 ·rfl
section
variable {G G':Gh}{N M M' i j k:Nat}{T:Nat→Int}{P Q:List Ent}{n n':Nd}{nd:Nat→Nd}{bag out:List Msg}{m:Msg}{t t' dr:Int}{d:Byts}
theorem INV.Hlen(h:INV G N M nd bag)(hi:i<N):(G.H i).length≤M:=by
 obtain⟨h1,h2⟩:=(h.gi.log i hi).1;rcases Nat.eq_zero_or_pos (G.H i).length with e | e
 ·omega
 ·have:=(h2 (G.H i).length (by omega) (yQm _)).length_le;have:=h.len (tA (G.H i) (G.H i).length);rw[yQ9]at *;omega
theorem INV.up(h:INV G N M nd bag)(hm:M≤M'):INV G N M' nd bag:=⟨h.gi,h.ni,h.mi,fun t=>gQt (h.len t) hm⟩
theorem INV.lead_vote(h:INV G N M nd bag)(hi:i<N)(hl:G.ld t=i+1):G.V t i=i+1:=by
 obtain⟨hq,hv⟩:=h.gi.ele t (by omega);obtain⟨k,hk,h1,_⟩:=pJ9 hq hq;have:=(hv k hk h1).1;exact h.gi.std t k i hk (by omega)
theorem INV.own_vote(h:INV G N M nd bag)(hi:i<N)(hr:(nd i).role≠1):(nd i).vote=i+1:=by
 have a:=h.ni i hi;have hR:=a.right.roles;have:G.V (nd i).term i=i+1:=by
  rcases hR with⟨e,_⟩ | ⟨e,_,hv⟩ | ⟨e,_⟩
  ·exact absurd e hr
  ·refine(a.cand e).2 i hi ?_;rw[a.id,show((i:Int)+1 - 1).toNat=i by omega]at hv;exact hv
  ·exact h.lead_vote hi (a.lead e).1
 have:=a.vote;omega
theorem NI.soft(h:NI G N i n)(hr:qJl n')(e1:n'.size=n.size)(e2:n'.id=n.id)(e3:n'.base=n.base)(e4:n'.bt=n.bt)(e5:n'.log=n.log)(e6:n'.commit=n.commit)(e7:n'.snap=n.snap)(e8:n'.term=n.term)(e9:n'.vote=n.vote)(hro:n'.role=1∨(n'.role=n.role∧n'.votes=n.votes∧n'.mtch=n.mtch)):NI G N i n':=by
 obtain⟨a1,a2,a3,a4,a5,a6,a7,a7b,a8,a9,a10,a11,a12,a13⟩:=h;refine⟨hr,by rw[e1];exact a2,by rw[e2];exact a3,by rw[e3];exact a4,by rw[e5,e3];exact a5,by rw[e4,e3];exact a6,by rw[e8,e9];exact a7,by rw[e8];exact a7b,fun h3=>?_,fun h2=>?_,fun h2=>?_,by rw[e8,e6];exact a11,by rw[e6];exact a12,by rw[e3,e7];exact a13⟩
 ·rcases hro with h | ⟨h,hv,hm⟩
  ·omega
  ·rw[e8,e6,hm];exact a8 (by omega)
 ·rcases hro with h | ⟨h,hv,hm⟩
  ·omega
  ·rw[e8,hv];exact a9 (by omega)
 ·rcases hro with h | ⟨h,hv,hm⟩
  ·omega
  ·rw[e8];exact a10 (by omega)
theorem NI.rise(h:NI G N i n)(hr:qJl n')(e1:n'.size=n.size)(e2:n'.id=n.id)(e3:n'.base=n.base)(e4:n'.bt=n.bt)(e5:n'.log=n.log)(e6:n'.commit=n.commit)(e7:n'.snap=n.snap)(ht:n.term<n'.term)(hv:n'.vote=0)(hro:n'.role=1):NI G N i n':=by
 obtain⟨a1,a2,a3,a4,a5,a6,a7,a7b,a8,a9,a10,a11,a12,a13⟩:=h;exact⟨hr,by rw[e1];exact a2,by rw[e2];exact a3,by rw[e3];exact a4,by rw[e5,e3];exact a5,by rw[e4,e3];exact a6,by rw[a7b _ ht,hv];rfl,fun t h=>a7b t (by omega),fun h3=>by omega,fun h3=>by omega,fun h3=>by omega,by rw[e6];exact a11.le (by omega),by rw[e6];exact a12,by rw[e3,e7];exact a13⟩
theorem INV.follow(h:INV G N M nd bag)(hi:i<N)(ht:t≤G40):INV G N M (fu nd i (followN (nd i) t dr)) bag:=by
 have up:=kJ3 (dr:=dr) (h.ni i hi).right ht;have hro:(followN (nd i) t dr).role=1:=by unfold followN;split<;>rfl
 refine h.node hi ?_ up.term (fun e=>by omega) (fun e=>by omega);by_cases hlt:(nd i).term<t
 ·have e:followN (nd i) t dr=clearN {nd i with role:=1,term:=t,vote:=0,leads:=0,timeout:=toF dr}:=by unfold followN;rw[if_pos hlt]
  rw[e]at up ⊢;exact(h.ni i hi).rise up.right rfl rfl rfl rfl rfl rfl rfl hlt rfl rfl
 ·have e:followN (nd i) t dr=clearN {nd i with role:=1}:=by unfold followN;rw[if_neg hlt]
  rw[e]at up ⊢;exact(h.ni i hi).soft up.right rfl rfl rfl rfl rfl rfl rfl rfl rfl (.inl rfl)
theorem kQr {l j k:Nat}(h:((List.replicate l false).set j true).getD k false=true):k=j:=by
 rw[yQj,gQo]at h;split at h
 ·rename_i e;exact e.symm
 ·rw[List.getElem?_replicate]at h;split at h<;>cases h
theorem Utd.refl:Utd P P:= .inr ⟨rfl,yQm _⟩
theorem INV.stand(h:INV G N M nd bag)(hi:i<N)(ht:(nd i).term≠G40):INV (G.vote ((nd i).term+1) i i) N M (fu nd i (zJg (nd i) dr)) bag:=by
 have a:=h.ni i hi;have up:=yJr (dr:=dr) a.right ht;have hV:G.V ((nd i).term+1) i=0:=a.vnew _ (by omega);have hT:(zJg (nd i) dr).term=(nd i).term+1:=rfl;have h0:=a.right.term;have x:Ext G (G.vote ((nd i).term+1) i i) i:=Ext.vote hV;have g:=(h.gi.mono (wJf (nd:=nd) (i:=i) (n':=zJg (nd i) dr) (by rw[hT];omega))).vote (c:=i) hi hV (by show(fu nd i _ i).term=_;rw[qJ8];rfl) (by omega) (.inl rfl);have eV:(G.vote ((nd i).term+1) i i).V ((nd i).term+1) i=i+1:=yJm;refine h.step hi x g ?_ (by rw[hT];omega) (fun j hj hji h1 h2 hr h0=>?_) (fun h2 e=>by rw[hT]at e;omega) (fun e=>by have e:(2:Int)=3:=e;omega) h.len
 ·refine⟨up.right,a.size,a.id,a.bl,a.log,a.bt,?_,fun t' h'=>?_,fun e=>by have e:(2:Int)=3:=e;omega,fun _=>⟨?_,fun k hk hv=>?_⟩,fun _ h0' k hk hVk=>?_,(x.CT h.gi a.ct).le (by rw[hT];omega),a.st,a.snap⟩
  ·show((G.vote ((nd i).term+1) i i).V ((nd i).term+1) i:Int)=(nd i).id;rw[eV,a.id];rfl
  ·rw[hT]at h';exact(jJv fun e=>by omega).trans (a.vnew t' (by omega))
  ·intro e;have:=h.gi.top ((nd i).term+1) i e;have:(fun k=>(nd k).term) i=(nd i).term:=rfl;omega
  ·have:=kQr hv;rw[a.id,show((i:Int)+1 - 1).toNat=i by omega]at this;subst this;exact eV
  ·by_cases e:k=i
   ·subst e;have eX:(G.vote ((nd k).term+1) k k).X ((nd k).term+1) k=G.H k:=yJm;show Utd (G.H k) ((G.vote ((nd k).term+1) k k).X ((nd k).term+1) k);rw[eX];exact Utd.refl
   ·exfalso;have hVk:u2 G.V ((nd i).term+1) i (i+1) ((nd i).term+1) k=i+1:=hVk;rw[jJv fun e'=>e e'.2]at hVk;have:=h.gi.std _ k i hk hVk;omega
 ·by_cases e:(nd j).term=(nd i).term+1
  ·rw[e]at h2;have:=eV.symm.trans h2;omega
  ·have h2:u2 G.V ((nd i).term+1) i (i+1) (nd j).term i=j+1:=h2;rw[jJv fun e'=>e e'.1]at h2;omega
theorem INV.asked(h:INV G N M nd bag)(hi:i<N)(hm:m∈bag)(hk:m.kind=1)(hd:m.dst=i+1)(hT:m.term≤(nd i).term):∃G',Ext G G' i∧INV G' N M (fu nd i (vJh (nd i) m)) bag∧G'.S=G.S:=by
 have a:=h.ni i hi;obtain⟨ok,⟨s,hs,hsrc,ht0,k1,_⟩,_,_⟩:=h.mi m hm;have P:=ok (nd i) (by rw[a.id,hd]) a.size;have up:=dJ4 (m:=m) a.right P.srcR;unfold vJh at up ⊢;split
 ·rename_i hy;rw[if_pos hy]at up;unfold yesV at hy;simp only[gQ3,Bool.or_eq_true,decide_eq_true_eq,Bool.not_eq_true',decide_eq_false_iff_not]at hy;obtain⟨y1,y2,y3⟩:=hy;by_cases hv:(nd i).vote=0
  ·-- a new vote; it comes only for the node's own term, or its term is not less
   have hro:(nd i).role=1:=Classical.byContradiction fun hr=>by
    have:=h.own_vote hi hr;omega
   have hte:m.term=(nd i).term:=by omega
   have hV:G.V m.term i=0:=by
    have:=a.vote;rw[hte];omega
   obtain⟨k1a,k1b⟩:=k1 hk;have hne:s≠i:=by
    intro e;subst e;omega
   have x:Ext G (G.vote m.term i s) i:=Ext.vote hV;have g:=h.gi.vote (c:=s) hi hV hte.symm P.term.1 (.inr k1a);have eV:(G.vote m.term i s).V m.term i=s+1:=yJm;have eX:(G.vote m.term i s).X m.term i=G.H i:=yJm;refine⟨G.vote m.term i s,x,h.step hi x ?_ ?_ (yQo _) (fun j hj hji h1 h2 hr h0=>?_) (fun e=>by have e:(nd i).role=2:=e;omega) (fun e=>by have e:(nd i).role=3:=e;omega) h.len,rfl⟩
   ·exact g.mono (wJf (yQo _))
   ·refine⟨up.right,a.size,a.id,a.bl,a.log,a.bt,?_,fun t' h'=>?_,fun e=>by have e:(nd i).role=3:=e;omega,fun e=>by have e:(nd i).role=2:=e;omega,fun e=>by have e:(nd i).role=2:=e;omega,x.CT h.gi a.ct,a.st,a.snap⟩
    ·show((G.vote m.term i s).V (nd i).term i:Int)=m.src;rw[←hte,eV,hsrc];rfl
    ·have h':(nd i).term<t':=h';exact(jJv fun e=>by omega).trans (a.vnew t' h')
   ·by_cases e:(nd j).term=m.term
    ·rw[e]at h2 ⊢;have hj2:s=j:=by have:=eV.symm.trans h2;omega
     subst hj2;rw[eX];obtain⟨m1,m2⟩:=k1b e hr;rw[a.lastTm,a.lastI,m1,m2]at y3;unfold bJh at y3;simp only[Bool.or_eq_true,gQ3,decide_eq_true_eq]at y3;unfold Utd;rcases y3 with h | ⟨h,h'⟩
     ·exact .inl h
     ·exact .inr ⟨h.symm,by omega⟩
    ·have h2:u2 G.V m.term i (s+1) (nd j).term i=j+1:=h2;rw[jJv fun e'=>e e'.1]at h2;omega
  ·have e:m.src=(nd i).vote:=by
    rcases y2 with h | h
    ·exact absurd h hv
    ·exact h.symm
   refine⟨G,Ext.refl,h.node hi (a.soft up.right rfl rfl rfl rfl rfl rfl rfl rfl e (.inr ⟨rfl,rfl,rfl⟩)) (yQo _) (fun e _=>e) (fun e=>⟨e,rfl,yQo _⟩),rfl⟩
 ·exact⟨G,Ext.refl,by rw[vJe];exact h,rfl⟩
end
end Go.Proofs.YtghoifolghelnaaGreat
/-
 What a leader does,with what was; what it sends.
 No condition beyond those that each theorem names.
-/
open Go.Sx
namespace Go.Proofs.YtghoifolghelnaaGreat
section
variable {G G':Gh}{N M M' i j k:Nat}{T:Nat→Int}{P Q:List Ent}{n n' n1 n2:Nd}{nd:Nat→Nd}{bag out:List Msg}{m:Msg}{t t' dr:Int}{d:Byts}
theorem kJ4 {c:Int}(h:qJl n)(h1:n.base≤c∧c≤qJi n):qJl {n with commit:=c}:=by
 obtain⟨a1,a2,a3,a4,a5,a6,a7,a8,a9,a10,a11,a12,a13,a14,a15,a16,a17,a18,a19⟩:=h;exact⟨a1,a2,a3,a4,a5,a6,a7,a8,a9,a10,a11,h1,a13,a14,a15,a16,a17,a18,a19⟩
theorem Srt.tA0(h:Srt P)(hk:k≤P.length):0≤tA P k:=by
 have:=h.tA_le (j:=0) (yQz k) hk;unfold tA at this;rw[if_pos rfl]at this;exact this
theorem NI.com(h:NI G N i n):n.commit.toNat≤(G.H i).length∧n.base.toNat≤n.commit.toNat∧n.commit.toNat≤G.S.length:=by
 have h1:=h.lastI;have h2:=h.right.commit;have h3:=h.right.base;have h4:=h.st.length_le;rw[yQ9]at h4;omega
theorem aJq {S P:List Ent}{c:Nat}(h:c≤S.length):kn S P c=S:=if_pos h
def R1(G:Gh)(N M:Nat)(nd:Nat→Nd)(bag:List Msg)(i:Nat)(n':Nd)(out:List Msg):Prop:=∃G',Ext G G' i∧INV G' N M (fu nd i n') (bag++out)∧G'.S=kn G.S (G'.H i) n'.commit.toNat∧n'.base.toNat≤G.S.length
theorem R1.of(x:Ext G G' i)(hi:i<N)(h:INV G' N M (fu nd i n') bag)(hS:G'.S=G.S):R1 G N M nd bag i n' []:=by
 have a:=h.ni i hi;rw[qJ8]at a;have b:=a.com;rw[hS]at b;exact⟨G',x,by rw[gQc];exact h,by rw[hS,aJq b.2.2],by omega⟩
theorem R1.pre {G1:Gh}(x:Ext G G1 i)(hS:G1.S=G.S)(r:R1 G1 N M (fu nd i n1) bag i n2 out):R1 G N M nd bag i n2 out:=by
 obtain⟨G',y,h,e,b⟩:=r;rw[wQd]at h;rw[hS]at e b;exact⟨G',x.trans y,h,e,b⟩
theorem R1.add(h:R1 G N M nd bag i n' [])(hm:∀G',Ext G G' i→INV G' N M (fu nd i n') bag→∀m∈out,MI G' N (fu nd i n') m):R1 G N M nd bag i n' out:=by
 obtain⟨G',y,h,e,b⟩:=h;rw[gQc]at h;exact⟨G',y,h.add (hm G' y h),e,b⟩
theorem R1.up(h:R1 G N M nd bag i n' out)(hM:M≤M'):R1 G N M' nd bag i n' out:=by
 obtain⟨G',y,h,e,b⟩:=h;exact⟨G',y,h.up hM,e,b⟩
theorem INV.elect(h:INV G N M nd bag)(hi:i<N)(hr:(nd i).role=2)(hq:(nd i).size<2 * (cntT (nd i).votes:Int)):∃q,Ext G (G.elect (nd i).term i q) i∧INV (G.elect (nd i).term i q) N M (fu nd i (wJ5 (nd i))) bag:=by
 have a:=h.ni i hi;have up:=uJi a.right;have hl:(nd i).votes.length=N:=by
  have:=a.right.votes;have:=a.size;omega
 have hq:=jQt hl (by rw[a.size]at hq;exact hq);obtain⟨c1,c2⟩:=a.cand hr;have h0:G.ld (nd i).term=0:=Classical.byContradiction fun hne=>by
  obtain⟨q1,q2⟩:=h.gi.ele _ hne;obtain⟨k,hk,hk1,hk2⟩:=pJ9 hq q1;have:=c2 k hk hk1;have:=(q2 k hk hk2).1;omega
 have hV:G.V (nd i).term i≠0:=by
  have:=h.own_vote hi (by omega);have:=a.vote;omega
 have x:Ext G (G.elect (nd i).term i fun k=>(nd i).votes.getD k false) i:=Ext.elect h.gi h0;have eL:(G.elect (nd i).term i fun k=>(nd i).votes.getD k false).L (nd i).term=G.H i:=xJi;have g:=h.gi.elect hi h0 rfl (h.gi.vt _ i hi hV).2.2 hq fun k hk hv=>⟨c2 k hk hv,a.utd hr h0 k hk (c2 k hk hv)⟩;refine⟨_,x,h.step hi x (g.mono (wJf (nd:=nd) (i:=i) (n':=wJ5 (nd i)) (yQo _))) ?_ (yQo _) (fun j _ _ h1 h2=>?_) (fun e=>by have e:(3:Int)=2:=e;omega) (fun _=> .inr ⟨h0,yQo _⟩) fun t'=>?_⟩
 ·refine⟨up.right,a.size,a.id,a.bl,a.log,a.bt,a.vote,a.vnew,fun _=>⟨xJi,eL.symm,?_,fun k hk=>?_⟩,fun e=>by have e:(3:Int)=2:=e;omega,fun e=>by have e:(3:Int)=2:=e;omega,x.CT h.gi a.ct,a.st,a.snap⟩
  ·have z:=(h.gi.z _ h0).2.2;show(G.C (nd i).term:Int)≤(nd i).commit;have:=a.right.commit;have:=a.right.base;omega
  ·show(List.replicate (nd i).mtch.length (0:Int)).getD k 0≤(G.A (nd i).term k:Int);rw[yQj,List.getElem?_replicate];split
   ·show(0:Int)≤_;omega
   ·show(0:Int)≤_;omega
 ·have h2:G.V (nd j).term i=j+1:=h2;omega
 ·by_cases e:t'=(nd i).term
  ·subst e;rw[eL];exact h.Hlen hi
  ·have:(G.elect (nd i).term i fun k=>(nd i).votes.getD k false).L t'=G.L t':=jJu e;rw[this];exact h.len t'
theorem set_get {l:List Int}{j k:Nat}{v b:Int}(h1:l.getD k 0≤b)(h2:j=k→v≤b)(h0:0≤b):(l.set j v).getD k 0≤b:=by
 rw[yQj,gQo];split
 ·rename_i e;split
  ·exact h2 e
  ·exact h0
 ·rw[←yQj];exact h1
noncomputable def addN(n:Nd)(d:Byts):Nd:={putN n d with commit:=n.commit}
theorem INV.push(h:INV G N M nd bag)(hi:i<N)(hr:(nd i).role=3)(hd:d.length≤60000):Ext G (G.push (nd i).term i d) i∧INV (G.push (nd i).term i d) N (M+1) (fu nd i (addN (nd i) d)) bag:=by
 have a:=h.ni i hi;obtain⟨l1,l2,l3,l4⟩:=a.lead hr;have hlast:=a.lastI;have hlastN:qJi (addN (nd i) d)=qJi (nd i)+1:=bJp (nd i) ((nd i).term,d);have hc:=a.right.commit;have hR:qJl (addN (nd i) d):=kJ4 (rJi a.right hr hd).right ⟨hc.1,by
  show(nd i).commit≤(nd i).base+(((nd i).log++[((nd i).term,d)]).length:Int);rw[bJp];omega⟩
 have x:Ext G (G.push (nd i).term i d) i:=Ext.push h.gi hi l1;have g:=h.gi.push (d:=d) hi l1 rfl l2;have eL:(G.push (nd i).term i d).L (nd i).term=G.L (nd i).term++[((nd i).term,d)]:=xJi;have eH:(G.push (nd i).term i d).H i=G.L (nd i).term++[((nd i).term,d)]:=nJq;have hcom:=a.com;have hb:=a.bl;rw[l2]at hb hcom;refine⟨x,h.step hi x (g.mono (wJf (nd:=nd) (i:=i) (n':=addN (nd i) d) (yQo _))) ?_ (yQo _) (fun j _ _ h1 h2=>?_) (fun e=>by have e:(nd i).role=2:=e;omega) (fun _=> .inl ⟨hr,rfl,yQo _⟩) fun t'=>?_⟩
 ·refine⟨hR,a.size,a.id,?_,?_,?_,a.vote,a.vnew,fun _=>⟨l1,by rw[eH];exact eL.symm,l3,fun k hk=>?_⟩,fun e=>by have e:(nd i).role=2:=e;omega,fun e=>by have e:(nd i).role=2:=e;omega,?_,?_,a.snap⟩
  ·show(nd i).base.toNat≤_;rw[eH,yQs];omega
  ·show(nd i).log++[((nd i).term,d)]=List.drop (nd i).base.toNat _;rw[eH,List.drop_append_of_le_length hb,a.log,l2]
  ·show(nd i).bt=tA _ (nd i).base.toNat;rw[eH,vJ6 (List.prefix_append _ _) hb,a.bt,l2]
  ·show((nd i).mtch.set ((nd i).id - 1).toNat (qJi (nd i)+1)).getD k 0≤((G.push (nd i).term i d).A (nd i).term k:Int);have hA:=x.A (nd i).term k;refine set_get (by have:=l4 k hk;omega) (fun e=>?_) (by omega);rw[a.id,show((i:Int)+1 - 1).toNat=i by omega]at e;subst e;have:(G.push (nd i).term i d).A (nd i).term i=(G.L (nd i).term).length+1:=yJm;rw[this,hlast,l2];omega
  ·show Gh.CT _ (nd i).term (List.take (nd i).commit.toNat _);rw[eH,gQk hcom.1,←l2];exact x.CT h.gi a.ct
  ·show List.take (nd i).commit.toNat _<+:G.S;rw[eH,gQk hcom.1,←l2];exact a.st
 ·have h2:G.V (nd j).term i=j+1:=h2;omega
 ·have:=h.len t';by_cases e:t'=(nd i).term
  ·subst e;rw[eL,yQs,gQv];omega
  ·have:(G.push (nd i).term i d).L t'=G.L t':=jJu e;rw[this];omega
theorem INV.setl(h:INV G N M nd bag)(hi:i<N)(hr:(nd i).role=3):R1 G N M nd bag i (vJr (nd i)) []:=by
 have a:=h.ni i hi;obtain⟨l1,l2,l3,l4⟩:=a.lead hr;have hlast:=a.lastI;have hc:=a.right.commit;have hb0:=a.right.base;unfold vJr;rcases qQ4 (nd i).commit (nd i).term (nd i).base (nd i).bt ((nd i).log.map (·.1)) (nd i).mtch with⟨e,_⟩ | ⟨⟨s1,s2,s3,s4,s5⟩,_⟩
 ·rw[e];exact R1.of Ext.refl hi (by rw[show({nd i with commit:=(nd i).commit}:Nd)=nd i from rfl,vJe];exact h) rfl
 ·generalize advF (nd i).commit (nd i).term (nd i).base (nd i).bt ((nd i).log.map (·.1)) (nd i).mtch=c at s1 s2 s3 s4 s5;rw[yQr]at s4;have hcl:c≤(G.H i).length:=by unfold qJi at hlast;omega
  rw[a.tAt s3 hcl]at s5;have s5:tA (G.H i) c.toNat=(nd i).term:=s5;have hmaj:maj N fun k=>decide (c.toNat≤G.A (nd i).term k):=by
   have hml:(nd i).mtch.length=N:=by
    have:=a.right.mtch;have:=a.size;omega
   rcases fJi (nd i).mtch with⟨e,_⟩ | ⟨_,r2,_⟩
   ·rw[e]at hml;simp at hml;omega
   ·refine oJg (fun k hk hp=>?_) (aJl hml r2);have hp:=of_decide_eq_true hp;have:=l4 k hk;exact decide_eq_true (by omega)
  have hcom:tA (G.L (nd i).term) c.toNat=(nd i).term∧c.toNat≤(G.L (nd i).term).length∧maj N fun k=>decide (c.toNat≤G.A (nd i).term k):=⟨by rw[←l2];exact s5,by rw[←l2];omega,hmaj⟩;have hC:G.C (nd i).term≤c.toNat:=by omega
  have hc0:c.toNat≠0:=by omega
  have x:Ext G (G.setl (nd i).term c.toNat) i:=Ext.setl h.gi l1 hC hc0 hcom;have g:=h.gi.setl (by omega) hC hc0 hcom;have kp:=vQx (h.gi.setl_cmp (by omega) hC hc0 hcom) hcom.2.1;have eC:(G.setl (nd i).term c.toNat).C (nd i).term=c.toNat:=xJi;refine⟨_,x,?_,?_,?_⟩
  ·rw[gQc];refine h.step hi x (g.mono (wJf (nd:=nd) (i:=i) (n':={nd i with commit:=c}) (yQo _))) ?_ (yQo _) (fun j _ _ h1 h2=>?_) (fun e=>by have e:(nd i).role=2:=e;omega) (fun _=> .inl ⟨hr,rfl,yQo _⟩) h.len
   ·refine⟨kJ4 a.right ⟨by omega,by unfold qJi;omega⟩,a.size,a.id,a.bl,a.log,a.bt,a.vote,a.vnew,fun _=>⟨l1,l2,?_,l4⟩,fun e=>by have e:(nd i).role=2:=e;omega,fun e=>by have e:(nd i).role=2:=e;omega,?_,?_,a.snap⟩
    ·rw[eC];show(c.toNat:Int)≤c;omega
    ·refine .inr ⟨(nd i).term,yQo _,by rw[eC];exact hc0,?_⟩;rw[eC];show(G.H i).take c.toNat<+:(G.L (nd i).term).take c.toNat;rw[l2];exact gQf
    ·show(G.H i).take c.toNat<+:kn G.S (G.L (nd i).term) c.toNat;rw[l2];exact kp.2
   ·have h2:G.V (nd j).term i=j+1:=h2;omega
  ·show kn G.S (G.L (nd i).term) c.toNat=kn G.S (G.H i) c.toNat;rw[l2]
  ·have:=a.com;show(nd i).base.toNat≤_;omega
theorem INV.put(h:INV G N M nd bag)(hi:i<N)(hr:(nd i).role=3)(hd:d.length≤60000):R1 G N (M+1) nd bag i (putN (nd i) d) []:=by
 obtain⟨x,h1⟩:=h.push hi hr hd;have r:=h1.setl hi (by rw[qJ8];exact hr);rw[qJ8]at r;exact R1.pre x rfl r
theorem lJ9:∀{l:List Ent} {k s:Nat},batch k s l<+:l
  | [],_,_=>gQf
  | e::l,k,s=>by
    unfold batch;split
    · exact List.nil_prefix
    · split
      · exact List.nil_prefix
      · exact(List.prefix_cons_inj e).2 lJ9
theorem tJz:∀{p l:List Ent} {a b:Int},risP a b l→p<+:l→risP a b p
  | [],l,a,b,h,_=>fJk h
  | x::p,l,a,b,h,hp=>by
    obtain⟨r,rfl⟩:=hp;obtain⟨h1,h2,h3⟩:=h;exact⟨h1,h2,tJz h3 (List.prefix_append _ _)⟩
theorem INV.sent {to:Nat}(h:INV G N M nd bag)(hi:i<N)(hr:(nd i).role=3)(hM:(M:Int)≤G40)(h1:1≤to)(h2:to≤N)(h3:to≠i+1):MI G N nd (gJh (nd i) to):=by
 have a:=h.ni i hi;obtain⟨l1,l2,l3,l4⟩:=a.lead hr;have hid:=a.id;have hsz:=a.size;have hlast:=a.lastI;have hHl:=h.Hlen hi;have hc:=a.right.commit;have hb:=a.right.base;have hcom:=a.com;have hr0:=a.right.round;have hld:=h.gi.led (nd i).term (by omega);have hnx:1≤xJr (nd i) to∧xJr (nd i) to≤qJi (nd i)+1:=by
  obtain⟨_,_,r3,_⟩:=mJ6 a.right hr;have hl:=a.right.next;unfold xJr;exact r3 _ (dJf (by omega))
 have rd:∀k,k<N→(nd k).role=3→(nd k).term=(nd i).term→(nd i).round≤(nd k).round:=fun k hk hr' ht'=>by
  have:=((h.ni k hk).lead hr').1;rw[ht']at this;have e:k=i:=by omega
  rw[e];exact yQo _
 have hlg:=h.gi.log i hi;have hrl:=fJk a.right.log;have htm:=a.right.term;unfold gJh;split
 ·rename_i hle;have hbl:=a.bl;rw[l2]at hbl;refine⟨fun n' e1 e2=>⟨e1.symm,?_,?_,by simp,⟨hld.1,htm.2⟩,⟨hb,by simp[G40],hr0⟩,a.right.bt,hrl,a.right.snap⟩,⟨i,hi,hid,yQo _,fun e=>by have e:(5:Int)=1:=e;omega,fun e=>by have e:(5:Int)=2:=e;omega,fun e=>by have e:(5:Int)=3:=e;omega,fun _=>⟨l1,hbl,by show 1≤(nd i).base;omega,?_,?_,?_,a.snap (by omega)⟩,fun e=>by have e:(5:Int)=4:=e;omega⟩,⟨to - 1,by omega,by show(to:Int)=_;omega⟩,fun _=>⟨fun _=>by show G.ld (nd i).term≠0;omega,rd⟩,fun _=>rfl⟩
  ·have e1:n'.id=to:=e1;show(nd i).id≠n'.id;omega
  ·show 1≤(nd i).id∧(nd i).id≤n'.size;omega
  ·show(nd i).bt=_;rw[a.bt,l2]
  ·show G.CT (nd i).term ((G.L (nd i).term).take (nd i).base.toNat);rw[←l2];exact a.ct.pre (zJ8 hcom.2.1)
  ·show(G.L (nd i).term).take (nd i).base.toNat<+:G.S;rw[←l2];exact(zJ8 hcom.2.1).trans a.st
 ·rename_i hgt;generalize hx:xJr (nd i) to - 1=x;have hx0:xJr (nd i) to - (nd i).base - 1=x - (nd i).base:=by omega
  rw[hx0,a.tAt (x:=x) (by omega) (by omega)];have hdr:(nd i).log.drop (x - (nd i).base).toNat=(G.L (nd i).term).drop x.toNat:=by
   rw[a.log,gQs,l2];congr 1;omega
  have hris:risP (tA (G.H i) x.toNat) (nd i).term ((nd i).log.drop (x - (nd i).base).toNat):=by
   have:=dJ2 (base:=(nd i).base) (i:=x) a.right.log (by rw[a.tAt (by omega) (by omega)]);rw[a.tAt (by omega) (by omega)]at this;exact this
  have hbp:batch 0 0 ((nd i).log.drop (x - (nd i).base).toNat)<+:(nd i).log.drop (x - (nd i).base).toNat:=lJ9;have hr2:=tJz hris hbp;rw[hdr]at hbp hr2 ⊢;generalize batch 0 0 ((G.L (nd i).term).drop x.toNat)=E at hbp hr2;have hEl:=hbp.length_le;rw[yQ3]at hEl;have hcL:(nd i).commit.toNat≤(G.L (nd i).term).length:=by rw[←l2];omega
  have hxl:x.toNat≤(G.L (nd i).term).length:=by rw[←l2];omega
  refine⟨fun n' e1 e2=>⟨e1.symm,?_,?_,by simp,⟨hld.1,htm.2⟩,⟨⟨by show 0≤x;omega,by show x≤G40;omega⟩,⟨by show 0≤(nd i).commit;omega,by show(nd i).commit≤G40;omega⟩,hr0⟩,?_,hr2,by simp⟩,⟨i,hi,hid,yQo _,fun e=>by have e:(3:Int)=1:=e;omega,fun e=>by have e:(3:Int)=2:=e;omega,fun _=>⟨l1,by show x.toNat+E.length≤(G.L (nd i).term).length;omega,?_,?_,hcL,?_,?_⟩,fun e=>by have e:(3:Int)=5:=e;omega,fun e=>by have e:(3:Int)=4:=e;omega⟩,⟨to - 1,by omega,by show(to:Int)=_;omega⟩,fun _=>⟨fun _=>by show G.ld (nd i).term≠0;omega,rd⟩,fun e=>absurd rfl e⟩
  ·have e1:n'.id=to:=e1;show(nd i).id≠n'.id;omega
  ·show 1≤(nd i).id∧(nd i).id≤n'.size;omega
  ·show 0≤tA (G.H i) x.toNat;exact hlg.1.1.tA0 (by omega)
  ·exact yJe hbp
  ·show tA (G.H i) x.toNat=_;rw[l2]
  ·show G.CT (nd i).term ((G.L (nd i).term).take (nd i).commit.toNat);rw[←l2];exact a.ct
  ·show(G.L (nd i).term).take (nd i).commit.toNat<+:G.S;rw[←l2];exact a.st
theorem bJk:∀{k:Nat},m∈xJt n k→∃to:Nat,1≤to∧to≤k∧(to:Int)≠n.id∧m=gJh n to
  | 0,h=>by simp[xJt]at h
  | k+1,h=>by
    unfold xJt at h;rcases yQ1.1 h with h | h
    · obtain⟨to,a,b,c,d⟩:=bJk h
      exact⟨to,a,by omega,c,d⟩
    · split at h
      · cases h
      · rename_i hne
        simp at h;exact⟨k+1,by omega,yQm _,hne,h⟩
theorem INV.all(h:INV G N M nd bag)(hi:i<N)(hr:(nd i).role=3)(hM:(M:Int)≤G40):∀m∈xJt (nd i) (nd i).size.toNat,MI G N nd m:=fun m hm=>by
 obtain⟨to,a,b,c,rfl⟩:=bJk hm;have hs:=(h.ni i hi).size;have hid:=(h.ni i hi).id;exact h.sent hi hr hM a (by omega) (by omega)
theorem INV.propose(h:INV G N M nd bag)(hi:i<N)(hr:(nd i).role=3)(hd:d.length≤60000)(hM:(M:Int)+1≤G40):R1 G N (M+1) nd bag i (putN (nd i) d) (xJt (putN (nd i) d) (putN (nd i) d).size.toNat):=by
 refine(h.put hi hr hd).add fun G' x h'=>?_;have:=h'.all (i:=i) hi (by rw[qJ8];exact hr) (by omega);rw[qJ8]at this;exact this
theorem INV.elected(h:INV G N M nd bag)(hi:i<N)(hr:(nd i).role=2)(hM:(M:Int)+1≤G40):R1 G N (M+1) nd bag i (zJ2 (nd i)) (zJ3 (nd i)):=by
 unfold zJ2 zJ3;split
 ·rename_i hq;obtain⟨q,x,h1⟩:=h.elect hi hr hq;have r:=h1.propose (d:=[]) hi (by rw[qJ8];rfl) (by simp) hM;rw[qJ8]at r;exact R1.pre x rfl r
 ·exact(R1.of Ext.refl hi (by rw[vJe];exact h) rfl).up (Nat.le_succ _)
end
end Go.Proofs.YtghoifolghelnaaGreat
/-
 Ticks,votes and answers,with what was.
 No condition beyond those that each theorem names.
-/
open Go.Sx
namespace Go.Proofs.YtghoifolghelnaaGreat
section
variable {G G':Gh}{N M M' i j k:Nat}{T:Nat→Int}{P Q:List Ent}{n n' n1 n2:Nd}{nd:Nat→Nd}{bag out:List Msg}{m:Msg}{t t' dr:Int}{d:Byts}
theorem INV.keep(h:INV G N M nd bag)(hi:i<N)(hn:NI G N i n')(ht:n'.term=(nd i).term)(hro:n'.role=(nd i).role)(hrd:(nd i).round≤n'.round):INV G N M (fu nd i n') bag:=
 h.node hi hn (by omega) (fun e _=>by omega) (fun e=>⟨by omega,ht,hrd⟩)
theorem INV.elapse {e:Int}(h:INV G N M nd bag)(hi:i<N)(he:0≤e∧e≤G40):INV G N M (fu nd i {nd i with elapsed:=e}) bag:=
 h.keep hi ((h.ni i hi).soft (jJ0 (h.ni i hi).right he).right rfl rfl rfl rfl rfl rfl rfl rfl rfl (.inr ⟨rfl,rfl,rfl⟩)) rfl rfl (yQo _)
theorem fJ1 {id:Int}{f:Nat→Msg}:∀{k:Nat},m∈othM id f k→∃to:Nat,1≤to∧to≤k∧(to:Int)≠id∧m=f to
  | 0,h=>by simp[othM]at h
  | k+1,h=>by
    unfold othM at h;rcases yQ1.1 h with h | h
    · obtain⟨to,a,b,c,d⟩:=fJ1 h
      exact⟨to,a,by omega,c,d⟩
    · split at h
      · cases h
      · rename_i hne
        simp at h;exact⟨k+1,by omega,yQm _,hne,h⟩
theorem INV.ask {to:Nat}(h:INV G N M nd bag)(hi:i<N)(hr:(nd i).role=2)(hM:(M:Int)≤G40)(h1:1≤to)(h2:to≤N)(h3:to≠i+1):MI G N nd (askN (nd i) to):=by
 have a:=h.ni i hi;have hid:=a.id;have hsz:=a.size;have hlast:=a.lastI;have hlT:=a.lastTm;have hHl:=h.Hlen hi;have hv:=h.own_vote hi (by omega);have hV:G.V (nd i).term i=i+1:=by
  have:=a.vote;omega
 have hlg:=h.gi.log i hi;have ht1:=(h.gi.vt _ i hi (by rw[hV];omega)).2.2;have htm:=a.right.term;have hl0:0≤lst (G.H i):=hlg.1.1.tA0 (yQm _);refine⟨fun n' e1 e2=>⟨e1.symm,?_,?_,by simp[askN],⟨ht1,htm.2⟩,⟨?_,by simp[askN,G40],by simp[askN,G40]⟩,?_,?_,by simp[askN]⟩,⟨i,hi,hid,yQo _,fun _=>⟨hV,fun _ _=>⟨hlast,hlT⟩⟩,fun e=>by have e:(1:Int)=2:=e;omega,fun e=>by have e:(1:Int)=3:=e;omega,fun e=>by have e:(1:Int)=5:=e;omega,fun e=>by have e:(1:Int)=4:=e;omega⟩,⟨to - 1,by omega,by show(to:Int)=_;omega⟩,fun e=>(by have e:(3:Int)≤1:=e;omega),fun _=>rfl⟩
 ·have e1:n'.id=to:=e1;show(nd i).id≠n'.id;omega
 ·show 1≤(nd i).id∧(nd i).id≤n'.size;omega
 ·show 0≤qJi (nd i)∧qJi (nd i)≤G40;omega
 ·show 0≤lastT (nd i);omega
 ·show lastT (nd i)≤(nd i).term;rw[hlT];exact lst_le htm.1 hlg.2
theorem INV.stands(h:INV G N M nd bag)(hi:i<N)(hM:(M:Int)+1≤G40):R1 G N (M+1) nd bag i (jJ7 (nd i) dr) (xJq (nd i) dr):=by
 unfold jJ7 xJq;by_cases hg:(nd i).term=G40
 ·rw[if_pos hg,if_pos hg];exact(R1.of Ext.refl hi (h.elapse hi z0) rfl).up (Nat.le_succ _)
 ·rw[if_neg hg,if_neg hg];have hV:G.V ((nd i).term+1) i=0:=(h.ni i hi).vnew _ (by omega);have h1:=h.stand (dr:=dr) hi hg;have r:=h1.elected hi (by rw[qJ8];rfl) hM;rw[qJ8]at r;refine R1.pre (G1:=G.vote ((nd i).term+1) i i) (n1:=zJg (nd i) dr) (Ext.vote hV) rfl ?_;split
  ·exact r
  ·rename_i hq;have en:zJ2 (zJg (nd i) dr)=zJg (nd i) dr:=by unfold zJ2;rw[if_neg hq]
   have em:zJ3 (zJg (nd i) dr)=[]:=by unfold zJ3;rw[if_neg hq]
   rw[en,em]at r;rw[en];refine r.add fun G' x h' mm hmm=>?_;rw[wQd]at h' ⊢;obtain⟨to,b1,b2,b3,rfl⟩:=fJ1 hmm;have hs:=(h.ni i hi).size;have hid:=(h.ni i hi).id;have:=h'.ask (i:=i) (to:=to) hi (by rw[qJ8];rfl) (by omega) b1 (by omega) (by omega);rw[qJ8]at this;exact this
theorem INV.tick(h:INV G N M nd bag)(hi:i<N)(hM:(M:Int)+1≤G40):R1 G N (M+1) nd bag i (wJ3 (nd i) dr) (uJa (nd i) dr):=by
 have a:=h.ni i hi;have he:=a.right.elapsed;have ht:=a.right.timeout;unfold wJ3 uJa;split
 ·rename_i hr;split
  ·refine((R1.of Ext.refl hi (h.elapse hi z0) rfl).up (Nat.le_succ _)).add fun G' x h'=>?_;have:=h'.all (i:=i) hi (by rw[qJ8];exact hr) (by omega);rw[qJ8]at this;exact this
  ·exact(R1.of Ext.refl hi (h.elapse hi ⟨by omega,by unfold G40;omega⟩) rfl).up (Nat.le_succ _)
 ·split
  ·have e:xJq {nd i with elapsed:=(nd i).elapsed+1} dr=xJq (nd i) dr:=by unfold xJq zJg clearN;rfl
   rw[uJb,e];exact h.stands hi hM
  ·exact(R1.of Ext.refl hi (h.elapse hi ⟨by omega,by omega⟩) rfl).up (Nat.le_succ _)
theorem INV.voted(h:INV G N M nd bag)(hi:i<N)(hm:m∈bag)(hk:m.kind=2)(hd:m.dst=i+1)(hM:(M:Int)+1≤G40):R1 G N (M+1) nd bag i (gJd (nd i) m) (pJh (nd i) m):=by
 have a:=h.ni i hi;unfold gJd pJh;split
 ·rename_i hc;obtain⟨c1,c2,c3⟩:=hc;obtain⟨ok,⟨s,hs,hsrc,ht0,k1,k2,_⟩,_,_⟩:=h.mi m hm;obtain⟨r1,r2⟩:=vQm a.right c1;have hR:qJl {nd i with votes:=(nd i).votes.set (m.src - 1).toNat true}:=by
   obtain⟨a1,a2,a3,a4,a5,a6,a7,a8,a9,a10,a11,a12,a13,a14,a15,a16,a17,a18,a19⟩:=a.right;exact⟨a1,a2,a3,a4,a5,a6,a7,a8,a9,a10,a11,a12,a13,by rw[yQ0];exact a14,a15,a16,a17,a18,.inr (.inl ⟨c1,r1,tJv r2⟩)⟩
  have hn:NI G N i {nd i with votes:=(nd i).votes.set (m.src - 1).toNat true}:=by
   refine⟨hR,a.size,a.id,a.bl,a.log,a.bt,a.vote,a.vnew,a.lead,fun _=>⟨(a.cand c1).1,fun k hk hv=>?_⟩,a.utd,a.ct,a.st,a.snap⟩;have hv:((nd i).votes.set (m.src - 1).toNat true).getD k false=true:=hv;rw[yQj,gQo]at hv;split at hv
   ·rename_i e;have:=k2 ‹m.kind=2› c3;rw[c2]at this;have:k=s:=by omega
    subst this;show G.V (nd i).term k=i+1;omega
   ·rw[←yQj]at hv;exact(a.cand c1).2 k hk hv
  have h1:=h.keep hi hn rfl rfl (yQo _);have r:=h1.elected hi (by rw[qJ8];exact c1) hM;rw[qJ8]at r;exact R1.pre Ext.refl rfl r
 ·exact(R1.of Ext.refl hi (by rw[vJe];exact h) rfl).up (Nat.le_succ _)
theorem INV.told {x r:Int}{b:Bool}(h:INV G N M nd bag)(hi:i<N)(hm:m∈bag)(h3:3≤m.kind)(hd:m.dst=i+1)(hT:m.term≤(nd i).term)(hx:0≤x∧x≤G40)(hr:r=0∨(r=m.round∧m.term=(nd i).term))(hA:b=true→x≤G.A (nd i).term i):MI G N nd (told (nd i) m x r b):=by
 have a:=h.ni i hi;have hid:=a.id;have hsz:=a.size;obtain⟨ok,⟨s,hs,hsrc,ht0,_⟩,_,rd⟩:=h.mi m hm;have P:=ok (nd i) (by rw[a.id,hd]) a.size;have p1:=P.src;have p2:=P.term;have p3:=P.nums.2.2;have htm:=a.right.term;refine⟨fun n' e1 e2=>⟨e1.symm,?_,?_,by simp[Go.Proofs.YtghoifolghelnaaGreat.told],⟨by show 1≤(nd i).term;omega,htm.2⟩,⟨hx,by simp[Go.Proofs.YtghoifolghelnaaGreat.told,G40],?_⟩,yQo 0,htm.1,by simp[Go.Proofs.YtghoifolghelnaaGreat.told]⟩,⟨i,hi,hid,yQo _,fun e=>by have e:(4:Int)=1:=e;omega,fun e=>by have e:(4:Int)=2:=e;omega,fun e=>by have e:(4:Int)=3:=e;omega,fun e=>by have e:(4:Int)=5:=e;omega,fun _=>hA⟩,⟨s,hs,by show m.src=_;omega⟩,fun _=>⟨fun h0=>?_,fun k hk hrk htk=>?_⟩,fun _=>rfl⟩
 ·have e1:n'.id=m.src:=e1;show(nd i).id≠n'.id;omega
 ·show 1≤(nd i).id∧(nd i).id≤n'.size;omega
 ·show 0≤r∧r≤G40;rcases hr with e | ⟨e,_⟩
  ·rw[e];exact z0
  ·rw[e];exact p3
 ·have h0:r≠0:=h0;show G.ld (nd i).term≠0;rcases hr with e | ⟨e,e2⟩
  ·exact absurd e h0
  ·rw[←e2];exact(rd h3).1 (by omega)
 ·show r≤(nd k).round;have htk:(nd k).term=(nd i).term:=htk;rcases hr with e | ⟨e,e2⟩
  ·rw[e];exact(h.ni k hk).right.round.1
  ·rw[e];exact(rd h3).2 k hk hrk (by omega)
theorem jQ0 {a b c:Int}(h1:a≤c)(h2:b≤c):imax a b≤c:=by unfold imax;split<;>omega
theorem INV.tel(h:INV G N M nd bag)(hi:i<N)(hm:m∈bag)(hk:m.kind=4)(hd:m.dst=i+1)(hr:(nd i).role=3)(hT:m.term=(nd i).term)(hM:(M:Int)≤G40):R1 G N M nd bag i (telN (nd i) m) (telM (nd i) m):=by
 have a:=h.ni i hi;obtain⟨ok,⟨s,hs,hsrc,ht0,_,_,_,_,k4⟩,_,rd⟩:=h.mi m hm;have P:=ok (nd i) (by rw[a.id,hd]) a.size;have p1:=P.src;have up:=rJg a.right hr P.nums.1.1;have hid:=a.id;have hto:m.src.toNat≠i+1:=by omega
 obtain⟨l1,l2,l3,l4⟩:=a.lead hr;unfold telN telM at *;split
 ·rename_i hok;rw[if_pos hok]at up;refine(R1.of Ext.refl hi (h.keep hi (n':=nJa (nd i) m) (a.soft up.right rfl rfl rfl rfl rfl rfl rfl rfl rfl (.inr ⟨rfl,rfl,rfl⟩)) rfl rfl (yQo _)) rfl).add fun G' x h' mm hmm=>?_;simp at hmm;subst hmm;have:=h'.sent (i:=i) (to:=m.src.toNat) hi (by rw[qJ8];exact hr) hM (by omega) (by omega) hto;rw[qJ8]at this;exact this
 ·rename_i hok;have hok:m.ok=true:=by cases e:m.ok<;>simp_all
  rw[if_neg (by rw[hok];decide)]at up;split
  ·rename_i hle;rw[if_pos hle]at up;have hc:=a.right.commit;have hR:qJl {hasN (nd i) m with commit:=(nd i).commit}:=kJ4 up.right hc;have hn:NI G N i {hasN (nd i) m with commit:=(nd i).commit}:=by
    refine⟨hR,a.size,a.id,a.bl,a.log,a.bt,a.vote,a.vnew,fun _=>⟨l1,l2,l3,fun k hk2=>?_⟩,fun e=>by have e:(nd i).role=2:=e;omega,fun e=>by have e:(nd i).role=2:=e;omega,a.ct,a.st,a.snap⟩;show((nd i).mtch.set (srcI m) (imax ((nd i).mtch.getD (srcI m) 0) m.index)).getD k 0≤_;refine set_get (l4 k hk2) (fun e=>?_) (by omega);have hks:k=s:=by
     unfold srcI at e;omega
    subst hks;rw[e];have h4:=k4 hk hok;rw[hT]at h4;exact jQ0 (l4 k hk2) h4
   have h1:=h.keep hi hn rfl rfl (yQo _);have r:=h1.setl hi (by rw[qJ8];exact hr);rw[qJ8]at r;have r2:R1 G N M nd bag i (hasN (nd i) m) []:=R1.pre Ext.refl rfl r;split
   ·refine r2.add fun G' x h' mm hmm=>?_;simp at hmm;subst hmm;have:=h'.sent (i:=i) (to:=m.src.toNat) hi (by rw[qJ8];exact hr) hM (by omega) (by omega) hto;rw[qJ8]at this;exact this
   ·exact r2
  ·exact R1.of Ext.refl hi (by rw[vJe];exact h) rfl
theorem INV.toldN(h:INV G N M nd bag)(hi:i<N)(hm:m∈bag)(hk:m.kind=4)(hd:m.dst=i+1)(hM:(M:Int)≤G40):R1 G N M nd bag i (toldN (nd i) m) (nJs (nd i) m):=by
 have a:=h.ni i hi;unfold Go.Proofs.YtghoifolghelnaaGreat.toldN nJs;split
 ·rename_i hc;obtain⟨hr,hT⟩:=hc;have up:=mJ7 (m:=m) a.right hr;have e:(seenN (nd i) m).role=(nd i).role∧(seenN (nd i) m).term=(nd i).term∧(seenN (nd i) m).round=(nd i).round∧NI G N i (seenN (nd i) m):=by
   unfold seenN at up ⊢;split
   ·rename_i hle;rw[if_pos hle]at up;exact⟨rfl,rfl,rfl,a.soft up.right rfl rfl rfl rfl rfl rfl rfl rfl rfl (.inr ⟨rfl,rfl,rfl⟩)⟩
   ·exact⟨rfl,rfl,rfl,a⟩
  obtain⟨e1,e2,e3,e4⟩:=e;have h1:=h.keep hi e4 e2 e1 (by omega);have r:=h1.tel hi hm hk hd (by rw[qJ8];omega) (by rw[qJ8];omega) hM;rw[qJ8]at r;exact R1.pre Ext.refl rfl r
 ·exact R1.of Ext.refl hi (by rw[vJe];exact h) rfl
theorem INV.comp(h:INV G N M nd bag)(hi:i<N)(hlt:(nd i).base<(nd i).commit)(hM:(M:Int)≤G40):R1 G N M nd bag i (bJ3 (nd i) (nd i).commit (uJc (nd i).commit)) []:=by
 have a:=h.ni i hi;have hc:=a.right.commit;have hb:=a.right.base;have hlast:=a.lastI;have hHl:=h.Hlen hi;have up:=iJl (i:=(nd i).commit) (d:=uJc (nd i).commit) a.right hlt (yQo _) (by omega) (by simp[uJc]);have hta:=a.tAt (x:=(nd i).commit) (by omega) (by omega);refine R1.of Ext.refl hi (h.keep hi (n':=bJ3 (nd i) (nd i).commit (uJc (nd i).commit)) ⟨up.right,a.size,a.id,?_,?_,?_,a.vote,a.vnew,a.lead,a.cand,a.utd,a.ct,a.st,fun _=>rfl⟩ rfl rfl (yQo _)) rfl
 ·show(nd i).commit.toNat≤_;omega
 ·show(nd i).log.drop ((nd i).commit - (nd i).base).toNat=(G.H i).drop (nd i).commit.toNat;rw[a.log,gQs];congr 1;omega
 ·show(termAt (nd i).base (nd i).bt ((nd i).log.map (·.1)) (nd i).commit).1=tA (G.H i) (nd i).commit.toNat;rw[hta]
def gJ3(n:Nd)(dr:Int):Nd:={newN n.id n.size dr with term:=n.term,vote:=n.vote,base:=n.base,bt:=n.bt,snap:=n.snap,log:=n.log,commit:=n.base}
theorem INV.anew(h:INV G N M nd bag)(hi:i<N)(hR:qJl (gJ3 (nd i) dr)):R1 G N M nd bag i (gJ3 (nd i) dr) []:=by
 have a:=h.ni i hi;have hcom:=a.com;refine R1.of Ext.refl hi (h.node hi ⟨hR,a.size,a.id,a.bl,a.log,a.bt,a.vote,a.vnew,fun e=>by have e:(1:Int)=3:=e;omega,fun e=>by have e:(1:Int)=2:=e;omega,fun e=>by have e:(1:Int)=2:=e;omega,a.ct.pre (zJ8 hcom.2.1),(zJ8 hcom.2.1).trans a.st,a.snap⟩ (yQo _) (fun e=>by have e:(1:Int)=2:=e;omega) (fun e=>by have e:(1:Int)=3:=e;omega)) rfl
theorem iJm(h:qJl n):qJl (gJ3 n dr):=by
 obtain⟨a1,a2,a3,a4,a5,a6,a7,a8,a9,a10,a11,a12,a13,a14,a15,a16,a17,a18,a19⟩:=h;refine⟨a1,a2,a3,⟨yQo 0,by show(0:Int)≤n.size;omega⟩,a5,a6,z0,z0,eJi,a10,a11,⟨yQo _,by show n.base≤n.base+(n.log.length:Int);omega⟩,a13,?_,?_,?_,?_,⟨yQo _,by simp[gJ3,newN,hJ1]⟩,.inl ⟨rfl,⟨vJ5,vJ5,vJ5,rfl,rfl⟩,rJl⟩⟩
 all_goals
  simp only[gJ3,newN,hJ1,gQ0];show((n.size.toNat:Nat):Int)=n.size;omega
theorem INV.read {id:Int}(h:INV G N M nd bag)(hi:i<N)(hr:(nd i).role=3)(h64:(nd i).reads.length<64)(hrd:(nd i).round≠G40)(hM:(M:Int)≤G40):R1 G N M nd bag i (kJa (nd i) id) (xJt (kJa (nd i) id) (kJa (nd i) id).size.toNat):=by
 have a:=h.ni i hi;have up:=iJk (id:=id) a.right hr h64 hrd;refine(R1.of Ext.refl hi (h.keep hi (n':=kJa (nd i) id) (a.soft up.right rfl rfl rfl rfl rfl rfl rfl rfl rfl (.inr ⟨rfl,rfl,rfl⟩)) rfl rfl (by show(nd i).round≤(nd i).round+1;omega)) rfl).add fun G' x h'=>?_;have:=h'.all (i:=i) hi (by rw[qJ8];exact hr) hM;rw[qJ8]at this;exact this
end
end Go.Proofs.YtghoifolghelnaaGreat
/-
 What a node takes from a leader,with what was; what Take does.
 No condition beyond those that each theorem names.
-/
open Go.Sx
namespace Go.Proofs.YtghoifolghelnaaGreat
theorem hJk {p l:List Ent}:∀{es:List Ent} {a:Nat},zJz (p++l) (p.length+a) es=p++zJz l a es
  | [],a=>rfl
  | e::es,a=>by
    rw[zJz,zJz];have h1:(p++l)[p.length+a]? =l[a]? :=by rw[gQg (by omega)];congr 1;omega
    have h2:(p++l).take (p.length+a)=p++l.take a:=by rw[List.take_append,yQ5 (by omega)];congr 2;omega
    rw[h1,h2]
    cases l[a]? with
    | none=>simp
    | some x=>
      simp only;split
      · rw[show p.length+a+1=p.length+(a+1)by omega]
        exact hJk
      · simp
section
variable {G G':Gh}{N M M' i j k:Nat}{T:Nat→Int}{P Q:List Ent}{n n' n1 n2:Nd}{nd:Nat→Nd}{bag out:List Msg}{m:Msg}{t t' dr:Int}{d:Byts}
theorem tJq {x:Nat}{e:Ent}(h:P[x]? =some e):tA P (x+1)=e.1:=by
 unfold tA;rw[if_neg (by omega),Nat.add_sub_cancel,yQj,h];rfl
theorem rJ3(hP:G.Pre P)(hQ:G.Pre Q):∀(es:List Ent) (x:Nat),x≤P.length→x+es.length≤Q.length→P.take x=Q.take x→es=(Q.drop x).take es.length→
    (zJz P x es=P∧Q.take (x+es.length)<+:P)∨(zJz P x es=Q.take (x+es.length)∧∀R,R<+:P→R<+:Q→R<+:Q.take (x+es.length))
  | [],x,h1,h2,h3,h4=> .inl ⟨rfl,by rw[gQw,Nat.add_zero,←h3];exact gQu _ _⟩
  | e::es,x,h1,h2,h3,h4=>by
    rw[gQd]at h2;have hq:Q[x]? =some e:=by
      have:=congrArg (·[0]?) h4;simp only[gQd,List.getElem?_cons_zero]at this;rw[List.getElem?_take,if_pos (by omega),gQj,Nat.add_zero]at this;exact this.symm
    have hes:es=(Q.drop (x+1)).take es.length:=by
      have h5:=h4;rw[gQq (by omega),gQd,List.take_succ_cons]at h5;exact(List.cons.inj h5).2
    have hK:Q.take x++e::es=Q.take (x+(e::es).length):=by
      rw[h4,yQ9,yQ3];rw[show min (e::es).length (Q.length - x)=(e::es).length by rw[gQd];omega];rw[List.take_add]
    rw[zJz]
    cases hx:P[x]? with
    | none=>
      right;refine⟨by simp only;rw[h3,hK],fun R r1 r2=>?_⟩;have:=List.getElem?_eq_none_iff.1 hx;have:=r1.length_le;rw[yJe r2];exact zJ8 (by omega)
    | some y=>
      simp only;have hxl:x<P.length:=(yQt.1 hx).1;split
      · rename_i hy
        have e1:P.take (x+1)=Q.take (x+1):=pJ4 hP hQ (by omega) (by omega) (by rw[tJq hx,tJq hq];exact hy);have:=rJ3 hP hQ es (x+1) (by omega) (by omega) e1 hes;rw[gQd,show x+(es.length+1)=x+1+es.length by omega];exact this
      · rename_i hy
        right;refine⟨by rw[h3,hK],fun R r1 r2=>?_⟩;by_cases hl:R.length≤x
        · rw[yJe r2]
          exact zJ8 (by omega)
        · exfalso
          obtain⟨z1,rfl⟩:=r1;obtain⟨z2,hz⟩:=r2;rw[gQa (by omega)]at hx;rw[←hz,gQa (by omega),hx]at hq;cases hq;exact hy rfl
theorem INV.tookN(h:INV G N M nd bag)(hi:i<N)(h0:G.ld t≠0)(ht:(nd i).term=t)(hk:k≤(G.L t).length)(hP:(G.L t).take k<+:P)
  (hH:P=G.H i∨(P<+:G.L t∧∀R,R<+:G.H i→R<+:G.L t→R<+:P)) (hR:qJl n') (hro:n'.role=1) (hro0:(nd i).role=1)
  (e1:n'.size=(nd i).size) (e2:n'.id=(nd i).id) (e3:n'.term=(nd i).term) (e4:n'.vote=(nd i).vote)
  (hb:n'.base.toNat≤P.length) (hl:n'.log=P.drop n'.base.toNat) (hbt:n'.bt=tA P n'.base.toNat)
  (hc:n'.commit.toNat≤(nd i).commit.toNat∨(n'.commit.toNat≤k∧G.CT t ((G.L t).take n'.commit.toNat)∧(G.L t).take n'.commit.toNat<+:G.S)) (hs:0<n'.base→n'.snap=uJc n'.base):
  Ext G (G.took t i k P) i∧INV (G.took t i k P) N M (fu nd i n') bag∧k≤(G.took t i k P).A t i:=by
 have a:=h.ni i hi;have hlg:=h.gi.log i hi;have x:Ext G (G.took t i k P) i:=Ext.took;have hpre:G.Pre P:=by
  rcases hH with rfl | ⟨h1,_⟩
  ·exact hlg.1
  ·exact(h.gi.Lpre h0).pre h1
 have hle:∀e∈P,e.1≤t:=by
  rcases hH with rfl | ⟨h1,_⟩
  ·intro e he;rw[←ht];exact hlg.2 e he
  ·intro e he;exact h.gi.Lterm h0 e (h1.subset he)
 have hH2:P=G.H i∨∀R,R<+:G.H i→R<+:G.L t→R<+:P:=hH.imp id fun h=>h.2;have g:=h.gi.took (T:=fun i=>(nd i).term) hi h0 ht hk hP hpre hle hH2;have eH:(G.took t i k P).H i=P:=nJq;have hkA:k≤(G.took t i k P).A t i:=by
  have:(G.took t i k P).A t i=max (G.A t i) k:=yJm;rw[this];omega
 -- what was settled of its log is there still
 have hold:(G.H i).take (nd i).commit.toNat<+:P:=by
  rcases hH with rfl | ⟨_,h2⟩
  ·exact gQu _ _
  ·exact h2 _ (gQu _ _) (h.gi.CT_L a.ct (by omega) h0)
 have hcl:=a.com.1;have hoc:∀c,c≤(nd i).commit.toNat→P.take c=(G.H i).take c:=fun c hc=>by
  have h1:(G.H i).take c<+:P:=(zJ8 hc).trans hold;have:=yJe h1;rw[yQ9,Nat.min_eq_left (by omega)]at this;exact this.symm
 have hnc:n'.commit.toNat≤k→P.take n'.commit.toNat=(G.L t).take n'.commit.toNat:=fun hck=>by
  have h1:(G.L t).take n'.commit.toNat<+:P:=(zJ8 hck).trans hP;have:=yJe h1;rw[yQ9,Nat.min_eq_left (by omega)]at this;exact this.symm
 refine⟨x,h.step hi x (g.mono (wJf (nd:=nd) (i:=i) (n':=n') (by omega))) ⟨hR,by rw[e1];exact a.size,by rw[e2];exact a.id,by rw[eH];exact hb,by rw[eH];exact hl,by rw[eH];exact hbt,by rw[e3,e4];exact a.vote,by rw[e3];exact a.vnew,fun e=>by omega,fun e=>by omega,fun e=>by omega,?_,?_,hs⟩ (by omega) (fun j _ _ h1 h2=>?_) (fun e=>by omega) (fun e=>by omega) h.len,hkA⟩
 ·rw[eH,e3];rcases hc with hc | ⟨hc,hc2,_⟩
  ·rw[hoc _ hc];exact x.CT h.gi (a.ct.pre (zJ8 hc))
  ·rw[hnc hc,ht];exact x.CT h.gi hc2
 ·rw[eH];show _<+:G.S;rcases hc with hc | ⟨hc,_,hc2⟩
  ·rw[hoc _ hc];exact(zJ8 hc).trans a.st
  ·rw[hnc hc];exact hc2
 ·have h2:G.V (nd j).term i=j+1:=h2;omega
theorem zQt(h:P.take k=Q.take k){j:Nat}(hj:j≤k):tA P j=tA Q j:=by
 rw[←dJr hj,h,dJr hj]
theorem aJj(a:NI G N i n)(hlg:G.Pre (G.H i))(hL:G.Pre (G.L t))(hct:(G.H i).take n.commit.toNat<+:G.L t)(h0:0≤m.index)
    (h1:m.index.toNat+m.ents.length≤(G.L t).length) (h2:m.ents=((G.L t).drop m.index.toNat).take m.ents.length) (h3:m.lt=tA (G.L t) m.index.toNat)
    (hok:(qJ5 n.base n.bt n.log m.index m.lt m.ents).2.2=true):
    ∃k:Nat,(qJ5 n.base n.bt n.log m.index m.lt m.ents).2.1=k∧k≤(G.L t).length∧(G.L t).take k<+:(G.H i).take n.base.toNat++(qJ5 n.base n.bt n.log m.index m.lt m.ents).1∧
      ((G.H i).take n.base.toNat++(qJ5 n.base n.bt n.log m.index m.lt m.ents).1=G.H i∨((G.H i).take n.base.toNat++(qJ5 n.base n.bt n.log m.index m.lt m.ents).1<+:G.L t∧∀R,R<+:G.H i→R<+:G.L t→R<+:(G.H i).take n.base.toNat++(qJ5 n.base n.bt n.log m.index m.lt m.ents).1)):=by
  have hb:=a.right.base;have hbl:=a.bl;have hlast:=a.lastI;have hcom:=a.com;have hBl:((G.H i).take n.base.toNat).length=n.base.toNat:=by rw[yQ9];omega
  have hself:(G.H i).take n.base.toNat++n.log=G.H i:=by rw[a.log,List.take_append_drop]
  have hbL:(G.H i).take n.base.toNat<+:G.L t:=(zJ8 hcom.2.1).trans hct;have hbLl:n.base.toNat≤(G.L t).length:=by have:=hbL.length_le;omega
  have hbT:(G.L t).take n.base.toNat=(G.H i).take n.base.toNat:=by
    have:=yJe hbL;rw[hBl]at this;exact this.symm
  -- a merge from an index that both have alike
  have key:∀(x:Int) (lt:Int) (es:List Ent),n.base≤x→x.toNat+es.length≤(G.L t).length→es=((G.L t).drop x.toNat).take es.length→lt=tA (G.L t) x.toNat→(jJc n.base n.bt n.log x lt es).2.2=true→
      (jJc n.base n.bt n.log x lt es).2.1=((x.toNat+es.length:Nat):Int)∧(((G.H i).take n.base.toNat++(jJc n.base n.bt n.log x lt es).1=G.H i∧(G.L t).take (x.toNat+es.length)<+:G.H i)∨((G.H i).take n.base.toNat++(jJc n.base n.bt n.log x lt es).1=(G.L t).take (x.toNat+es.length)∧∀R,R<+:G.H i→R<+:G.L t→R<+:(G.L t).take (x.toNat+es.length))):=by
    intro x lt es hx k1 k2 k3 k4;unfold jJc at k4 ⊢;split at k4
    · rename_i hc
      rw[if_pos hc];obtain⟨c1,c2⟩:=hc;obtain⟨_,hxl⟩:=a.tAt_ok c1;rw[a.tAt hx hxl]at c2;have c2:tA (G.H i) x.toNat=lt:=c2;have hx1:x.toNat≤(G.H i).length:=by omega
      refine⟨by show x+_=_;omega,?_⟩;have e1:(G.H i).take x.toNat=(G.L t).take x.toNat:=pJ4 hlg hL hx1 (by omega) (by rw[c2,k3]);have e2:(G.H i).take n.base.toNat++zJz n.log (x - n.base).toNat es=zJz (G.H i) x.toNat es:=by
        have:=hJk (p:=(G.H i).take n.base.toNat) (l:=n.log) (es:=es) (a:=(x - n.base).toNat);rw[hself,hBl]at this;rw[←this];congr 1;omega
      show((G.H i).take n.base.toNat++zJz n.log (x - n.base).toNat es=G.H i∧_)∨((G.H i).take n.base.toNat++zJz n.log (x - n.base).toNat es=_∧_);rw[e2];exact rJ3 hlg hL es x.toNat hx1 k1 e1 k2
    · cases k4
  have fin:∀(x:Int) (lt:Int) (es:List Ent),n.base≤x→x.toNat+es.length≤(G.L t).length→es=((G.L t).drop x.toNat).take es.length→lt=tA (G.L t) x.toNat→(jJc n.base n.bt n.log x lt es).2.2=true→
      ∃k:Nat,(jJc n.base n.bt n.log x lt es).2.1=k∧k≤(G.L t).length∧(G.L t).take k<+:(G.H i).take n.base.toNat++(jJc n.base n.bt n.log x lt es).1∧
      ((G.H i).take n.base.toNat++(jJc n.base n.bt n.log x lt es).1=G.H i∨((G.H i).take n.base.toNat++(jJc n.base n.bt n.log x lt es).1<+:G.L t∧∀R,R<+:G.H i→R<+:G.L t→R<+:(G.H i).take n.base.toNat++(jJc n.base n.bt n.log x lt es).1)):=by
    intro x lt es hx k1 k2 k3 k4;obtain⟨f1,f2⟩:=key x lt es hx k1 k2 k3 k4;refine⟨_,f1,k1,?_,?_⟩
    · rcases f2 with⟨f2,f3⟩ | ⟨f2,f3⟩
      · rw[f2];exact f3
      · rw[f2];exact gQf
    · rcases f2 with⟨f2,f3⟩ | ⟨f2,f3⟩
      · exact .inl f2
      · exact .inr ⟨by rw[f2];exact gQu _ _,by rw[f2];exact f3⟩
  unfold qJ5 at hok ⊢;split
  · rename_i hlt
    rw[if_pos hlt]at hok;split
    · -- all of it stands already
      refine⟨n.base.toNat,by show n.base=_;omega,hbLl,?_, .inl hself⟩;rw[hbT];show _<+:(G.H i).take n.base.toNat++n.log;exact List.prefix_append _ _
    · rename_i hge
      rw[if_neg hge]at hok;refine fin n.base n.bt (m.ents.drop (n.base - m.index).toNat) (yQo _) ?_ ?_ ?_ hok
      · rw[yQ3];omega
      · rw[yQ3]
        conv=>lhs;rw[h2]
        rw[List.drop_take,gQs];congr 2;omega
      · rw[a.bt];exact zQt hbT.symm (yQm _)
  · rename_i hge
    rw[if_neg hge]at hok;exact fin m.index m.lt m.ents (by omega) h1 h2 h3 hok
theorem sJ3(a b:Int):imax a b=a∨(imax a b=b∧a<b):=by unfold imax;split<;>simp_all
theorem vQ1 {a b:Int}:imin a b≤a:=by unfold imin;split<;>omega
theorem xQf {base bt i:Int}{ts:List Int}(hb:0≤base):0≤sJ5 base bt ts i∧sJ5 base bt ts i≤base+ts.length:=by
 have hl:∀(t:Int) (k:Nat),base≤cJc base bt ts t k∧cJc base bt ts t k≤base+k:=by
  intro t k
  induction k with
  | zero=>unfold cJc;omega
  | succ k ih=>unfold cJc;split<;>omega
 unfold sJ5;split
 ·omega
 ·split
  ·omega
  ·have:=hl (termAt base bt ts i).1 (i - 1 - base).toNat;omega
theorem R1.ofm(x:Ext G G' i)(hi:i<N)(h:INV G' N M (fu nd i n') bag)(hS:G'.S=G.S)(hm:∀m∈out,MI G' N (fu nd i n') m):R1 G N M nd bag i n' out:=by
 have a:=h.ni i hi;rw[qJ8]at a;have b:=a.com;rw[hS]at b;exact⟨G',x,h.add hm,by rw[hS,aJq b.2.2],by omega⟩
theorem INV.app(h:INV G N M nd bag)(hi:i<N)(hm:m∈bag)(hk:m.kind=3)(hd:m.dst=i+1)(hr:(nd i).role=1)(hT:m.term=(nd i).term)(hM:(M:Int)≤G40):R1 G N M nd bag i (appN (nd i) m) (appM (nd i) m):=by
 have a:=h.ni i hi;obtain⟨ok,⟨s,hs,hsrc,ht0,_,_,k3,_,_⟩,_,rd⟩:=h.mi m hm;obtain⟨b1,b2,b3,b4,b5,b6,b7⟩:=k3 hk;have Pm:=ok (nd i) (by rw[a.id,hd]) a.size;have up:=rJj (m:=m) a.right hr;have hl0:G.ld m.term≠0:=by omega
 have hlast:=a.lastI;have hHl:=h.Hlen hi;have hb:=a.right.base;have hcr:=a.right.commit;have hcom:=a.com;have hLM:=h.len m.term;have hro:(appN (nd i) m).role=1:=by unfold appN;split<;>exact hr
 unfold appN appM at *;split
 ·rename_i hc;rw[if_pos hc]at up;obtain⟨f1,f2,f3⟩:=hc;obtain⟨k,q1,q2,q3,q4⟩:=aJj (t:=m.term) a (h.gi.log i hi).1 (h.gi.Lpre hl0) (h.gi.CT_L a.ct (by omega) hl0) Pm.nums.1.1 b2 b3 b4 f1;rw[q1]at up ⊢;generalize hX:(qJ5 (nd i).base (nd i).bt (nd i).log m.index m.lt m.ents).1=X at up q3 q4 ⊢;have hBl:((G.H i).take (nd i).base.toNat).length=(nd i).base.toNat:=by rw[yQ9];have:=a.bl;omega
  have hcn:=Pm.nums.2.1;obtain⟨x,h1,h2⟩:=h.tookN (n':={nd i with log:=X,commit:=imax (nd i).commit (imin m.commit k)}) hi hl0 hT.symm q2 q3 q4 up.right hr hr rfl rfl rfl rfl
   (by rw[yQs,hBl];show(nd i).base.toNat≤_;omega)
   (by show X=List.drop (nd i).base.toNat _;rw[List.drop_left' hBl])
   (by
    show(nd i).bt=tA _ (nd i).base.toNat;rw[vJ6 (List.prefix_append _ _) (by omega),dJr (yQm _)];exact a.bt)
   (by
    show(imax (nd i).commit (imin m.commit k)).toNat≤(nd i).commit.toNat∨((imax (nd i).commit (imin m.commit k)).toNat≤k∧G.CT m.term ((G.L m.term).take (imax (nd i).commit (imin m.commit k)).toNat)∧(G.L m.term).take (imax (nd i).commit (imin m.commit k)).toNat<+:G.S);rcases sJ3 (nd i).commit (imin m.commit k)with e | ⟨e,e2⟩
    ·rw[e];exact .inl (yQm _)
    ·rw[e];have e3:=vQ1 (a:=m.commit) (b:=(k:Int));have e4:=aJ0 (a:=m.commit) (b:=(k:Int));refine .inr ⟨by omega,b6.pre (zJ8 (by omega)),(zJ8 (by omega)).trans b7⟩)
   a.snap
  refine R1.ofm x hi h1 rfl fun mm hmm=>?_;have hmm:=List.mem_singleton.1 hmm;subst hmm;have r:=h1.told (x:=k) (r:=m.round) (b:=true) hi hm (by omega) hd (by rw[qJ8];exact Int.le_of_eq hT) ⟨by omega,by omega⟩ (.inr ⟨rfl,by rw[qJ8];exact hT⟩) fun _=>by
   rw[qJ8];show(k:Int)≤(Gh.A _ (nd i).term i:Int);rw[←hT];omega
  rw[qJ8]at r;exact r
 ·rename_i hc;rw[if_neg hc]at up;refine(R1.of Ext.refl hi (by rw[vJe];exact h) rfl).add fun G' y h' mm hmm=>?_;have hmm:=List.mem_singleton.1 hmm;subst hmm;rw[vJe]at h' ⊢;have hh:=xQf (base:=(nd i).base) (bt:=(nd i).bt) (i:=m.index) (ts:=(nd i).log.map (·.1)) hb.1;rw[yQr]at hh;unfold qJi at hlast;exact h'.told hi hm (by omega) hd (by omega) ⟨hh.1,by omega⟩ (.inr ⟨rfl,hT⟩) fun e=>by cases e
end
end Go.Proofs.YtghoifolghelnaaGreat
/-
 Take,with what was.
 No condition beyond those that each theorem names.
-/
open Go.Sx
namespace Go.Proofs.YtghoifolghelnaaGreat
section
variable {G G':Gh}{N M M' i j k:Nat}{T:Nat→Int}{P Q:List Ent}{n n' n1 n2:Nd}{nd:Nat→Nd}{bag out:List Msg}{m:Msg}{t t' dr:Int}{d:Byts}
theorem INV.inst(h:INV G N M nd bag)(hi:i<N)(hm:m∈bag)(hk:m.kind=5)(hd:m.dst=i+1)(hr:(nd i).role=1)(hT:m.term=(nd i).term)(hM:(M:Int)≤G40):R1 G N M nd bag i (zJ0 (nd i) m) [Go.Proofs.YtghoifolghelnaaGreat.told (nd i) m (zJ0 (nd i) m).commit m.round true]:=by
 have a:=h.ni i hi;obtain⟨ok,⟨s,hs,hsrc,ht0,_,_,_,k5,_⟩,_,rd⟩:=h.mi m hm;obtain⟨b1,b2,b3,b4,b5,b6,b7⟩:=k5 hk;have Pm:=ok (nd i) (by rw[a.id,hd]) a.size;have hl0:G.ld m.term≠0:=by omega
 have hlg:=h.gi.log i hi;have hLp:=h.gi.Lpre hl0;have hlast:=a.lastI;have hHl:=h.Hlen hi;have hb:=a.right.base;have hcr:=a.right.commit;have hcom:=a.com;have hLM:=h.len m.term;have hlt:m.lt≤(nd i).term:=by
  rw[←hT,b4];obtain⟨e,he,h2⟩:=cJ1 (P:=G.L m.term) (k:=m.index.toNat) (by omega) b2;rw[h2];exact h.gi.Lterm hl0 e he
 have up:=mJ8 a.right hr Pm.nums.1.2 ⟨Pm.lt,hlt⟩ Pm.snap;have fin:∀{k:Nat} {P:List Ent},INV (G.took m.term i k P) N M (fu nd i (zJ0 (nd i) m)) bag→k≤(G.took m.term i k P).A m.term i→k≤(G.L m.term).length→(zJ0 (nd i) m).commit=k→R1 G N M nd bag i (zJ0 (nd i) m) [Go.Proofs.YtghoifolghelnaaGreat.told (nd i) m (zJ0 (nd i) m).commit m.round true]:=fun {k P} h1 h2 hkl hck=>by
  refine R1.ofm Ext.took hi h1 rfl fun mm hmm=>?_;have hmm:=List.mem_singleton.1 hmm;subst hmm;have e1:(zJ0 (nd i) m).term=(nd i).term:=by unfold zJ0;split<;>rfl
  have e2:(zJ0 (nd i) m).id=(nd i).id:=by unfold zJ0;split<;>rfl
  have r:=h1.told (x:=k) (r:=m.round) (b:=true) hi hm (by omega) hd (by rw[qJ8];omega) ⟨by omega,by omega⟩ (.inr ⟨rfl,by rw[qJ8];omega⟩) fun _=>by
   rw[qJ8,e1,←hT];omega
  rw[qJ8]at r;have et:Go.Proofs.YtghoifolghelnaaGreat.told (zJ0 (nd i) m) m (k:Int) m.round true=Go.Proofs.YtghoifolghelnaaGreat.told (nd i) m (zJ0 (nd i) m).commit m.round true:=by
   unfold Go.Proofs.YtghoifolghelnaaGreat.told;rw[e1,e2,hck]
  rw[et]at r;exact r
 have fin2:∀{k:Nat},(zJ0 (nd i) m).commit=k→(zJ0 (nd i) m).commit=k:=fun h=>h;by_cases hc:(nd i).commit<m.index
 ·have hcn:(zJ0 (nd i) m).commit=(m.index.toNat:Int):=by
   unfold zJ0;rw[if_pos hc];show m.index=_;omega
  by_cases hmt:(termAt (nd i).base (nd i).bt ((nd i).log.map (·.1)) m.index).2=true∧(termAt (nd i).base (nd i).bt ((nd i).log.map (·.1)) m.index).1=m.lt
  ·-- its own log has what the snapshot stands for
   obtain⟨c1,c2⟩:=id hmt;obtain⟨_,hxl⟩:=a.tAt_ok c1;rw[a.tAt (by omega) hxl]at c2;have c2:tA (G.H i) m.index.toNat=m.lt:=c2;have e1:(G.H i).take m.index.toNat=(G.L m.term).take m.index.toNat:=pJ4 hlg.1 hLp (by omega) b2 (by rw[c2,b4]);have e2:zJ0 (nd i) m={nd i with log:=(nd i).log.drop (m.index - (nd i).base).toNat,base:=m.index,bt:=m.lt,snap:=m.snap,commit:=m.index}:=by unfold zJ0;rw[if_pos hc,if_pos hmt]
   obtain⟨x,h1,h2⟩:=h.tookN (n':=zJ0 (nd i) m) (P:=G.H i) (k:=m.index.toNat) hi hl0 hT.symm b2 (by rw[←e1];exact gQu _ _) (.inl rfl) up.right (by rw[e2];exact hr) hr (by rw[e2]) (by rw[e2]) (by rw[e2]) (by rw[e2])
    (by rw[e2];show m.index.toNat≤_;omega)
    (by
     rw[e2];show(nd i).log.drop (m.index - (nd i).base).toNat=(G.H i).drop m.index.toNat;rw[a.log,gQs];congr 1;omega)
    (by rw[e2];exact c2.symm)
    (by rw[e2];exact .inr ⟨yQm _,b5,b6⟩)
    (by rw[e2];exact fun _=>b7)
   exact fin h1 h2 b2 hcn
  ·have e2:zJ0 (nd i) m={nd i with log:=[],base:=m.index,bt:=m.lt,snap:=m.snap,commit:=m.index}:=by unfold zJ0;rw[if_pos hc,if_neg hmt]
   have hPl:((G.L m.term).take m.index.toNat).length=m.index.toNat:=by rw[yQ9];omega
   obtain⟨x,h1,h2⟩:=h.tookN (n':=zJ0 (nd i) m) (P:=(G.L m.term).take m.index.toNat) (k:=m.index.toNat) hi hl0 hT.symm b2 gQf (.inr ⟨gQu _ _,fun R r1 r2=>by
     by_cases hl:R.length≤m.index.toNat
     ·rw[yJe r2];exact zJ8 hl
     ·exfalso;have:=r1.length_le;refine hmt ?_;rw[a.tAt (by omega) (by omega)];refine⟨rfl,?_⟩;show tA (G.H i) m.index.toNat=m.lt;rw[vJ6 r1 (by omega),b4,vJ6 r2 (by omega)]⟩) up.right (by rw[e2];exact hr) hr (by rw[e2]) (by rw[e2]) (by rw[e2]) (by rw[e2])
    (by rw[e2,hPl];exact yQm _)
    (by rw[e2];show []=List.drop m.index.toNat _;rw[gQ1 (by omega)])
    (by rw[e2];show m.lt=tA _ m.index.toNat;rw[dJr (yQm _)];exact b4)
    (by rw[e2];exact .inr ⟨yQm _,b5,b6⟩)
    (by rw[e2];exact fun _=>b7)
   exact fin h1 h2 b2 hcn
 ·have e2:zJ0 (nd i) m=nd i:=by unfold zJ0;rw[if_neg hc]
  have hcL:(G.H i).take (nd i).commit.toNat<+:G.L m.term:=h.gi.CT_L a.ct (by omega) hl0;have hcl:=hcL.length_le;rw[yQ9]at hcl;have hcT:(G.L m.term).take (nd i).commit.toNat=(G.H i).take (nd i).commit.toNat:=by
   have:=yJe hcL;rw[yQ9,Nat.min_eq_left (by omega)]at this;exact this.symm
  obtain⟨x,h1,h2⟩:=h.tookN (n':=zJ0 (nd i) m) (P:=G.H i) (k:=(nd i).commit.toNat) hi hl0 hT.symm (by omega) (by rw[hcT];exact gQu _ _) (.inl rfl) (by rw[e2];exact a.right) (by rw[e2];exact hr) hr (by rw[e2]) (by rw[e2]) (by rw[e2]) (by rw[e2])
   (by rw[e2];exact a.bl) (by rw[e2];exact a.log) (by rw[e2];exact a.bt) (by rw[e2];exact .inl (yQm _)) (by rw[e2];exact a.snap)
  exact fin h1 h2 (by omega) (by rw[e2];omega)
theorem dJa:(ledN n m dr).role=1:=by
 unfold ledN followN;split<;>rfl
theorem INV.led(h:INV G N M nd bag)(hi:i<N)(ht:m.term≤G40)(hs:1≤m.src∧m.src≤(nd i).size):INV G N M (fu nd i (ledN (nd i) m dr)) bag:=by
 have a:=h.ni i hi;have up:=dJ3 (dr:=dr) a.right ht hs;have h1:=h.follow (t:=m.term) (dr:=dr) hi ht;have a1:=h1.ni i hi;rw[qJ8]at a1;have h2:=h1.keep hi (n':=ledN (nd i) m dr) (a1.soft up.right rfl rfl rfl rfl rfl rfl rfl rfl rfl (.inr ⟨rfl,rfl,rfl⟩)) (by rw[qJ8];rfl) (by rw[qJ8];rfl) (by rw[qJ8];exact yQo _);rw[wQd]at h2;exact h2
theorem oJk(hT:¬ m.term<n.term):(ledN n m dr).term=m.term:=by
 unfold ledN followN;split
 ·rfl
 ·show n.term=m.term;omega
theorem aJo:(ledN n m dr).id=n.id:=by
 unfold ledN followN;split<;>rfl
theorem INV.does(h:INV G N M nd bag)(hi:i<N)(hm:m∈bag)(hd:m.dst=i+1)(hT:m.term≤(nd i).term)(hM:(M:Int)+1≤G40):R1 G N (M+1) nd bag i (wJ6 (nd i) m dr) (yJ3 (nd i) m dr):=by
 have a:=h.ni i hi;obtain⟨ok,⟨s,hs,hsrc,ht0,_⟩,_,_⟩:=id (h.mi m hm);have Pm:=ok (nd i) (by rw[a.id,hd]) a.size;have hsz:=a.size;have p1:=Pm.src;have hid:=a.id;have htm:=a.right.term;unfold wJ6 yJ3;by_cases k1:m.kind=1
 ·rw[if_pos k1,if_pos k1];obtain⟨G',x,h1,hS⟩:=h.asked hi hm k1 hd hT;refine R1.up (R1.ofm x hi h1 hS fun mm hmm=>?_) (Nat.le_succ _);have hmm:=List.mem_singleton.1 hmm;subst hmm;have a1:=h1.ni i hi;rw[qJ8]at a1;have e1:(vJh (nd i) m).term=(nd i).term:=by unfold vJh;split<;>rfl
  have ht1:=Pm.term.1;refine⟨fun n' e1 e2=>⟨e1.symm,?_,?_,by simp,⟨by show 1≤(nd i).term;omega,htm.2⟩,by simp[G40],yQo 0,htm.1,by simp⟩,⟨i,hi,hid,?_,fun e=>by have e:(2:Int)=1:=e;omega,fun _ hy=>?_,fun e=>by have e:(2:Int)=3:=e;omega,fun e=>by have e:(2:Int)=5:=e;omega,fun e=>by have e:(2:Int)=4:=e;omega⟩,⟨s,hs,by show m.src=_;omega⟩,fun e=>(by have e:(3:Int)≤2:=e;omega),fun _=>rfl⟩
  ·have e1:n'.id=m.src:=e1;show(nd i).id≠n'.id;omega
  ·show 1≤(nd i).id∧(nd i).id≤n'.size;omega
  ·rw[qJ8,e1];exact yQo _
  ·have hy:yesV (nd i).term (nd i).vote (lastT (nd i)) (qJi (nd i)) m=true:=hy;show(G'.V (nd i).term i:Int)=m.src;have hv:=a1.vote;rw[e1]at hv;rw[hv];unfold vJh;rw[if_pos hy]
 ·rw[if_neg k1,if_neg k1];by_cases k2:m.kind=2
  ·rw[if_pos k2,if_pos k2];exact h.voted hi hm k2 hd hM
  ·rw[if_neg k2,if_neg k2];have hno:m.term<(nd i).term→3≤m.kind→R1 G N (M+1) nd bag i (nd i) [Go.Proofs.YtghoifolghelnaaGreat.told (nd i) m 0 0 false]:=fun hlt h3=>by
    refine R1.up (R1.ofm Ext.refl hi (by rw[vJe];exact h) rfl fun mm hmm=>?_) (Nat.le_succ _);have hmm:=List.mem_singleton.1 hmm;subst hmm;rw[vJe];exact h.told hi hm h3 hd hT z0 (.inl rfl) fun e=>by cases e
   have hself:R1 G N (M+1) nd bag i (nd i) []:=R1.up (R1.of Ext.refl hi (by rw[vJe];exact h) rfl) (Nat.le_succ _);by_cases k3:m.kind=3
   ·rw[if_pos k3,if_pos k3];unfold vJi kJf;split
    ·rename_i hlt;exact hno hlt (by omega)
    ·rename_i hlt;split
     ·exact hself
     ·have h1:=h.led (dr:=dr) hi Pm.term.2 Pm.srcR;have r:=h1.app hi hm k3 hd (by rw[qJ8];exact dJa) (by rw[qJ8];exact(oJk hlt).symm) (by omega);rw[qJ8]at r;exact R1.up (R1.pre Ext.refl rfl r) (Nat.le_succ _)
   ·rw[if_neg k3,if_neg k3];by_cases k4:m.kind=4
    ·rw[if_pos k4,if_pos k4];exact R1.up (h.toldN hi hm k4 hd (by omega)) (Nat.le_succ _)
    ·rw[if_neg k4,if_neg k4];have k5:m.kind=5:=by
      have:=Pm.kind;omega
     unfold xJc xJ2;split
     ·rename_i hlt;exact hno hlt (by omega)
     ·rename_i hlt;split
      ·exact hself
      ·have h1:=h.led (dr:=dr) hi Pm.term.2 Pm.srcR;have r:=h1.inst hi hm k5 hd (by rw[qJ8];exact dJa) (by rw[qJ8];exact(oJk hlt).symm) (by omega);rw[qJ8]at r;exact R1.up (R1.pre Ext.refl rfl r) (Nat.le_succ _)
theorem INV.take(h:INV G N M nd bag)(hi:i<N)(hm:m∈bag)(hd:m.dst=i+1)(hM:(M:Int)+1≤G40):R1 G N (M+1) nd bag i (gJf (nd i) m dr) (fJa (nd i) m dr):=by
 have a:=h.ni i hi;obtain⟨ok,_⟩:=id (h.mi m hm);have Pm:=ok (nd i) (by rw[a.id,hd]) a.size;unfold gJf fJa;split
 ·rename_i hlt;have h1:=h.follow (t:=m.term) (dr:=dr) hi Pm.term.2;have r:=h1.does (dr:=dr) hi hm hd (by
   rw[qJ8];unfold followN;rw[if_pos hlt];exact yQo _) hM
  rw[qJ8]at r;exact R1.pre Ext.refl rfl r
 ·rename_i hlt;exact h.does hi hm hd (by omega) hM
end
end Go.Proofs.YtghoifolghelnaaGreat
/-
 Reads: what is sure is not behind.
 No condition beyond those that each theorem names.
-/
open Go.Sx
namespace Go.Proofs.YtghoifolghelnaaGreat
def RdOk(N:Nat)(nd:Nat→Nd)(bag:List Msg)(ask:List Int)(i:Nat)(r:Rdg):Prop:=0≤r.1∧r.1<ask.length∧(ask.getD r.1.toNat 0≤r.2.1∨∃q,maj N q∧∀k,k<N→q k=true→(nd i).term<(nd k).term∧(nd i).seen.getD k 0<r.2.2∧∀m∈bag,m.kind=4→m.src=k+1→m.term=(nd i).term→m.round<r.2.2)
def RDI(N:Nat)(nd:Nat→Nd)(bag:List Msg)(ask:List Int):Prop:=∀i,i<N→(nd i).role=3→∀r∈(nd i).reads,RdOk N nd bag ask i r
def OwnR(n n':Nd)(i:Nat)(bag:List Msg):Prop:=n'.reads=[]∨(n'.role=3→n.role=3∧n'.term=n.term∧(∀r∈n'.reads,r∈n.reads)∧∀k,k≠i→n'.seen.getD k 0≤n.seen.getD k 0∨∃m∈bag,m.kind=4∧m.src=k+1∧m.term=n.term∧n'.seen.getD k 0≤m.round)
section
variable {G G':Gh}{N M M' i j k:Nat}{T:Nat→Int}{P Q:List Ent}{n n' n1 n2:Nd}{nd:Nat→Nd}{bag out:List Msg}{m:Msg}{t t' dr:Int}{d:Byts}{ask:List Int}
theorem RDI.sub(h:RDI N nd bag ask)(hb:∀m∈out,m∈bag):RDI N nd out ask:=fun i hi hr r hr'=>by
 obtain⟨a,b,c⟩:=h i hi hr r hr';refine⟨a,b,c.imp id fun⟨q,hq,hk⟩=>⟨q,hq,fun k hk1 hk2=>?_⟩⟩;obtain⟨c1,c2,c3⟩:=hk k hk1 hk2;exact⟨c1,c2,fun m hm=>c3 m (hb m hm)⟩
theorem RDI.step(h:RDI N nd bag ask)(hi:i<N)(own:OwnR (nd i) n' i bag)(ht:(nd i).term≤n'.term)(hout:∀m∈out,m.src=i+1∧(m.kind=4→m.term=n'.term)):RDI N (fu nd i n') (bag++out) ask:=by
 intro j hj hr r hr';by_cases hji:j=i
 ·subst hji;rw[qJ8]at hr hr';rcases own with e | own
  ·rw[e]at hr';cases hr'
  ·obtain⟨o1,o2,o3,o4⟩:=own hr;obtain⟨a,b,c⟩:=h j hj o1 r (o3 r hr');refine⟨a,b,c.imp id fun⟨q,hq,hk⟩=>⟨q,hq,fun k hk1 hk2=>?_⟩⟩;obtain⟨c1,c2,c3⟩:=hk k hk1 hk2;have hkj:k≠j:=fun e=>by subst e;omega
   rw[qJ8,cJe hkj,o2];refine⟨c1,?_,fun m hm k4 ks kt=>?_⟩
   ·rcases o4 k hkj with h1 | ⟨m,hm,m1,m2,m3,m4⟩
    ·omega
    ·have:=c3 m hm m1 m2 m3;omega
   ·rcases yQ1.1 hm with hm | hm
    ·exact c3 m hm k4 ks kt
    ·have:=(hout m hm).1;omega
 ·rw[cJe hji]at hr hr';obtain⟨a,b,c⟩:=h j hj hr r hr';refine⟨a,b,c.imp id fun⟨q,hq,hk⟩=>⟨q,hq,fun k hk1 hk2=>?_⟩⟩;obtain⟨c1,c2,c3⟩:=hk k hk1 hk2;rw[cJe hji];have hm:=wJf (nd:=nd) (i:=i) (n':=n') ht k;refine⟨by omega,c2,fun m hm k4 ks kt=>?_⟩;rcases yQ1.1 hm with hm | hm
  ·exact c3 m hm k4 ks kt
  ·obtain⟨e1,e2⟩:=hout m hm;have e2:=e2 k4;have:k=i:=by omega
   subst this;omega
theorem OwnR.same(h1:n'.reads=n.reads)(h2:n'.seen=n.seen)(h3:n'.term=n.term)(h4:n'.role=n.role):OwnR n n' i bag:= .inr fun hr=>⟨by omega,h3,fun r hr=>by rw[←h1];exact hr,fun k _=> .inl (by rw[h2];exact yQo _)⟩
theorem OwnR.no(h:n'.role≠3):OwnR n n' i bag:= .inr fun hr=>absurd hr h
theorem xQ4(h:n.role=1):(appN n m).role≠3:=by
 have:(appN n m).role=n.role:=by unfold appN;split<;>rfl
 omega
theorem aJu(h:n.role=1):(zJ0 n m).role≠3:=by
 have:(zJ0 n m).role=n.role:=by unfold zJ0;split<;>rfl
 omega
theorem tJ8(hm:m∈bag)(hs:1≤m.src):OwnR n (wJ6 n m dr) i bag:=by
 unfold wJ6;split
 ·unfold vJh;split
  ·exact .same rfl rfl rfl rfl
  ·exact .same rfl rfl rfl rfl
 ·split
  ·unfold gJd;split
   ·rename_i hc;unfold zJ2;split
    ·exact .inl rfl
    ·exact .same rfl rfl rfl rfl
   ·exact .same rfl rfl rfl rfl
  ·split
   ·unfold vJi;split
    ·exact .same rfl rfl rfl rfl
    ·split
     ·exact .same rfl rfl rfl rfl
     ·exact .no (xQ4 dJa)
   ·split
    ·rename_i k4;unfold Go.Proofs.YtghoifolghelnaaGreat.toldN;split
     ·rename_i hc;obtain⟨hr,hT⟩:=hc;have e1:(telN (seenN n m) m).reads=n.reads∧(telN (seenN n m) m).seen=(seenN n m).seen∧(telN (seenN n m) m).term=n.term:=by
       have e0:(seenN n m).reads=n.reads∧(seenN n m).term=n.term:=by unfold seenN;split<;>exact⟨rfl,rfl⟩
       unfold telN;split
       ·exact⟨e0.1,rfl,e0.2⟩
       ·split
        ·exact⟨e0.1,rfl,e0.2⟩
        ·exact⟨e0.1,rfl,e0.2⟩
      obtain⟨e1,e2,e3⟩:=e1;refine .inr fun _=>⟨hr,e3,fun r h=>by rw[←e1];exact h,fun k hki=>?_⟩;rw[e2];unfold seenN;split
      ·rename_i hle;show(n.seen.set (srcI m) (imax (n.seen.getD (srcI m) 0) m.round)).getD k 0≤_∨_;rw[yQj,gQo];split
       ·rename_i e;split
        ·show imax (n.seen.getD (srcI m) 0) m.round≤_∨_;rcases sJ3 (n.seen.getD (srcI m) 0) m.round with h | ⟨h,h2⟩
         ·rw[h,e];exact .inl (yQo _)
         ·rw[h];exact .inr ⟨m,hm,k4,by unfold srcI at e;omega,hT,yQo _⟩
        ·rename_i hn;left;rw[yQj,yQ6 (by omega)];exact yQo _
       ·left;rw[←yQj];exact yQo _
      ·exact .inl (yQo _)
     ·exact .same rfl rfl rfl rfl
    ·unfold xJc;split
     ·exact .same rfl rfl rfl rfl
     ·split
      ·exact .same rfl rfl rfl rfl
      ·exact .no (aJu dJa)
theorem jQf(hm:m∈bag)(hs:1≤m.src):OwnR n (gJf n m dr) i bag:=by
 unfold gJf;split
 ·rcases tJ8 (n:=followN n m.term dr) (dr:=dr) (i:=i) hm hs with h | h
  ·exact .inl h
  ·refine .inr fun hr=>?_;have h1:=(h hr).1;have h2:(followN n m.term dr).role=1:=by unfold followN;split<;>rfl
   omega
 ·exact tJ8 hm hs
theorem jQe:OwnR n (wJ3 n dr) i bag:=by
 unfold wJ3;split
 ·split
  ·exact .same rfl rfl rfl rfl
  ·exact .same rfl rfl rfl rfl
 ·rename_i hr;split
  ·rw[uJb];unfold jJ7;split
   ·exact .same rfl rfl rfl rfl
   ·unfold zJ2;split
    ·exact .inl rfl
    ·exact .inl rfl
  ·exact .same rfl rfl rfl rfl
theorem fJu:∀m∈xJt n k,m.src=n.id∧m.kind≠4:=fun m hm=>by
 obtain⟨to,_,_,_,rfl⟩:=bJk hm;unfold gJh;split
 ·exact⟨rfl,by simp⟩
 ·exact⟨rfl,by simp⟩
theorem bJe:∀m∈zJ3 n,m.src=n.id∧m.kind≠4:=fun m hm=>by
 unfold zJ3 at hm;split at hm
 ·have:=fJu m hm;exact this
 ·cases hm
theorem tJ9:∀mm∈yJ3 n m dr,mm.src=n.id∧(mm.kind=4→mm.term=(wJ6 n m dr).term):=by
 intro mm hmm;have one:∀{x:Msg},mm∈[x]→mm=x:=fun h=>List.mem_singleton.1 h;unfold yJ3 at hmm;unfold wJ6;by_cases k1:m.kind=1
 ·rw[if_pos k1]at hmm;have:=one hmm;subst this;exact⟨rfl,fun e=>by have e:(2:Int)=4:=e;omega⟩
 ·rw[if_neg k1]at hmm ⊢;by_cases k2:m.kind=2
  ·rw[if_pos k2]at hmm;unfold pJh at hmm;split at hmm
   ·have:=bJe mm hmm;exact⟨this.1,fun e=>absurd e this.2⟩
   ·cases hmm
  ·rw[if_neg k2]at hmm ⊢;by_cases k3:m.kind=3
   ·rw[if_pos k3]at hmm ⊢;unfold kJf at hmm;unfold vJi;split at hmm
    ·have:=one hmm;subst this;rename_i hlt;rw[if_pos hlt];exact⟨rfl,fun _=>rfl⟩
    ·rename_i hlt;rw[if_neg hlt];split at hmm
     ·cases hmm
     ·rename_i hr;rw[if_neg hr];have e:(appN (ledN n m dr) m).term=(ledN n m dr).term:=by unfold appN;split<;>rfl
      rw[e];unfold appM at hmm;split at hmm
      ·have:=one hmm;subst this;exact⟨aJo,fun _=>rfl⟩
      ·have:=one hmm;subst this;exact⟨aJo,fun _=>rfl⟩
   ·rw[if_neg k3]at hmm ⊢;by_cases k4:m.kind=4
    ·rw[if_pos k4]at hmm;unfold nJs at hmm;have hs:∀{x:Nd} {to:Nat},x.id=n.id→mm=gJh x to→mm.src=n.id∧mm.kind≠4:=fun hx h=>by
      subst h;unfold gJh;split
      ·exact⟨hx,by simp⟩
      ·exact⟨hx,by simp⟩
     have e0:(seenN n m).id=n.id:=by unfold seenN;split<;>rfl
     have:mm.src=n.id∧mm.kind≠4:=by
      split at hmm
      ·unfold telM at hmm;split at hmm
       ·exact hs (by exact e0) (one hmm)
       ·split at hmm
        ·split at hmm
         ·exact hs (by exact e0) (one hmm)
         ·cases hmm
        ·cases hmm
      ·cases hmm
     exact⟨this.1,fun e=>absurd e this.2⟩
    ·rw[if_neg k4]at hmm ⊢;unfold xJ2 at hmm;unfold xJc;split at hmm
     ·have:=one hmm;subst this;rename_i hlt;rw[if_pos hlt];exact⟨rfl,fun _=>rfl⟩
     ·rename_i hlt;rw[if_neg hlt];split at hmm
      ·cases hmm
      ·rename_i hr;rw[if_neg hr];have e:(zJ0 (ledN n m dr) m).term=(ledN n m dr).term:=by unfold zJ0;split<;>rfl
       rw[e];have:=one hmm;subst this;exact⟨aJo,fun _=>rfl⟩
theorem jQi:∀mm∈fJa n m dr,mm.src=n.id∧(mm.kind=4→mm.term=(gJf n m dr).term):=by
 unfold fJa gJf;split
 ·have e:(followN n m.term dr).id=n.id:=by unfold followN;split<;>rfl
  intro mm hmm;have:=tJ9 mm hmm;rw[e]at this;exact this
 ·exact tJ9
theorem jQh:∀mm∈uJa n dr,mm.src=n.id∧mm.kind≠4:=by
 unfold uJa;intro mm hmm;split at hmm
 ·split at hmm
  ·have:=fJu mm hmm;exact this
  ·cases hmm
 ·split at hmm
  ·unfold xJq at hmm;split at hmm
   ·cases hmm
   ·split at hmm
    ·have:=bJe mm hmm;exact this
    ·obtain⟨to,_,_,_,rfl⟩:=fJ1 hmm;exact⟨rfl,by simp[askN]⟩
  ·cases hmm
theorem RDI.read(h:RDI N nd bag ask)(v:INV G N M nd bag)(hi:i<N)(hr:(nd i).role=3)(hc:(termAt (nd i).base (nd i).bt ((nd i).log.map (·.1)) (nd i).commit).1=(nd i).term)(hout:∀m∈out,m.src=i+1∧m.kind≠4):
  RDI N (fu nd i (kJa (nd i) ask.length)) (bag++out) (ask++[(G.S.length:Int)]):=by
 have a:=v.ni i hi;obtain⟨l1,l2,l3,l4⟩:=a.lead hr;have hcr:=a.right.commit;have hlast:=a.lastI;have hb:=a.right.base;have hcom:=a.com;rw[a.tAt (by omega) (by omega)]at hc;have hc:tA (G.H i) (nd i).commit.toNat=(nd i).term:=hc;have ht1:=(v.gi.led (nd i).term (by omega)).1
 -- what is known of the old ones goes on
 have mono:∀j (hj:j<N) (hjr:(nd j).role=3) r,r∈(nd j).reads→RdOk N (fu nd i (kJa (nd i) ask.length)) (bag++out) (ask++[(G.S.length:Int)]) j r:=by
  intro j hj hjr r hr';obtain⟨b1,b2,b3⟩:=h j hj hjr r hr';refine⟨b1,by rw[yQs];omega,?_⟩;rcases b3 with b3 | ⟨q,hq,hk⟩
  ·left;rw[yQj,gQa (by omega),←yQj];exact b3
  ·refine .inr ⟨q,hq,fun k hk1 hk2=>?_⟩;obtain⟨c1,c2,c3⟩:=hk k hk1 hk2;have eT:∀x,(fu nd i (kJa (nd i) ask.length) x).term=(nd x).term:=fun x=>by
    unfold fu;split
    ·rename_i e;rw[e];rfl
    ·rfl
   rw[eT,eT];refine⟨c1,?_,fun m hm k4 ks kt=>?_⟩
   ·by_cases hji:j=i
    ·subst hji;rw[qJ8];show((nd j).seen.set ((nd j).id - 1).toNat ((nd j).round+1)).getD k 0<_;have hkj:k≠j:=fun e=>by subst e;omega
     rw[yQj,gQo,if_neg (by have:=a.id;omega),←yQj];exact c2
    ·rw[cJe hji];exact c2
   ·rcases yQ1.1 hm with hm | hm
    ·exact c3 m hm k4 ks kt
    ·exact absurd k4 (hout m hm).2
 intro j hj hjr r hr';by_cases hji:j=i
 ·subst hji;rw[qJ8]at hjr hr';have hr':r∈(nd j).reads++[((ask.length:Int),(nd j).commit,(nd j).round+1)]:=hr';rcases yQ1.1 hr' with hr' | hr'
  ·exact mono j hj hr r hr'
  ·have:=List.mem_singleton.1 hr';subst this;refine⟨by show(0:Int)≤(ask.length:Int);omega,by show(ask.length:Int)<_;rw[yQs,gQv];omega,?_⟩;have eg:(ask++[(G.S.length:Int)]).getD (ask.length:Int).toNat 0=G.S.length:=by
    rw[yQj,gQg (by omega)];simp
   show(ask++[(G.S.length:Int)]).getD (ask.length:Int).toNat 0≤(nd j).commit∨_;rw[eg];rcases v.gi.set with e | ⟨t0,s1,s2⟩
   ·left;rw[e];show(0:Int)≤_;omega
   ·have s2l:=s2.length_le;rw[yQ9]at s2l;obtain⟨q1,q2,q3⟩:=v.gi.com t0 s1;rcases Int.lt_trichotomy t0 (nd j).term with hlt | heq | hgt
    ·left;have hlc:=v.gi.lc _ (yQm _) (by omega) q2 q1 q3 hlt (by omega);have hlcl:=hlc.length_le;rw[yQ9]at hlcl;have hBL:=v.gi.BL (t:=(nd j).term) (by omega);obtain⟨_,_,hBt,_⟩:=v.gi.led (nd j).term (by omega);by_cases hcB:(nd j).commit.toNat≤(G.B (nd j).term).length
     ·exfalso;have hc0:(nd j).commit.toNat≠0:=fun e=>by
       rw[e]at hc;unfold tA at hc;rw[if_pos rfl]at hc;omega
      rw[l2,vJ6 hBL hcB]at hc;obtain⟨e,he,h2⟩:=cJ1 (by omega) hcB;have:=hBt e he;omega
     ·omega
    ·left;subst heq;omega
    ·right;obtain⟨p1,p2⟩:=v.gi.ele t0 (v.gi.C_ld s1);refine⟨G.Q t0,p1,fun k hk hQ=>?_⟩;obtain⟨v1,_,_⟩:=p2 k hk hQ;have hvt:=(v.gi.vt t0 k hk (by rw[v1];exact v.gi.C_ld s1)).1;have hkj:k≠j:=fun e=>by
      subst e;have hvt:t0≤(nd k).term:=hvt;omega
     have hvt:t0≤(nd k).term:=hvt;rw[qJ8,cJe hkj];refine⟨by show(nd j).term<_;omega,?_,fun m hm k4 ks kt=>?_⟩
     ·show((nd j).seen.set ((nd j).id - 1).toNat ((nd j).round+1)).getD k 0<(nd j).round+1;rw[yQj,gQo,if_neg (by have:=a.id;omega),←yQj];obtain⟨_,_,_,_,r5⟩:=mJ6 a.right hr;have hl:=a.right.seen;have hsz:=a.size;have:=(r5 _ (dJf (d:=0) (j:=k) (l:=(nd j).seen) (by omega))).2;omega
     ·show m.round<(nd j).round+1;rcases yQ1.1 hm with hm | hm
      ·have:=((v.mi m hm).rd (by omega)).2 j hj hr kt.symm;omega
      ·exact absurd k4 (hout m hm).2
 ·rw[cJe hji]at hjr hr';exact mono j hj hjr r hr'
theorem bJj {α:Type}{f:α→Bool}:∀{l:List α} {x:α},x∈l.take (l.findIdx f)→f x=false
  | [],x,h=>by simp at h
  | a::l,x,h=>by
    rw[List.findIdx_cons]at h
    cases e:f a with
    | true=>rw[e]at h;simp at h
    | false=>
      rw[e]at h;simp only[cond_false,List.take_succ_cons]at h;rcases yQw.1 h with rfl | h
      · exact e
      · exact bJj h
theorem RDI.sure(h:RDI N nd bag ask)(v:INV G N M nd bag)(hi:i<N):∀r∈(nd i).reads.take (sureK (nd i)),0≤r.1∧r.1<ask.length∧ask.getD r.1.toNat 0≤r.2.1:=by
 intro r hr;have a:=v.ni i hi;have h3:(nd i).role=3:=by
  rcases a.right.roles with⟨_,hn,_⟩ | ⟨_,hn,_⟩ | ⟨e,_⟩
  ·have:=List.length_eq_zero_iff.1 hn.2.2.2.2;rw[this]at hr;simp at hr
  ·have:=List.length_eq_zero_iff.1 hn.2.2.2.2;rw[this]at hr;simp at hr
  ·exact e
 obtain⟨b1,b2,b3⟩:=h i hi h3 r (gQz hr);refine⟨b1,b2,b3.resolve_right fun⟨q,hq,hk⟩=>?_⟩;have hr2:r∈(nd i).reads.take ((nd i).reads.findIdx fun r=>decide (dJ0 (nd i).seen<r.2.2)):=hr;have hf:=bJj hr2;have hf:¬ dJ0 (nd i).seen<r.2.2:=of_decide_eq_false hf;have hsl:(nd i).seen.length=N:=by
  have:=a.right.seen;have:=a.size;omega
 rcases fJi (nd i).seen with⟨e,_⟩ | ⟨_,r2,_⟩
 ·rw[e]at hsl;simp at hsl;omega
 ·obtain⟨k,hkN,hk1,hk2⟩:=pJ9 (aJl hsl r2) hq;have hk1:=of_decide_eq_true hk1;have:=(hk k hkN hk2).2.1;omega
theorem jQg:OwnR n (mJh n) i bag:= .inr fun hr=>⟨hr,rfl,fun r h=>List.mem_of_mem_drop h,fun k _=> .inl (yQo _)⟩
end
end Go.Proofs.YtghoifolghelnaaGreat
/-
 A group of nodes in memory.
 No condition beyond those that each theorem names.
-/
open Go.Sx
namespace Go.Proofs.YtghoifolghelnaaGreat
def rN:Rp Nd:=⟨19,fun A w cs n=>∃s,cs=ndC n s∧NR A w n s,fun⟨_,h,_⟩=>by rw[h];rfl,fun⟨s,h,h1⟩=>by rw[h];exact h1.ok,fun e ⟨s,h,h1⟩=>⟨s,h,h1.xa e⟩⟩
structure Gr where
 ns:List Nd
 bag:List Msg
 S:List Ent
 lds:List Int
 ask:List Int
 data:Int
structure GO where
 bN:Nat
 nN:Nat
 ex:Option Nat
 fN:Nat
 oN:Ob
 cN:List AV
 vB:AV
 fB:Nat
 oB:Ob
 cB:List AV
 vS:AV
 fS:Nat
 oS:Ob
 cS:List AV
 bL:Nat
 vA:AV
 fA:Nat
 oA:Ob
abbrev gL(q:GO)(g:Nat)(x:Gr)(M:Obs):Obs:=(g,.row [.slice q.bN 0 q.nN q.nN q.ex,q.vB,q.vS,.slice q.bL 0 400 400 none,q.vA,.int .i64 x.data])::(q.fN,q.oN)::(q.fB,q.oB)::(q.fS,q.oS)::(q.bL,.row (x.lds.map (AV.int .i64)))::(q.fA,q.oA)::M
structure GM(w0 w:AW)(g:Nat)(x:Gr)(q:GO)(M:Obs):Prop where
 st:Ow TA [] w0 w (gL q g x M)
 lN:x.ns.length=q.nN
 wN:Wn q.oN q.bN q.cN
 cN:Chk rN (fz TA (ids (gL q g x M))) w q.cN x.ns
 sB:Sd 12 q.oB q.vB q.cB
 cB:Chk rM (fz TA (ids (gL q g x M))) w q.cB x.bag
 sS:Sd 2 q.oS q.vS q.cS
 cS:Chk rE (fz TA (ids (gL q g x M))) w q.cS x.S
 sA:Sd 1 q.oA q.vA (x.ask.map (AV.int .i64))
 ll:x.lds.length=400
section
variable {hk:Hook}{A A' B:Nat→Prop}{w0 w w':AW}{K:AV→AW→Prop}{n n':Nd}{s s':Sl}{v:AV}{g:Nat}{x x':Gr}{q q':GO}{M M':Obs}{U U':List Nat}{p:Nat×Ob}{cs:List AV}{L:Obs}
theorem NR.yw(h:NR (fz B U) w n s)(e:Xw U w U' w'):NR (fz B U') w' n s:=h.xa e.xa
theorem NR.inn(h:NR (Nw w) w' n s)(st:Ow TA [] w0 w L):NR (fz TA (ids L)) w' n s:=h.xa ⟨fun c f all a b d=>⟨⟨trivial,fun hc=>Nat.not_le_of_lt (st.ids_lt hc) a⟩,⟨trivial,fun hc=>Nat.not_le_of_lt (st.ids_lt hc) b⟩,d⟩⟩
theorem bJa {α:Type}{r:Rp α}{y:α}(h:r.rd (Nw w) w' cs y)(st:Ow TA [] w0 w L):r.rd (fz TA (ids L)) w' cs y:=h.xa ⟨fun c f all a b d=>⟨⟨trivial,fun hc=>Nat.not_le_of_lt (st.ids_lt hc) a⟩,⟨trivial,fun hc=>Nat.not_le_of_lt (st.ids_lt hc) b⟩,d⟩⟩
theorem oJt:(gL q g x (p::M)).Perm (p::gL q g x M):=List.perm_middle (l₁:=[_,_,_,_,_,_])
theorem GM.go(gm:GM w0 w g x q M)(st':Ow TA [] w0 w' (gL q g x M'))(e:Xw (ids (gL q g x M)) w (ids (gL q g x M')) w'):GM w0 w' g x q M':=⟨st',gm.lN,gm.wN,gm.cN.xa e.xa,gm.sB,gm.cB.xa e.xa,gm.sS,gm.cS.xa e.xa,gm.sA,gm.ll⟩
theorem GM.mem(gm:GM w0 w g x q M):Mem w:=gm.st.mem
theorem GM.pos(gm:GM w0 w g x q M):0<w.size:=gm.st.P0.pos
theorem GM.new(gm:GM w0 w g x q M){K:Nat→AW→Prop}(hK:∀b w',GM w0 w' g x q ((b,.row cs)::M)→Xw (ids (gL q g x M)) w (ids (gL q g x ((b,.row cs)::M))) w'→K b w'):Sx.new w cs K:=
 gm.st.new' fun b w' st' x'=>by
  obtain⟨a,e⟩:=st'.perm oJt.symm;have e2:=x'.xw.trans e.xw;exact hK b w' (gm.go a e2) e2
theorem GM.call(gm:GM w0 w g x q M)(hf:Fr w.size w w'):GM w0 w' g x q M∧Xw (ids (gL q g x M)) w (ids (gL q g x M)) w':=by
 obtain⟨a,e⟩:=gm.st.call hf;exact⟨gm.go a e.xw,e.xw⟩
theorem GM.drop(gm:GM w0 w g x q (p::M)):GM w0 w g x q M∧Xw (ids (gL q g x (p::M))) w (ids (gL q g x M)) w:=by
 obtain⟨a,e⟩:=gm.st.perm oJt;obtain⟨a',e'⟩:=a.forget;have e2:=e.xw.trans e'.xw;exact⟨gm.go a' e2,e2⟩
theorem GM.put {b o:Nat}{vs:List AV}(gm:GM w0 w g x q ((b,.row cs)::M))(hl:o+vs.length≤cs.length){K:AW→Prop}(hK:∀w',GM w0 w' g x q ((b,.row (qJg cs o vs))::M)→Xw (ids (gL q g x ((b,.row cs)::M))) w (ids (gL q g x ((b,.row (qJg cs o vs))::M))) w'→K w'):onM (w.putCells b o vs) K:=
 gm.st.put 6 rfl hl fun w' st' x'=>hK w' (gm.go st' x'.xw) x'.xw
theorem GM.putI {b o:Nat}{vs:List AV}(gm:GM w0 w g x q M)(i:Nat)(hi:nth M i=some (b,.row cs))(hl:o+vs.length≤cs.length){K:AW→Prop}(hK:∀w',GM w0 w' g x q (stN M i (b,.row (qJg cs o vs)))→Xw (ids (gL q g x M)) w (ids (gL q g x (stN M i (b,.row (qJg cs o vs))))) w'→K w'):onM (w.putCells b o vs) K:=
 gm.st.put (cs:=cs) (i+6) hi hl fun w' st' x'=>by
  have h2:ids (gL q g x (stN M i (b,.row (qJg cs o vs))))=ids (gL q g x M):=dJv (l:=gL q g x M) (i:=i+6) (o':= .row (qJg cs o vs)) hi rfl;have x3:Xw (ids (gL q g x M)) w (ids (gL q g x (stN M i (b,.row (qJg cs o vs))))) w':=by rw[h2];exact x'.xw
  exact hK w' (gm.go st' x3) x3
theorem GM.lenN(gm:GM w0 w g x q M):lenS (.slice q.bN 0 q.nN q.nN q.ex)=some (.int .i64 (x.ns.length:Int)):=by rw[gm.lN];rfl
theorem GM.lcN(gm:GM w0 w g x q M):q.cN.length=x.ns.length * 19:=gm.cN.len
theorem GM.lcB(gm:GM w0 w g x q M):q.cB.length=x.bag.length * 12:=gm.cB.len
theorem GM.lcS(gm:GM w0 w g x q M):q.cS.length=x.S.length * 2:=gm.cS.len
theorem GM.rsA(gm:GM w0 w g x q M):Rs w 1 x.ask.length q.vA (x.ask.map (AV.int .i64)):=gm.st.sd (i:=5) rfl gm.sA (by decide) (by simp)
theorem GM.node(gm:GM w0 w g x q M){i:Nat}(hi:i<x.ns.length):∃s,NR (fz TA (ids (gL q g x M))) w x.ns[i] s∧qJz q.cN (i * 19) 19=some (ndC x.ns[i] s):=by
 obtain⟨s,h1,h2⟩:=gm.cN.get i hi;refine⟨s,h2,?_⟩;have hl:=gm.lcN;rw[qJ6 (by omega)];exact congrArg some h1
theorem GM.ldNd(gm:GM w0 w g x q M){o:Nat}{c:List AV}(h:qJz q.cN o 19=some c):ldN 19 w q.bN o=some (.agg c):=aJp (gm.st.wcells (i:=1) rfl gm.wN) h
theorem GM.atN(gm:GM w0 w g x q M){i:Nat}(hi:i<x.ns.length){K:Nat→Nat→Prop}(hK:K q.bN (i * 19)):atP (idxS 19 (.slice q.bN 0 q.nN q.nN q.ex) (.int .i64 (i:Int))) K:=idxk (by have:=gm.lN;omega) hK
theorem GM.setN(gm:GM w0 w g x q M){i:Nat}(hi:i<x.ns.length)(hn:NR (fz TA (ids (gL q g x M))) w n' s'){K:AW→Prop}(hK:∀q' w',GM w0 w' g {x with ns:=x.ns.set i n'} q' M→Xw (ids (gL q g x M)) w (ids (gL q' g {x with ns:=x.ns.set i n'} M)) w'→K w'):onM (w.putCells q.bN (i * 19) (ndC n' s')) K:=by
 have hl:=gm.lcN;refine gm.st.setW 1 rfl gm.wN (by simp only[gQd,gQw];omega) fun o' w' st' xw wn'=>?_;have hids:ids (gL {q with oN:=o',cN:=qJg q.cN (i * 19) (ndC n' s')} g {x with ns:=x.ns.set i n'} M)=ids (gL q g x M):=dJv (l:=gL q g x M) (i:=1) (o':=o') rfl (by rw[gm.wN.re,wn'.re]);refine hK {q with oN:=o',cN:=qJg q.cN (i * 19) (ndC n' s')} w' ⟨st',by show(x.ns.set i n').length=q.nN;rw[yQ0];exact gm.lN,wn',?_,gm.sB,?_,gm.sS,?_,gm.sA,gm.ll⟩ (by rw[hids];exact xw)
 ·rw[hids];exact(gm.cN.xa xw.xa).set (r:=rN) (c:=ndC n' s') ⟨s',rfl,hn.xa xw.xa⟩ i hi
 ·rw[hids];exact gm.cB.xa xw.xa
 ·rw[hids];exact gm.cS.xa xw.xa
theorem GM.appB(gm:GM w0 w g x q M){xv:AV}{l':List Msg}(hx:(rL rM).rd (fz TA (ids (gL q g x M))) w [xv] l')(hsz:x.bag.length+l'.length≤1000000){K:AW→Prop}(hK:∀q' w',GM w0 w' g {x with bag:=x.bag++l'} q' M→Xw (ids (gL q g x M)) w (ids (gL q' g {x with bag:=x.bag++l'} M)) w'→K w'):
  onE (appS 12 136 w q.vB xv) fun x5 w6=>gd (qJc x5) (onM (AW.putCells w6 g (0+1) [x5]) K):=by
 obtain⟨new,h1,h2⟩:=hx.rs;have hl:=gm.lcB;have hd:q.cB.length / 12=x.bag.length:=by omega
 refine gm.st.appD 2 rfl gm.sB (by decide) h1 (by rw[hd];omega) (by rw[hd];omega) fun v' f' o' w6 st6 x6 s6=>?_;refine gd_t s6.ok (st6.put 0 rfl (yQk rfl) fun w' st' x'=>?_);have xw:=x6.xw.trans x'.xw;refine hK {q with vB:=v',fB:=f',oB:=o',cB:=q.cB++new} w' ⟨st',gm.lN,gm.wN,gm.cN.xa xw.xa,s6,?_,gm.sS,gm.cS.xa xw.xa,gm.sA,gm.ll⟩ xw;exact(gm.cB.xa xw.xa).app (h2.xa xw.xa)
theorem GM.appS(gm:GM w0 w g x q M){xv:AV}{l':List Ent}(hx:(rL rE).rd (fz TA (ids (gL q g x M))) w [xv] l')(hsz:x.S.length+l'.length≤1000000){K:AW→Prop}(hK:∀q' w',GM w0 w' g {x with S:=x.S++l'} q' M→Xw (ids (gL q g x M)) w (ids (gL q' g {x with S:=x.S++l'} M)) w'→K w'):
  onE (appS 2 32 w q.vS xv) fun x5 w6=>gd (qJc x5) (onM (AW.putCells w6 g (0+2) [x5]) K):=by
 obtain⟨new,h1,h2⟩:=hx.rs;have hl:=gm.lcS;have hd:q.cS.length / 2=x.S.length:=by omega
 refine gm.st.appD 3 rfl gm.sS (by decide) h1 (by rw[hd];omega) (by rw[hd];omega) fun v' f' o' w6 st6 x6 s6=>?_;refine gd_t s6.ok (st6.put 0 rfl (yQk rfl) fun w' st' x'=>?_);have xw:=x6.xw.trans x'.xw;refine hK {q with vS:=v',fS:=f',oS:=o',cS:=q.cS++new} w' ⟨st',gm.lN,gm.wN,gm.cN.xa xw.xa,gm.sB,gm.cB.xa xw.xa,s6,?_,gm.sA,gm.ll⟩ xw;exact(gm.cS.xa xw.xa).app (h2.xa xw.xa)
theorem GM.appA(gm:GM w0 w g x q M){xv:AV}{l':List Int}(hx:Rs w 1 l'.length xv (l'.map (AV.int .i64)))(hsz:x.ask.length+l'.length≤1000000){K:AW→Prop}(hK:∀q' w',GM w0 w' g {x with ask:=x.ask++l'} q' M→Xw (ids (gL q g x M)) w (ids (gL q' g {x with ask:=x.ask++l'} M)) w'→K w'):
  onE (Go.Sx.appS 1 8 w q.vA xv) fun x5 w6=>gd (qJc x5) (onM (AW.putCells w6 g (0+4) [x5]) K):=by
 refine gm.st.appD 5 rfl gm.sA (by decide) hx (by rw[yQr];omega) (by rw[yQr];omega) fun v' f' o' w6 st6 x6 s6=>?_;refine gd_t s6.ok (st6.put 0 rfl (yQk rfl) fun w' st' x'=>?_);have xw:=x6.xw.trans x'.xw;exact hK {q with vA:=v',fA:=f',oA:=o'} w' ⟨st',gm.lN,gm.wN,gm.cN.xa xw.xa,gm.sB,gm.cB.xa xw.xa,gm.sS,gm.cS.xa xw.xa,by rw[List.map_append];exact s6,gm.ll⟩ xw
theorem GM.cutB(gm:GM w0 w g x q M){j:Nat}(hj:j≤x.bag.length){K:AW→Prop}(hK:∀q' w',GM w0 w' g {x with bag:=x.bag.drop j} q' M→Xw (ids (gL q g x M)) w (ids (gL q' g {x with bag:=x.bag.drop j} M)) w'→K w'):
  onM (slS 12 q.vB (some (.int .i64 (j:Int))) none none) fun x5=>gd (qJc x5) (onM (AW.putCells w g (0+1) [x5]) K):=by
 obtain⟨v',e,s'⟩:=gm.sB.cut (by decide) gm.lcB hj;refine qJd e (gd_t s'.ok (gm.st.put 0 rfl (yQk rfl) fun w' st' x'=>?_));have xw:=x'.xw;refine hK {q with vB:=v',cB:=q.cB.drop (j * 12)} w' ⟨st',gm.lN,gm.wN,gm.cN.xa xw.xa,s',?_,gm.sS,gm.cS.xa xw.xa,gm.sA,gm.ll⟩ xw;exact(gm.cB.xa xw.xa).drop j
theorem Ow.sdRd {α:Type}{r:Rp α}{l:List α}{i f:Nat}{o:Ob}{I:List Nat}{B:Nat→Prop}(st:Ow B I w0 w L)(hi:nth L i=some (f,o))(hv:Sd r.sz o v cs)(hs:0<r.sz)(hc:Chk r (fz TA U) w cs l):(rL r).rd TA w [v] l:=by
 have hl:=hc.len;refine SlR.rd ?_;rcases hv with⟨rfl,rfl⟩ | ⟨b,off,n,ex,all,rfl,rfl,h2,rfl,h3⟩
 ·have:l=[]:=by
   rw[gQw]at hl;rcases Nat.mul_eq_zero.1 hl.symm with h | h
   ·exact List.length_eq_zero_iff.1 h
   ·omega
  subst this;exact .inl ⟨rfl,rfl⟩
 ·rw[yQ3]at hl;have hn:n=l.length:=Nat.eq_of_mul_eq_mul_right hs (by omega);subst hn;obtain⟨_,⟨oo,d,g1⟩,dd,g2⟩:=st.wn hi (.inl rfl);refine .inr ⟨b,off,_,ex,f,all,rfl,⟨yQm _,by rcases h3 with rfl | rfl<;>simp[okEx]⟩,trivial,trivial,⟨⟨b,dd,AW.fam?_iff.2 ⟨all,oo,d,g1,g2⟩⟩,st.wcells hi (.inl rfl)⟩,by omega,?_⟩;rw[yQ5 (by rw[yQ3];omega)];exact hc.xa ⟨fun _ _ _ _ _ h=>⟨trivial,trivial,h⟩⟩
theorem GM.rdS(gm:GM w0 w g x q M):(rL rE).rd TA w [q.vS] x.S:=Ow.sdRd gm.st (i:=3) rfl gm.sS (by decide) gm.cS
theorem GM.rdB(gm:GM w0 w g x q M):(rL rM).rd TA w [q.vB] x.bag:=Ow.sdRd gm.st (i:=2) rfl gm.sB (by decide) gm.cB
end
end Go.Proofs.YtghoifolghelnaaGreat
