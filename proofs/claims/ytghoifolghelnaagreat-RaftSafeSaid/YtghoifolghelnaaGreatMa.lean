/-
 What the functions of this chapter do.
 No condition beyond those that each theorem names.
-/
import Derived.Test.YtghoifolghelnaaGreatSxt
import Derived.Test.YtghoifolghelnaaGreatSxp
import Derived.Test.YtghoifolghelnaaGreatSxu
import Derived.Test.YtghoifolghelnaaGreatProg
import Derived.KernelRfl
import Derived.Test.YtghoifolghelnaaGreatSxo
import Derived.Test.YtghoifolghelnaaGreatSxq
set_option linter.unusedSimpArgs false
set_option linter.unusedVariables false
/-! A row that grew behind is let go, or written in one place and let go. -/
namespace Go.Sx
end Go.Sx
/-
 What the functions of this chapter do.
 No condition beyond those that each theorem names.
-/
/-! Rows of one's own that are cut at their front and grow behind, and rows that are written in their place. -/
namespace Go.Sx
section
variable {A B:Nat→Prop}{I:List Nat}{w0 w w':AW}{L:Obs}{v xv:AV}
def Wn(o:Ob)(b:Nat)(cs:List AV):Prop:=o= .acc b cs∨o= .dty b cs
theorem Wn.re {o:Ob}{b:Nat}{cs:List AV}(h:Wn o b cs):o.re=true:=by rcases h with rfl | rfl<;>rfl
theorem Ow.wn(st:Ow A I w0 w L){i f b:Nat}{o:Ob}{cs:List AV}(hi:nth L i=some (f,o))(hw:Wn o b cs):f≠0∧(∃o d,w.get b=some (.cells cs f o d))∧∃dd,w.root? f=some (f,b,dd):=by
 obtain⟨h1,_,_,h4⟩:=st.box _ (qJw hi) hw.re;rcases hw with rfl | rfl
 ·exact⟨h4,h1.1,_,h1.2⟩
 ·exact⟨h4,h1.1,_,h1.2⟩
theorem Ow.wcells(st:Ow A I w0 w L){i f b:Nat}{o:Ob}{cs:List AV}(hi:nth L i=some (f,o))(hw:Wn o b cs):w.cells? b=some cs:=by
 obtain⟨_,⟨oo,d,g1⟩,dd,g2⟩:=st.wn hi hw;exact AW.cells?_iff.2 ⟨(f,b,dd),oo,d,AW.fam?_iff.2 ⟨cs,oo,d,g1,g2⟩,.inr rfl,g1⟩
theorem aJp {n b o:Nat}{cs c:List AV}(h:w.cells? b=some cs)(ht:qJz cs o n=some c):ldN n w b o=some (.agg c):=by
 unfold ldN;rw[h,Option.bind_some,ht];rfl
theorem Ow.setW(st:Ow A [] w0 w L)(i:Nat){f b k:Nat}{o:Ob}{cs vs:List AV}(hi:nth L i=some (f,o))(hw:Wn o b cs)(hl:k+vs.length≤cs.length){K:AW→Prop}
  (hK:∀o' w',Ow A [] w0 w' (stN L i (f,o'))→Xw (ids L) w (ids L) w'→Wn o' b (qJg cs k vs)→K w'):onM (w.putCells b k vs) K:=by
 obtain⟨g5,⟨oo,d,g1⟩,dd,g2⟩:=st.wn hi hw;obtain⟨_,g3,g4,_⟩:=st.box _ (qJw hi) hw.re;simp only[List.not_mem_nil,or_false]at g3 g4;have hfb:=st.mem.fam _ _ _ _ _ g1;have hown:Own w0.size w 1 (.slice b 0 cs.length cs.length none) cs:= .inr ⟨b,_,_,_,f,oo,d,dd,rfl,by simp,g3,g5,g1,g2⟩;obtain⟨w',hw',hfr,ho,hz⟩:=hown.put st.mem hl;obtain⟨f',own',dirty',cs',own1,dirty1,cs0,p1,p2,p3,p4,p5,p6,p7,p8⟩:=vJu hw';have hfam:w.fam? b=some (f,b,dd):=AW.fam?_iff.2 ⟨cs,oo,d,g1,g2⟩;rw[hfam]at p1;cases p1;have hget:∀c,c≠b→c≠f→w'.get c=w.get c:=fun c hc hcf=>by
  rcases p8 with⟨_,_,_,g⟩ | ⟨_,_,g⟩ | ⟨_,g⟩<;>simp[g,hc,hcf]
 have hfL:f∈ids L:=jJf (qJw hi) hw.re;have hx:Xw (ids L) w (ids L) w':=⟨fun c g all a a' h=>by
  refine⟨a,a',?_⟩;obtain⟨⟨own,d1,h1⟩,h2⟩:=h;obtain⟨cc,o3,d2,h3,h4⟩:=AW.fam?_iff.1 h1;obtain⟨c0,hc0,_⟩:=AW.root?_iff.1 h4;simp only[]at hc0 h3;refine Rdb.congr ⟨⟨own,d1,h1⟩,h2⟩ (hget c (fun e=>?_) fun e=>a (e▸hfL)) (hget g (fun e=>?_) fun e=>a' (e▸hfL))
  ·subst e;rw[g1]at h3;cases h3;exact a' hfL
  ·subst e;rw[g1]at hc0;cases hc0;exact a' hfL⟩
 rcases ho with⟨e,_⟩ | ⟨b',n',cap',ex',f',o',d',dd',e,q1,q2,q3,q4,q5⟩
 ·cases e
 cases e;have hfe:f'=f:=by
  rcases p8 with⟨e1,_,_,g⟩ | ⟨_,e1,g⟩ | ⟨_,g⟩
  ·rw[g b,if_pos rfl]at q4;simp only[yQx,AO.cells.injEq]at q4;exact q4.2.1.symm.trans e1.symm
  ·rw[g b,if_pos rfl]at q4;simp only[yQx,AO.cells.injEq]at q4;exact q4.2.1.symm.trans e1.symm
  ·rw[g b,if_pos rfl]at q4;simp only[yQx,AO.cells.injEq]at q4;exact q4.2.1.symm
 subst hfe;have fin:∀o2:Ob,o2.re=true→o2.is w' f'→Ow A [] w0 w' (stN L i (f',o2)):=fun o2 hr2 his=>by
  refine⟨hfr.mem,st.pos,by have:=st.size;omega,fun c hc hi=>(hfr.old c hc).trans (st.old c hc hi),fun c hc=>st.new c (by omega),fun p hp hr=>?_,by rw[dJv hi (by rw[hr2];exact hw.re)];exact st.nd⟩;rcases eJp hi hw.re st.nd hp with rfl | ⟨h1,h2⟩
  ·exact⟨his,.inl g3,g4,g5⟩
  ·obtain⟨z1,z2⟩:=st.box p h1 hr;have hpf:p.1≠f':=h2 hr;have hpb:p.1≠b:=fun e=>by
    rw[e]at z1;have:=z1.root hr g1;rw[←e]at this;exact hpf this.symm
   refine⟨z1.keep (fun _=>hget _ hpb hpf) fun c cc o2 d2 hcc=>hget c (fun e=>?_) (fun e=>?_),z2⟩
   ·subst e;rw[g1]at hcc;cases hcc;exact hpf rfl
   ·subst e;obtain⟨c0,hc0,_⟩:=AW.root?_iff.1 g2;simp only[]at hc0;rw[hc0]at hcc;cases hcc;exact hpf rfl
 cases dd' with
 | false=>exact qJd hw' (hK (.acc b (qJg cs k vs)) w' (fin _ rfl ⟨⟨o',d',q4⟩,q5⟩) hx (.inl rfl))
 | true=>exact qJd hw' (hK (.dty b (qJg cs k vs)) w' (fin _ rfl ⟨⟨o',d',q4⟩,q5⟩) hx (.inr rfl))
def Sd(sz:Nat)(o:Ob)(v:AV)(cs:List AV):Prop:=(v= .nilslice∧cs=[])∨∃b off n ex all,o= .acc b all∧v= .slice b off n n ex∧off+n * sz=all.length∧cs=all.drop off∧(ex=none∨ex=some sz)
theorem Sd.nil {sz:Nat}{o:Ob}:Sd sz o .nilslice []:= .inl ⟨rfl,rfl⟩
theorem Sv.sd {sz:Nat}{o:Ob}{cs:List AV}(h:Sv sz o v cs):Sd sz o v cs:=by
 rcases h with h | ⟨b,n,ex,h1,h2,h3,h4⟩
 ·exact .inl h
 ·exact .inr ⟨b,0,n,ex,cs,h1,h2,by omega,by simp,h4⟩
theorem Sd.ok {sz:Nat}{o:Ob}{cs:List AV}(h:Sd sz o v cs):qJc v=true:=by
 rcases h with⟨rfl,_⟩ | ⟨b,off,n,ex,all,_,rfl,_⟩<;>rfl
theorem Ow.sd(st:Ow A I w0 w L){i f sz k:Nat}{o:Ob}{cs:List AV}(hi:nth L i=some (f,o))(hv:Sd sz o v cs)(hs:0<sz)(hk:cs.length=k * sz):Rs w sz k v cs:=by
 rcases hv with⟨rfl,rfl⟩ | ⟨b,off,n,ex,all,rfl,rfl,h2,rfl,h3⟩
 ·have:k=0:=by
   rcases Nat.mul_eq_zero.1 hk.symm with h | h<;>omega
  subst this;exact Rs.nil
 ·rw[yQ3]at hk;have:n=k:=Nat.eq_of_mul_eq_mul_right hs (by omega);subst this;exact .inr ⟨b,off,n,ex,all,rfl,st.wcells hi (.inl rfl),by omega,by rw[yQ5 (by rw[yQ3];omega)]⟩
theorem Sd.cut {sz k j:Nat}{o:Ob}{cs:List AV}(h:Sd sz o v cs)(hs:0<sz)(hk:cs.length=k * sz)(hj:j≤k):∃v',slS sz v (some (.int .i64 (j:Int))) none none=some v'∧Sd sz o v' (cs.drop (j * sz)):=by
 rcases h with⟨rfl,rfl⟩ | ⟨b,off,n,ex,all,rfl,rfl,h2,rfl,h3⟩
 ·have:k=0:=by
   rcases Nat.mul_eq_zero.1 hk.symm with h | h<;>omega
  have:j=0:=by omega
  subst this;exact⟨.nilslice,rfl,.inl ⟨rfl,by simp⟩⟩
 ·rw[yQ3]at hk;have hn:n=k:=Nat.eq_of_mul_eq_mul_right hs (by omega);subst hn;refine⟨.slice b (off+j * sz) (n - j) (n - j) ex,?_,.inr ⟨b,off+j * sz,n - j,ex,all,rfl,rfl,?_,by rw[gQs],h3⟩⟩
  ·have e1:okEx ex sz=true:=by rcases h3 with rfl | rfl<;>simp[okEx]
   have e2:okB j n n n=true:=by unfold okB;simp[hj]
   simp[slS,qJ1,bJ8,e1,e2,qJf]
  ·rw[Nat.sub_mul];have:=yQ7 sz hj;omega
theorem Ow.sdTake(st:Ow A I w0 w L){i f sz k j:Nat}{o:Ob}{cs:List AV}(hi:nth L i=some (f,o))(h:Sd sz o v cs)(hs:0<sz)(hk:cs.length=k * sz)(hj:j≤k):∃v',slS sz v none (some (.int .i64 (j:Int))) none=some v'∧Rs w sz j v' (cs.take (j * sz)):=by
 rcases h with⟨rfl,rfl⟩ | ⟨b,off,n,ex,all,rfl,rfl,h2,rfl,h3⟩
 ·have:k=0:=by
   rcases Nat.mul_eq_zero.1 hk.symm with h | h<;>omega
  have:j=0:=by omega
  subst this;exact⟨.nilslice,rfl,by rw[List.take_nil];exact Rs.nil⟩
 ·rw[yQ3]at hk;have hn:n=k:=Nat.eq_of_mul_eq_mul_right hs (by omega);subst hn;have:=yQ7 sz hj;refine⟨.slice b off j n ex,?_,.inr ⟨b,off,n,ex,all,rfl,st.wcells hi (.inl rfl),by omega,rfl⟩⟩;have e1:okEx ex sz=true:=by rcases h3 with rfl | rfl<;>simp[okEx]
  have e2:okB 0 j n n=true:=by unfold okB;simp[hj]
  simp[slS,qJ1,bJ8,e1,e2,qJf]
theorem Ow.appD(h:Ow A I w0 w L)(i:Nat){f sz bytes k:Nat}{o:Ob}{cs new:List AV}(hi:nth L i=some (f,o))(hv:Sd sz o v cs)(hs:0<sz)(hx:Rs w sz k xv new)
  (hb:(2 * (cs.length / sz+k)+1000) * bytes<2^48) (hb2:cs.length / sz+k<2^62) {K:AV→AW→Prop}
  (hK:∀v' f' o' w',Ow A I w0 w' (stN L i (f',o'))→Xt (ids L) w (ids (stN L i (f',o'))) w'→Sd sz o' v' (cs++new)→K v' w'):onE (appS sz bytes w v xv) K:=by
 have hpos:=h.P0.pos;have hnl:=hx.length;by_cases hk:k=0
 ·subst hk;have hnil:new=[]:=by simpa using hnl
  subst hnil;have:=hK v f o w;rw[gJg hi]at this;refine yJv (v:=v) (w:=w) ?_ (this h Xt.refl (by simpa using hv));simp only[appS,hx.read,Option.bind_some];rcases hv with⟨rfl,_⟩ | ⟨b,off,n,ex,all,_,rfl,_⟩<;>rfl
 rcases hv with⟨rfl,rfl⟩ | ⟨b,off,n,ex,cs0,rfl,rfl,h1,rfl,hex⟩
 ·exact h.accApp i hi (.inl ⟨rfl,rfl⟩) hs hx hb hb2 fun v' f' o' w' a e s=>hK v' f' o' w' a e s.sd
 obtain⟨⟨⟨o,d,h4⟩,h5⟩,_,_,h3⟩:=h.box _ (qJw hi) rfl;simp only[]at h4 h5 h3;have hm:=h.mem;have hk0:Nat.beq k 0=false:=zJ5 hk;have hsz:(!Nat.beq sz 0)=true:=by rw[zJ5 (by omega)];rfl
 have hsrc:fJw xv new=true:=hx.src.ok;have hdl:(cs0.drop off).length=n * sz:=by rw[yQ3];omega
 have hdiv:(cs0.drop off).length / sz=n:=by rw[hdl];exact gQ2 _ hs
 rw[hdiv]at hb hb2;obtain⟨c0,hc0,_⟩:=AW.root?_iff.1 h5;simp only[]at hc0;have hblt:=hm.lt _ _ h4;have hflt:=hm.lt _ _ hc0;have hfam:w.fam? b=some (f,b,false):=AW.fam?_iff.2 ⟨cs0,o,d,h4,h5⟩;have hcells:w.cells? b=some cs0:=AW.cells?_iff.2 ⟨(f,b,false),o,d,hfam,.inl rfl,h4⟩;have e0:Nat.ble (n+k) n=false:=by
  cases he:Nat.ble (n+k) n with
  | false=>rfl
  | true=>rw[Nat.ble_eq]at he;omega
 have e1:Nat.blt ((2 * (n+k)+1000) * bytes) Go.Sx.room=true:=by rw[gQm];unfold Go.Sx.room;exact hb
 have e2:Nat.blt (n+k) (2^62)=true:=by rw[gQm];exact hb2
 have e4:qJz cs0 off (n * sz)=some (cs0.drop off):=by rw[qJ6 (by omega),yQ5 (by omega)]
 have hnew:0+(n+k) * sz=(cs0.drop off++new).length:=by rw[gQl,yQs,hdl,hnl];omega
 rcases hex with rfl | rfl
 ·have hfr:Fr w.size w (newCells w (cs0.drop off++new)):=Fr.push hm fun cs' f own d e=>by cases e;exact yQm _
  have hb:Box (newCells w (cs0.drop off++new)) w.size (cs0.drop off++new):=by simp[Box,newCells,qJ4]
  obtain⟨a,e⟩:=h.move (f':=w.size) (o':= .acc w.size (cs0.drop off++new)) i hi hfr.mem hfr.size (fun c hc _=>hfr.old c hc) (fun c g all d _=>d.fr hm hfr (yQm _)) (.inr rfl) ⟨⟨_,_,hb⟩,AW.root?_iff.2 ⟨_,hb,rfl⟩⟩;refine yJv (v:= .slice w.size 0 (n+k) (n+k) (some sz)) (w:=newCells w (cs0.drop off++new)) ?_ (hK _ _ _ _ a e (.inr ⟨w.size,0,n+k,some sz,_,rfl,rfl,hnew,by simp,.inr rfl⟩));simp only[appS,hx.read,Option.bind_some,hk0,cond_false,hsz,hsrc,Bool.true_and,qJf,cond_true,e0,e1,e2,bJv,hcells,e4]
 ·let w1:=w.set f (.cells c0 f w.size false)
  let w':=w1.push (.cells (cs0.drop off++new) f 0 false)
  have hset:w.setFam f w.size false=w1:=by unfold AW.setFam;rw[hc0]
  have happ:appS sz bytes w (.slice b off n n (some sz)) xv=some (.slice w.size 0 (n+k) (n+k) (some sz),w'):=by
   have e3:Nat.beq (off+n * sz) cs0.length=true:=by rw[h1];simp
   simp only[appS,hx.read,Option.bind_some,hk0,cond_false,hsz,hsrc,Bool.true_and,qJf,cond_true,e0,e1,e2,Bool.and_self,bJv,hcells,e4,Nat.beq_refl,e3,AW.heir,hfam];rw[if_pos ⟨h3,trivial⟩,hset];rfl
  have hm1:Mem w1:=hm.set hflt fun cs f own d e=>by cases e;exact yQm _
  have hm':Mem w':=hm1.push fun cs f own d e=>by cases e;simpa [w1]using Nat.le_of_lt hflt
  have hget:∀c,w'.get c=if c=w.size then some (.cells (cs0.drop off++new) f 0 false)else if c=f then some (.cells c0 f w.size false)else w.get c:=fun c=>by
   simp only[w',w1,AW.push_get,AW.set_get,AW.set_size]
  have hroot:w'.root? f=some (f,w.size,false):=AW.root?_iff.2 ⟨c0,by rw[hget,if_neg (by omega),if_pos rfl],rfl⟩;have hfL:f∈ids L:=jJf (qJw hi) rfl;have hR:∀c g all,Rdb w c g all→c∉ids L→Rdb w' c g all:=fun c g all dd hcL=>by
   obtain⟨⟨own,d1,g1⟩,g2⟩:=dd;obtain⟨cc,o3,d2,g3,g4⟩:=AW.fam?_iff.1 g1;simp only[]at g3 g4;have hclt:=hm.lt _ _ g3;obtain⟨c1,hc1,_⟩:=AW.root?_iff.1 g4;have hglt:=hm.lt _ _ hc1;have hcf:c≠f:=fun e=>hcL (e▸hfL);by_cases hgf:g=f
   ·subst hgf;have hgc:w'.get c=w.get c:=by rw[hget,if_neg (by omega),if_neg hcf]
    have hf2:w'.fam? c=some (g,w.size,false):=AW.fam?_iff.2 ⟨cc,o3,d2,hgc.trans g3,hroot⟩;rw[h5]at g4;cases g4;refine⟨⟨_,_,hf2⟩,?_⟩;obtain⟨y,o4,d4,y1,y2,y3⟩:=AW.cells?_iff.1 g2;refine AW.cells?_iff.2 ⟨(g,w.size,false),o3,d2,hf2,.inl rfl,?_⟩;rw[hgc];have y3:=y3;rw[g3]at y3;cases y3;exact g3
   ·exact Rdb.congr ⟨⟨own,d1,g1⟩,g2⟩ (by rw[hget,if_neg (by omega),if_neg hcf]) (by rw[hget,if_neg (by omega),if_neg hgf])
  obtain⟨a,e⟩:=h.move (f':=f) (o':= .acc w.size (cs0.drop off++new)) i hi hm' (by simp[w',w1]) (fun c hc hn=>by rw[hget,if_neg (by omega),if_neg (hn rfl)]) hR (.inl ⟨rfl,rfl,rfl⟩) ⟨⟨0,false,by rw[hget,if_pos rfl]⟩,hroot⟩;exact yJv happ (hK _ _ _ _ a e (.inr ⟨w.size,0,n+k,some sz,_,rfl,rfl,hnew,by simp,.inr rfl⟩))
end
end Go.Sx
/-
 What the functions of this chapter do.
 No condition beyond those that each theorem names.
-/
open Go.Sx
namespace Go.Proofs.YtghoifolghelnaaGreat
set_option maxRecDepth 100000 in
def F8(hk:Hook)(n0 n1 n2 n3 n4 n5 n6 n7:Int)(n8 n9:AV)(n10:Int)(n11 n12 n13 n14:AV)(n15 n16 n17:Int)(n18:AV)(w:AW)(K:AV→AW→Prop):Prop:=
 gd (List.all [(ii n0),(ii n1),(.int .u8 n2),(ii n3),(ii n4),(ii n5),(ii n6),(ii n7),n8,n9,(ii n10),n11,n12,n13,n14,(ii n15),(ii n16),(ii n17),n18] qJc) (
 new w [(ii n0),(ii n1),(.int .u8 n2),(ii n3),(ii n4),(ii n5),(ii n6),(ii n7),n8,n9,(ii n10),n11,n12,n13,n14,(ii n15),(ii n16),(ii n17),n18] fun b19 w20=>
 ∃x21:Int,ld w20 b19 (0+1)=some (ii x21)∧
 new w20 [(ii x21)] fun b22 w23=>
 ld w23 b19 (0+1)=some (ii x21)∧
 Cl Tryz.prog hk 37 [(ii 1),(ii 9),(.slice b22 0 1 1 none)] w23 fun r24 w25=>
 ∃x26:Bool,r24=(.bool x26)∧
 ifT x26 (∃x27:Int,ld w25 b19 (0+1)=some (ii x27)∧
 ∃x28:Int,ld w25 b19 (0+0)=some (ii x28)∧
 new w25 [(ii x28)] fun b29 w30=>
 ld w30 b19 (0+0)=some (ii x28)∧
 ld w30 b19 (0+1)=some (ii x27)∧
 Cl Tryz.prog hk 37 [(ii 1),(ii x27),(.slice b29 0 1 1 none)] w30 fun r31 w32=>
 ∃x33:Bool,r31=(.bool x33)∧
 ifT x33 (∃x34:Int,ld w32 b19 (0+1)=some (ii x34)∧
 ∃x35:Int,ld w32 b19 (0+4)=some (ii x35)∧
 ∃x36:Int,ld w32 b19 (0+5)=some (ii x36)∧
 new w32 [(ii x35),(ii x36)] fun b37 w38=>
 ld w38 b19 (0+5)=some (ii x36)∧
 ld w38 b19 (0+4)=some (ii x35)∧
 ld w38 b19 (0+1)=some (ii x34)∧
 Cl Tryz.prog hk 37 [(ii 0),(ii x34),(.slice b37 0 2 2 none)] w38 fun r39 w40=>
 ∃x41:Bool,r39=(.bool x41)∧
 ifT x41 (∃x42:Int,ld w40 b19 (0+3)=some (ii x42)∧
 ∃x43:Int,ld w40 b19 (0+6)=some (ii x43)∧
 ∃x44:Int,ld w40 b19 (0+15)=some (ii x44)∧
 ∃x45:Int,ld w40 b19 (0+16)=some (ii x45)∧
 new w40 [(ii x42),(ii x43),(ii x44),(ii x45)] fun b46 w47=>
 ld w47 b19 (0+16)=some (ii x45)∧
 ld w47 b19 (0+15)=some (ii x44)∧
 ld w47 b19 (0+6)=some (ii x43)∧
 ld w47 b19 (0+3)=some (ii x42)∧
 Cl Tryz.prog hk 37 [(ii 0),(ii 1099511627776),(.slice b46 0 4 4 none)] w47 fun r48 w49=>
 ∃x50:Bool,r48=(.bool x50)∧
 ifT x50 (∃x51:Int,ld w49 b19 (0+17)=some (ii x51)∧
 new w49 [(ii x51)] fun b52 w53=>
 ld w53 b19 (0+17)=some (ii x51)∧
 Cl Tryz.prog hk 37 [(ii 1),(ii 1099511627776),(.slice b52 0 1 1 none)] w53 fun r54 w55=>
 ∃x56:Bool,r54=(.bool x56)∧
 ifT x56 (∃x57:Int,ld w55 b19 (0+7)=some (ii x57)∧
 ifT (decide (0≤x57)) (∃x58:Int,ld w55 b19 (0+7)=some (ii x58)∧
 ∃x59:Int,ld w55 b19 (0+3)=some (ii x59)∧
 onM (ld w55 b19 (0+9)) fun x60=>
 Cl Tryz.prog hk 38 [(ii x58),(ii x59),x60] w55 fun r61 w62=>
 ∃x63:Bool,r61=(.bool x63)∧
 ifT x63 (∃x64:Int,ld w62 b19 (0+6)=some (ii x64)∧
 ∃x65 x66 x67 x68 x69 x70 x71 x72:Int,∃x73 x74:AV,∃x75:Int,∃x76 x77 x78 x79:AV,∃x80 x81 x82:Int,∃x83:AV,ldN 19 w62 b19 0=some (.agg [(ii x65),(ii x66),(.int .u8 x67),(ii x68),(ii x69),(ii x70),(ii x71),(ii x72),x73,x74,(ii x75),x76,x77,x78,x79,(ii x80),(ii x81),(ii x82),x83])∧
 ∃x84:Int,ld w62 b19 (0+10)=some (ii x84)∧
 new w62 [(ii x84)] fun b85 w86=>
 ld w86 b19 (0+10)=some (ii x84)∧
 ldN 19 w86 b19 0=some (.agg [(ii x65),(ii x66),(.int .u8 x67),(ii x68),(ii x69),(ii x70),(ii x71),(ii x72),x73,x74,(ii x75),x76,x77,x78,x79,(ii x80),(ii x81),(ii x82),x83])∧
 ld w86 b19 (0+6)=some (ii x64)∧
 Cl Tryz.prog hk 36 [(.agg [(ii x65),(ii x66),(.int .u8 x67),(ii x68),(ii x69),(ii x70),(ii x71),(ii x72),x73,x74,(ii x75),x76,x77,x78,x79,(ii x80),(ii x81),(ii x82),x83])] w86 fun r87 w88=>
 ∃x89:Int,r87=(ii x89)∧
 ld w88 b19 (0+10)=some (ii x84)∧
 ld w88 b19 (0+6)=some (ii x64)∧
 Cl Tryz.prog hk 37 [(ii x64),(ii x89),(.slice b85 0 1 1 none)] w88 fun r90 w91=>
 ∃x92:Bool,r90=(.bool x92)∧
 ifT x92 (onM (ld w91 b19 (0+8)) fun x93=>
 ∃x94:Int,lenS x93=some (ii x94)∧
 ifT (decide (x94≤60000)) (onM (ld w91 b19 (0+11)) fun x95=>
 ∃x96:Int,lenS x95=some (ii x96)∧
 ∃x97:Int,ld w91 b19 (0+1)=some (ii x97)∧
 ifT (decide (x96=x97)) (onM (ld w91 b19 (0+12)) fun x98=>
 ∃x99:Int,lenS x98=some (ii x99)∧
 ∃x100:Int,ld w91 b19 (0+1)=some (ii x100)∧
 ifT (decide (x99=x100)) (onM (ld w91 b19 (0+13)) fun x101=>
 ∃x102:Int,lenS x101=some (ii x102)∧
 ∃x103:Int,ld w91 b19 (0+1)=some (ii x103)∧
 ifT (decide (x102=x103)) (onM (ld w91 b19 (0+14)) fun x104=>
 ∃x105:Int,lenS x104=some (ii x105)∧
 ∃x106:Int,ld w91 b19 (0+1)=some (ii x106)∧
 ifT (decide (x105=x106)) (∃x107 x108 x109 x110 x111 x112 x113 x114:Int,∃x115 x116:AV,∃x117:Int,∃x118 x119 x120 x121:AV,∃x122 x123 x124:Int,∃x125:AV,ldN 19 w91 b19 0=some (.agg [(ii x107),(ii x108),(.int .u8 x109),(ii x110),(ii x111),(ii x112),(ii x113),(ii x114),x115,x116,(ii x117),x118,x119,x120,x121,(ii x122),(ii x123),(ii x124),x125])∧
 Cl Tryz.prog hk 39 [(.agg [(ii x107),(ii x108),(.int .u8 x109),(ii x110),(ii x111),(ii x112),(ii x113),(ii x114),x115,x116,(ii x117),x118,x119,x120,x121,(ii x122),(ii x123),(ii x124),x125])] w91 fun r126 w127=>
 ∃x128:Bool,r126=(.bool x128)∧
 ifT x128 (∃x129 x130 x131 x132 x133 x134 x135 x136:Int,∃x137 x138:AV,∃x139:Int,∃x140 x141 x142 x143:AV,∃x144 x145 x146:Int,∃x147:AV,ldN 19 w127 b19 0=some (.agg [(ii x129),(ii x130),(.int .u8 x131),(ii x132),(ii x133),(ii x134),(ii x135),(ii x136),x137,x138,(ii x139),x140,x141,x142,x143,(ii x144),(ii x145),(ii x146),x147])∧
 Cl Tryz.prog hk 40 [(.agg [(ii x129),(ii x130),(.int .u8 x131),(ii x132),(ii x133),(ii x134),(ii x135),(ii x136),x137,x138,(ii x139),x140,x141,x142,x143,(ii x144),(ii x145),(ii x146),x147])] w127 fun r148 w149=>
 ∃x150:Bool,r148=(.bool x150)∧
 K (.bool x150) w149)
 (K (.bool false) w127))
 (K (.bool false) w91))
 (K (.bool false) w91))
 (K (.bool false) w91))
 (K (.bool false) w91))
 (K (.bool false) w91))
 (K (.bool false) w91))
 (K (.bool false) w62))
 (K (.bool false) w55))
 (K (.bool false) w55))
 (K (.bool false) w49))
 (K (.bool false) w40))
 (K (.bool false) w32))
 (K (.bool false) w25))
def adv8:Adv:=(.sq .lf (.sq .lf .lf))
set_option maxRecDepth 100000 in
theorem in8 {hk:Hook}{n0 n1 n2 n3 n4 n5 n6 n7:Int}{n8 n9:AV}{n10:Int}{n11 n12 n13 n14:AV}{n15 n16 n17:Int}{n18:AV}{w:AW}{K:AV→AW→Prop}(hn:hk 8 [(.agg [(ii n0),(ii n1),(.int .u8 n2),(ii n3),(ii n4),(ii n5),(ii n6),(ii n7),n8,n9,(ii n10),n11,n12,n13,n14,(ii n15),(ii n16),(ii n17),n18])] w=none)(h:F8 hk n0 n1 n2 n3 n4 n5 n6 n7 n8 n9 n10 n11 n12 n13 n14 n15 n16 n17 n18 w K):Cl Tryz.prog hk 8 [(.agg [(ii n0),(ii n1),(.int .u8 n2),(ii n3),(ii n4),(ii n5),(ii n6),(ii n7),n8,n9,(ii n10),n11,n12,n13,n14,(ii n15),(ii n16),(ii n17),n18])] w K:=
 qJm (adv:=adv8) Tryz.func8 hn (Eq.mpr (by kernel_rfl) h)
def F36(hk:Hook)(n0 n1 n2 n3 n4 n5 n6 n7:Int)(n8 n9:AV)(n10:Int)(n11 n12 n13 n14:AV)(n15 n16 n17:Int)(n18:AV)(w:AW)(K:AV→AW→Prop):Prop:=
 gd (List.all [(ii n0),(ii n1),(.int .u8 n2),(ii n3),(ii n4),(ii n5),(ii n6),(ii n7),n8,n9,(ii n10),n11,n12,n13,n14,(ii n15),(ii n16),(ii n17),n18] qJc) (
 new w [(ii n0),(ii n1),(.int .u8 n2),(ii n3),(ii n4),(ii n5),(ii n6),(ii n7),n8,n9,(ii n10),n11,n12,n13,n14,(ii n15),(ii n16),(ii n17),n18] fun b19 w20=>
 ∃x21:Int,ld w20 b19 (0+6)=some (ii x21)∧
 onM (ld w20 b19 (0+9)) fun x22=>
 Cl Tryz.prog hk 79 [(ii x21),x22] w20 fun r23 w24=>
 ∃x25:Int,r23=(ii x25)∧
 K (ii x25) w24)
def adv36:Adv:=(.sq .lf (.sq .lf .lf))
set_option maxRecDepth 100000 in
theorem in36 {hk:Hook}{n0 n1 n2 n3 n4 n5 n6 n7:Int}{n8 n9:AV}{n10:Int}{n11 n12 n13 n14:AV}{n15 n16 n17:Int}{n18:AV}{w:AW}{K:AV→AW→Prop}(hn:hk 36 [(.agg [(ii n0),(ii n1),(.int .u8 n2),(ii n3),(ii n4),(ii n5),(ii n6),(ii n7),n8,n9,(ii n10),n11,n12,n13,n14,(ii n15),(ii n16),(ii n17),n18])] w=none)(h:F36 hk n0 n1 n2 n3 n4 n5 n6 n7 n8 n9 n10 n11 n12 n13 n14 n15 n16 n17 n18 w K):Cl Tryz.prog hk 36 [(.agg [(ii n0),(ii n1),(.int .u8 n2),(ii n3),(ii n4),(ii n5),(ii n6),(ii n7),n8,n9,(ii n10),n11,n12,n13,n14,(ii n15),(ii n16),(ii n17),n18])] w K:=
 qJm (adv:=adv36) Tryz.func36 hn (Eq.mpr (by kernel_rfl) h)
def F37(hk:Hook)(low0 high1:Int)(l_2:AV)(w:AW)(K:AV→AW→Prop):Prop:=
 new w [(ii low0)] fun b3 w4=>
 new w4 [(ii high1)] fun b5 w6=>
 Cl Tryz.prog hk 80 [l_2,(.func 81 [] [(.ptr b3 0),(.ptr b5 0)])] w6 fun r7 w8=>
 ∃x9:Bool,r7=(.bool x9)∧
 K (.bool (!x9)) w8
def adv37:Adv:=(.sq .lf (.sq .lf .lf))
set_option maxRecDepth 100000 in
theorem in37 {hk:Hook}{low0 high1:Int}{l_2:AV}{w:AW}{K:AV→AW→Prop}(hn:hk 37 [(ii low0),(ii high1),l_2] w=none)(h:F37 hk low0 high1 l_2 w K):Cl Tryz.prog hk 37 [(ii low0),(ii high1),l_2] w K:=
 qJm (adv:=adv37) Tryz.func37 hn (Eq.mpr (by kernel_rfl) h)
def F38(hk:Hook)(low0 high1:Int)(l_2:AV)(w:AW)(K:AV→AW→Prop):Prop:=
 ∃x3:Int,lenS l_2=some (ii x3)∧
 zJ9 [(ii low0),(ii 0)] w fun R4 l_5 w6=>∃low7 x8:Int,l_5=[(ii low7),(ii x8)]∧∀_:Nat→AV,
  ifT (decide (x8<x3)) (atP (idxS 2 l_2 (ii x8)) fun b9 o10=>
  ∃x11:Int,∃x12:AV,ldN 2 w6 b9 o10=some (.agg [(ii x11),x12])∧
  new w6 [(ii 0),.nilslice] fun b13 w14=>
  gd (List.all [(ii x11),x12] qJc) (
  onM (AW.putCells w14 b13 0 [(ii x11),x12]) fun w15=>
  ∃x16:Int,ld w15 b13 (0+0)=some (ii x16)∧
  ifT (decide (x16<low7)) (K (.bool false) w15)
  (onM (ld w15 b13 (0+1)) fun x17=>
  ∃x18:Int,lenS x17=some (ii x18)∧
  ifT (decide (60000<x18)) (K (.bool false) w15)
  (∃low19:Int,ld w15 b13 (0+0)=some (ii low19)∧
  R4 [(ii low19),(ii (wi (x8+1)))] w15))))
  (K (.bool (decide (low7≤high1))) w6)
def adv38:Adv:=(.sq .lf (.sq (.sq .lf (.bl (.lp [(0,.sc (.int .i64)),(11,.sc (.int .i64))] (.sq .lf (.sq (.cd .lf .lf) (.sq (.bl (.sq .lf (.sq (.sq .lf (.cd (.sq .lf .lf) .lf)) .lf))) .lf)))))) (.sq .lf .lf)))
set_option maxRecDepth 100000 in
theorem in38 {hk:Hook}{low0 high1:Int}{l_2:AV}{w:AW}{K:AV→AW→Prop}(hn:hk 38 [(ii low0),(ii high1),l_2] w=none)(h:F38 hk low0 high1 l_2 w K):Cl Tryz.prog hk 38 [(ii low0),(ii high1),l_2] w K:=
 qJm (adv:=adv38) Tryz.func38 hn (Eq.mpr (by kernel_rfl) h)
def F39(hk:Hook)(n0 n1 n2 n3 n4 n5 n6 n7:Int)(n8 n9:AV)(n10:Int)(n11 n12 n13 n14:AV)(n15 n16 n17:Int)(n18:AV)(w:AW)(K:AV→AW→Prop):Prop:=
 gd (List.all [(ii n0),(ii n1),(.int .u8 n2),(ii n3),(ii n4),(ii n5),(ii n6),(ii n7),n8,n9,(ii n10),n11,n12,n13,n14,(ii n15),(ii n16),(ii n17),n18] qJc) (
 new w [(ii n0),(ii n1),(.int .u8 n2),(ii n3),(ii n4),(ii n5),(ii n6),(ii n7),n8,n9,(ii n10),n11,n12,n13,n14,(ii n15),(ii n16),(ii n17),n18] fun b19 w20=>
 onM (ld w20 b19 (0+18)) fun x21=>
 ∃x22:Int,lenS x21=some (ii x22)∧
 zJ9 [(ii 0),(ii 0)] w20 fun R23 l_24 w25=>∃last26 x27:Int,l_24=[(ii last26),(ii x27)]∧∀_:Nat→AV,
  ifT (decide (x27<x22)) (atP (idxS 3 x21 (ii x27)) fun b28 o29=>
  ∃x30 x31 x32:Int,ldN 3 w25 b28 o29=some (.agg [(ii x30),(ii x31),(ii x32)])∧
  new w25 [(ii 0),(ii 0),(ii 0)] fun b33 w34=>
  onM (AW.putCells w34 b33 0 [(ii x30),(ii x31),(ii x32)]) fun w35=>
  ∃x36:Int,ld w35 b33 (0+2)=some (ii x36)∧
  ifT (decide (x36≤last26)) (K (.bool false) w35)
  (∃last37:Int,ld w35 b33 (0+2)=some (ii last37)∧
  R23 [(ii last37),(ii (wi (x27+1)))] w35))
  (∃x38:Int,ld w25 b19 (0+15)=some (ii x38)∧
 ifT (decide (last26≤x38)) (onM (ld w25 b19 (0+18)) fun x39=>
 ∃x40:Int,lenS x39=some (ii x40)∧
 K (.bool (decide (x40≤64))) w25)
 (K (.bool false) w25)))
def adv39:Adv:=(.sq .lf (.sq .lf (.sq (.sq .lf (.bl (.lp [(3,.sc (.int .i64)),(9,.sc (.int .i64))] (.sq .lf (.sq (.cd .lf .lf) (.sq (.bl (.sq .lf (.sq (.sq .lf (.cd (.sq .lf .lf) .lf)) .lf))) .lf)))))) (.sq .lf .lf))))
set_option maxRecDepth 100000 in
theorem in39 {hk:Hook}{n0 n1 n2 n3 n4 n5 n6 n7:Int}{n8 n9:AV}{n10:Int}{n11 n12 n13 n14:AV}{n15 n16 n17:Int}{n18:AV}{w:AW}{K:AV→AW→Prop}(hn:hk 39 [(.agg [(ii n0),(ii n1),(.int .u8 n2),(ii n3),(ii n4),(ii n5),(ii n6),(ii n7),n8,n9,(ii n10),n11,n12,n13,n14,(ii n15),(ii n16),(ii n17),n18])] w=none)(h:F39 hk n0 n1 n2 n3 n4 n5 n6 n7 n8 n9 n10 n11 n12 n13 n14 n15 n16 n17 n18 w K):Cl Tryz.prog hk 39 [(.agg [(ii n0),(ii n1),(.int .u8 n2),(ii n3),(ii n4),(ii n5),(ii n6),(ii n7),n8,n9,(ii n10),n11,n12,n13,n14,(ii n15),(ii n16),(ii n17),n18])] w K:=
 qJm (adv:=adv39) Tryz.func39 hn (Eq.mpr (by kernel_rfl) h)
set_option maxRecDepth 100000 in
def F40(hk:Hook)(n0 n1 n2 n3 n4 n5 n6 n7:Int)(n8 n9:AV)(n10:Int)(n11 n12 n13 n14:AV)(n15 n16 n17:Int)(n18:AV)(w:AW)(K:AV→AW→Prop):Prop:=
 gd (List.all [(ii n0),(ii n1),(.int .u8 n2),(ii n3),(ii n4),(ii n5),(ii n6),(ii n7),n8,n9,(ii n10),n11,n12,n13,n14,(ii n15),(ii n16),(ii n17),n18] qJc) (
 new w [(ii n0),(ii n1),(.int .u8 n2),(ii n3),(ii n4),(ii n5),(ii n6),(ii n7),n8,n9,(ii n10),n11,n12,n13,n14,(ii n15),(ii n16),(ii n17),n18] fun b19 w20=>
 join (fun l_21 w22=>∃none24:Bool,l_21=[(.bool none24)]∧∀_:Nat→AV,
  onM (ld w22 b19 (0+11)) fun x25=>
  Cl Tryz.prog hk 82 [x25,(.bool true)] w22 fun r26 w27=>
  ∃x28:Bool,r26=(.bool x28)∧
  ∃x29:Int,ld w27 b19 (0+2)=some (.int .u8 x29)∧
  ifT (decide (x29=1)) (ifT none24 (K (.bool (!x28)) w27)
  (K (.bool false) w27))
  (ifT (decide (x29=2)) (ifT none24 (onM (ld w27 b19 (0+11)) fun x30=>
   ∃x31:Int,ld w27 b19 (0+0)=some (ii x31)∧
   atP (idxS 1 x30 (ii (wi (x31 - 1)))) fun b32 o33=>
   ∃x34:Bool,ld w27 b32 o33=some (.bool x34)∧
   K (.bool x34) w27)
   (K (.bool false) w27))
  (ifT (decide (x29=3)) (ifT (!x28) (∃x35:Int,ld w27 b19 (0+5)=some (ii x35)∧
   ∃x36:Int,ld w27 b19 (0+0)=some (ii x36)∧
   ifT (decide (x35=x36)) (∃x37 x38 x39 x40 x41 x42 x43 x44:Int,∃x45 x46:AV,∃x47:Int,∃x48 x49 x50 x51:AV,∃x52 x53 x54:Int,∃x55:AV,ldN 19 w27 b19 0=some (.agg [(ii x37),(ii x38),(.int .u8 x39),(ii x40),(ii x41),(ii x42),(ii x43),(ii x44),x45,x46,(ii x47),x48,x49,x50,x51,(ii x52),(ii x53),(ii x54),x55])∧
   onM (ld w27 b19 (0+12)) fun x56=>
   Cl Tryz.prog hk 36 [(.agg [(ii x37),(ii x38),(.int .u8 x39),(ii x40),(ii x41),(ii x42),(ii x43),(ii x44),x45,x46,(ii x47),x48,x49,x50,x51,(ii x52),(ii x53),(ii x54),x55])] w27 fun r57 w58=>
   ∃x59:Int,r57=(ii x59)∧
   ld w58 b19 (0+12)=some x56∧
   Cl Tryz.prog hk 37 [(ii 1),(ii (wi (x59+1))),x56] w58 fun r60 w61=>
   ∃x62:Bool,r60=(.bool x62)∧
   ifT x62 (∃x63 x64 x65 x66 x67 x68 x69 x70:Int,∃x71 x72:AV,∃x73:Int,∃x74 x75 x76 x77:AV,∃x78 x79 x80:Int,∃x81:AV,ldN 19 w61 b19 0=some (.agg [(ii x63),(ii x64),(.int .u8 x65),(ii x66),(ii x67),(ii x68),(ii x69),(ii x70),x71,x72,(ii x73),x74,x75,x76,x77,(ii x78),(ii x79),(ii x80),x81])∧
   onM (ld w61 b19 (0+13)) fun x82=>
   Cl Tryz.prog hk 36 [(.agg [(ii x63),(ii x64),(.int .u8 x65),(ii x66),(ii x67),(ii x68),(ii x69),(ii x70),x71,x72,(ii x73),x74,x75,x76,x77,(ii x78),(ii x79),(ii x80),x81])] w61 fun r83 w84=>
   ∃x85:Int,r83=(ii x85)∧
   ld w84 b19 (0+13)=some x82∧
   Cl Tryz.prog hk 37 [(ii 0),(ii x85),x82] w84 fun r86 w87=>
   ∃x88:Bool,r86=(.bool x88)∧
   ifT x88 (∃x89:Int,ld w87 b19 (0+15)=some (ii x89)∧
   onM (ld w87 b19 (0+14)) fun x90=>
   Cl Tryz.prog hk 37 [(ii 0),(ii x89),x90] w87 fun r91 w92=>
   ∃x93:Bool,r91=(.bool x93)∧
   K (.bool x93) w92)
   (K (.bool false) w87))
   (K (.bool false) w61))
   (K (.bool false) w27))
   (K (.bool false) w27))
   (K (.bool false) w27)))) fun J23=>
 onM (ld w20 b19 (0+12)) fun x94=>
 Cl Tryz.prog hk 37 [(ii 0),(ii 0),x94] w20 fun r95 w96=>
 ∃x97:Bool,r95=(.bool x97)∧
 ifT x97 (onM (ld w96 b19 (0+13)) fun x98=>
 Cl Tryz.prog hk 37 [(ii 0),(ii 0),x98] w96 fun r99 w100=>
 ∃x101:Bool,r99=(.bool x101)∧
 ifT x101 (onM (ld w100 b19 (0+14)) fun x102=>
 Cl Tryz.prog hk 37 [(ii 0),(ii 0),x102] w100 fun r103 w104=>
 ∃x105:Bool,r103=(.bool x105)∧
 ifT x105 (∃x106:Int,ld w104 b19 (0+15)=some (ii x106)∧
 ifT (decide (x106=0)) (onM (ld w104 b19 (0+18)) fun x107=>
 ∃x108:Int,lenS x107=some (ii x108)∧
 J23 [(.bool (decide (x108=0)))] w104)
 (J23 [(.bool false)] w104))
 (J23 [(.bool false)] w104))
 (J23 [(.bool false)] w100))
 (J23 [(.bool false)] w96))
def adv40:Adv:=(.sq .lf (.sj [(3,.sc (.bool))] .lf (.sq .lf (.sq (.sq .lf (.bl (.sq .lf (.cd (.sq .lf .lf) (.sq .lf (.cd (.sq .lf .lf) (.sq .lf (.cd (.sq .lf .lf) .lf)))))))) (.sq .lf .lf)))))
set_option maxRecDepth 100000 in
theorem in40 {hk:Hook}{n0 n1 n2 n3 n4 n5 n6 n7:Int}{n8 n9:AV}{n10:Int}{n11 n12 n13 n14:AV}{n15 n16 n17:Int}{n18:AV}{w:AW}{K:AV→AW→Prop}(hn:hk 40 [(.agg [(ii n0),(ii n1),(.int .u8 n2),(ii n3),(ii n4),(ii n5),(ii n6),(ii n7),n8,n9,(ii n10),n11,n12,n13,n14,(ii n15),(ii n16),(ii n17),n18])] w=none)(h:F40 hk n0 n1 n2 n3 n4 n5 n6 n7 n8 n9 n10 n11 n12 n13 n14 n15 n16 n17 n18 w K):Cl Tryz.prog hk 40 [(.agg [(ii n0),(ii n1),(.int .u8 n2),(ii n3),(ii n4),(ii n5),(ii n6),(ii n7),n8,n9,(ii n10),n11,n12,n13,n14,(ii n15),(ii n16),(ii n17),n18])] w K:=
 qJm (adv:=adv40) Tryz.func40 hn (Eq.mpr (by kernel_rfl) h)
def F53(hk:Hook)(n0 n1 n2 n3 n4 n5 n6 n7:Int)(n8 n9:AV)(n10:Int)(n11 n12 n13 n14:AV)(n15 n16 n17:Int)(n18:AV)(index19:Int)(w:AW)(K:AV→AW→Prop):Prop:=
 gd (List.all [(ii n0),(ii n1),(.int .u8 n2),(ii n3),(ii n4),(ii n5),(ii n6),(ii n7),n8,n9,(ii n10),n11,n12,n13,n14,(ii n15),(ii n16),(ii n17),n18] qJc) (
 new w [(ii n0),(ii n1),(.int .u8 n2),(ii n3),(ii n4),(ii n5),(ii n6),(ii n7),n8,n9,(ii n10),n11,n12,n13,n14,(ii n15),(ii n16),(ii n17),n18] fun b20 w21=>
 ∃x22:Int,ld w21 b20 (0+6)=some (ii x22)∧
 ∃x23:Int,ld w21 b20 (0+7)=some (ii x23)∧
 onM (ld w21 b20 (0+9)) fun x24=>
 Cl Tryz.prog hk 97 [(ii x22),(ii x23),x24,(ii index19)] w21 fun r25 w26=>
 ∃x27:Int,∃x28:Bool,r25= .tup [(ii x27),(.bool x28)]∧
 K (.tup [(ii x27),(.bool x28)]) w26)
def adv53:Adv:=(.sq .lf (.sq .lf .lf))
set_option maxRecDepth 100000 in
theorem in53 {hk:Hook}{n0 n1 n2 n3 n4 n5 n6 n7:Int}{n8 n9:AV}{n10:Int}{n11 n12 n13 n14:AV}{n15 n16 n17:Int}{n18:AV}{index19:Int}{w:AW}{K:AV→AW→Prop}(hn:hk 53 [(.agg [(ii n0),(ii n1),(.int .u8 n2),(ii n3),(ii n4),(ii n5),(ii n6),(ii n7),n8,n9,(ii n10),n11,n12,n13,n14,(ii n15),(ii n16),(ii n17),n18]),(ii index19)] w=none)(h:F53 hk n0 n1 n2 n3 n4 n5 n6 n7 n8 n9 n10 n11 n12 n13 n14 n15 n16 n17 n18 index19 w K):Cl Tryz.prog hk 53 [(.agg [(ii n0),(ii n1),(.int .u8 n2),(ii n3),(ii n4),(ii n5),(ii n6),(ii n7),n8,n9,(ii n10),n11,n12,n13,n14,(ii n15),(ii n16),(ii n17),n18]),(ii index19)] w K:=
 qJm (adv:=adv53) Tryz.func53 hn (Eq.mpr (by kernel_rfl) h)
def F66(hk:Hook)(match0:AV)(w:AW)(K:AV→AW→Prop):Prop:=
 gd (qJc match0) (
 new w [match0] fun b1 w2=>
 onM (ld w2 b1 0) fun x3=>
 Cl Tryz.prog hk 106 [x3] w2 fun r4 w5=>
 Cl Tryz.prog hk 105 [r4] w5 fun r6 w7=>
 Cl Tryz.prog hk 107 [r6] w7 fun r8 w9=>
 r8= .tup []∧
 ∃x10:Int,lenS r6=some (ii x10)∧
 zJ9 [(ii 0)] w9 fun R11 l_12 w13=>∃x14:Int,l_12=[(ii x14)]∧∀_:Nat→AV,
  ifT (decide (x14<x10)) (atP (idxS 1 r6 (ii x14)) fun b15 o16=>
  ∃n17:Int,ld w13 b15 o16=some (ii n17)∧
  onM (ld w13 b1 0) fun x18=>
  ∃x19:Int,lenS x18=some (ii x19)∧
  Cl Tryz.prog hk 104 [(ii n17),(.ptr b1 0)] w13 fun r20 w21=>
  ∃x22:Int,r20=(ii x22)∧
  ld w21 b1 0=some x18∧
  Cl Tryz.prog hk 108 [(ii x22),(ii x19)] w21 fun r23 w24=>
  ∃x25:Bool,r23=(.bool x25)∧
  ifT x25 (K (ii n17) w24)
  (R11 [(ii (wi (x14+1)))] w24))
  (K (ii 0) w13))
def adv66:Adv:=(.sq .lf (.sq .lf (.sq .lf (.sq .lf (.sq (.sq .lf (.bl (.lp [(15,.sc (.int .i64))] (.sq .lf (.sq (.cd .lf .lf) (.sq (.bl (.sq .lf (.sq .lf (.cd (.sq .lf .lf) .lf)))) .lf)))))) (.sq .lf .lf))))))
set_option maxRecDepth 100000 in
theorem in66 {hk:Hook}{match0:AV}{w:AW}{K:AV→AW→Prop}(hn:hk 66 [match0] w=none)(h:F66 hk match0 w K):Cl Tryz.prog hk 66 [match0] w K:=
 qJm (adv:=adv66) Tryz.func66 hn (Eq.mpr (by kernel_rfl) h)
def F79(hk:Hook)(base0:Int)(l_1:AV)(w:AW)(K:AV→AW→Prop):Prop:=
 ∃x2:Int,lenS l_1=some (ii x2)∧
 K (ii (wi (base0+x2))) w
def adv79:Adv:=(.sq .lf (.sq .lf .lf))
set_option maxRecDepth 100000 in
theorem in79 {hk:Hook}{base0:Int}{l_1:AV}{w:AW}{K:AV→AW→Prop}(hn:hk 79 [(ii base0),l_1] w=none)(h:F79 hk base0 l_1 w K):Cl Tryz.prog hk 79 [(ii base0),l_1] w K:=
 qJm (adv:=adv79) Tryz.func79 hn (Eq.mpr (by kernel_rfl) h)
def F80(hk:Hook)(s0 f1:AV)(w:AW)(K:AV→AW→Prop):Prop:=
 Cl Tryz.prog hk 110 [s0,f1] w fun r2 w3=>
 ∃x4:Int,r2=(ii x4)∧
 K (.bool (decide (0≤x4))) w3
def adv80:Adv:=(.sq .lf (.sq .lf .lf))
set_option maxRecDepth 100000 in
theorem in80 {hk:Hook}{s0 f1:AV}{w:AW}{K:AV→AW→Prop}(hn:hk 80 [s0,f1] w=none)(h:F80 hk s0 f1 w K):Cl Tryz.prog hk 80 [s0,f1] w K:=
 qJm (adv:=adv80) Tryz.func80 hn (Eq.mpr (by kernel_rfl) h)
def F81(hk:Hook)(x0:Int)(cap1 cap2:AV)(w:AW)(K:AV→AW→Prop):Prop:=
 onP cap1 fun b3 o4=>
 ∃x5:Int,ld w b3 o4=some (ii x5)∧
 ifT (decide (x0<x5)) (K (.bool true) w)
 (onP cap2 fun b6 o7=>
 ∃x8:Int,ld w b6 o7=some (ii x8)∧
 K (.bool (decide (x8<x0))) w)
def adv81:Adv:=(.sq .lf (.sq .lf .lf))
set_option maxRecDepth 100000 in
theorem in81 {hk:Hook}{x0:Int}{cap1 cap2:AV}{w:AW}{K:AV→AW→Prop}(hn:hk 81 [(ii x0),cap1,cap2] w=none)(h:F81 hk x0 cap1 cap2 w K):Cl Tryz.prog hk 81 [(ii x0),cap1,cap2] w K:=
 qJm (adv:=adv81) Tryz.func81 hn (Eq.mpr (by kernel_rfl) h)
def F82(hk:Hook)(s0:AV)(v1:Bool)(w:AW)(K:AV→AW→Prop):Prop:=
 Cl Tryz.prog hk 111 [s0,(.bool v1)] w fun r2 w3=>
 ∃x4:Int,r2=(ii x4)∧
 K (.bool (decide (0≤x4))) w3
def adv82:Adv:=(.sq .lf (.sq .lf .lf))
set_option maxRecDepth 100000 in
theorem in82 {hk:Hook}{s0:AV}{v1:Bool}{w:AW}{K:AV→AW→Prop}(hn:hk 82 [s0,(.bool v1)] w=none)(h:F82 hk s0 v1 w K):Cl Tryz.prog hk 82 [s0,(.bool v1)] w K:=
 qJm (adv:=adv82) Tryz.func82 hn (Eq.mpr (by kernel_rfl) h)
def F97(hk:Hook)(base0 baseTerm1:Int)(l_2:AV)(index3:Int)(w:AW)(K:AV→AW→Prop):Prop:=
 ifT (decide (index3=base0)) (K (.tup [(ii baseTerm1),(.bool true)]) w)
 (ifT (decide (index3<base0)) (K (.tup [(ii 0),(.bool false)]) w)
  (Cl Tryz.prog hk 79 [(ii base0),l_2] w fun r4 w5=>
  ∃x6:Int,r4=(ii x6)∧
  ifT (decide (x6<index3)) (K (.tup [(ii 0),(.bool false)]) w5)
  (be (wi ((wi (index3 - base0)) - 1)) fun x7=>
 atP (idxS 2 l_2 (ii x7)) fun b8 o9=>
 ∃x10:Int,ld w5 b8 (o9+0)=some (ii x10)∧
 K (.tup [(ii x10),(.bool true)]) w5)))
def adv97:Adv:=(.sq .lf (.sq (.bl (.sq .lf (.cd (.sq .lf .lf) (.sq .lf (.cd (.sq .lf .lf) .lf))))) (.sq .lf .lf)))
set_option maxRecDepth 100000 in
theorem in97 {hk:Hook}{base0 baseTerm1:Int}{l_2:AV}{index3:Int}{w:AW}{K:AV→AW→Prop}(hn:hk 97 [(ii base0),(ii baseTerm1),l_2,(ii index3)] w=none)(h:F97 hk base0 baseTerm1 l_2 index3 w K):Cl Tryz.prog hk 97 [(ii base0),(ii baseTerm1),l_2,(ii index3)] w K:=
 qJm (adv:=adv97) Tryz.func97 hn (Eq.mpr (by kernel_rfl) h)
def F104(hk:Hook)(n0:Int)(cap1:AV)(w:AW)(K:AV→AW→Prop):Prop:=
 onP cap1 fun b2 o3=>
 onM (ld w b2 o3) fun x4=>
 ∃x5:Int,lenS x4=some (ii x5)∧
 zJ9 [(ii 0),(ii 0)] w fun R6 l_7 w8=>∃k9 x10:Int,l_7=[(ii k9),(ii x10)]∧∀_:Nat→AV,
  ifT (decide (x10<x5)) (atP (idxS 1 x4 (ii x10)) fun b11 o12=>
  ∃m13:Int,ld w8 b11 o12=some (ii m13)∧
  ifT (decide (n0≤m13)) (R6 [(ii (wi (k9+1))),(ii (wi (x10+1)))] w8)
  (R6 [(ii k9),(ii (wi (x10+1)))] w8))
  (K (ii k9) w8)
def adv104:Adv:=(.sq .lf (.sq .lf (.sq (.sq .lf (.bl (.lp [(4,.sc (.int .i64)),(9,.sc (.int .i64))] (.sq .lf (.sq (.cd .lf .lf) (.sq (.bl (.sq .lf (.sq .lf (.cd .lf .lf)))) .lf)))))) (.sq .lf .lf))))
set_option maxRecDepth 100000 in
theorem in104 {hk:Hook}{n0:Int}{cap1:AV}{w:AW}{K:AV→AW→Prop}(hn:hk 104 [(ii n0),cap1] w=none)(h:F104 hk n0 cap1 w K):Cl Tryz.prog hk 104 [(ii n0),cap1] w K:=
 qJm (adv:=adv104) Tryz.func104 hn (Eq.mpr (by kernel_rfl) h)
def F105(hk:Hook)(seq0:AV)(w:AW)(K:AV→AW→Prop):Prop:=
 Cl Tryz.prog hk 121 [seq0] w fun r1 w2=>
 Cl Tryz.prog hk 122 [r1] w2 fun r3 w4=>
 r3= .tup []∧
 K r1 w4
def adv105:Adv:=(.sq .lf (.sq .lf (.sq .lf (.sq .lf .lf))))
set_option maxRecDepth 100000 in
theorem in105 {hk:Hook}{seq0:AV}{w:AW}{K:AV→AW→Prop}(hn:hk 105 [seq0] w=none)(h:F105 hk seq0 w K):Cl Tryz.prog hk 105 [seq0] w K:=
 qJm (adv:=adv105) Tryz.func105 hn (Eq.mpr (by kernel_rfl) h)
def F106(hk:Hook)(s0:AV)(w:AW)(K:AV→AW→Prop):Prop:=
 gd (qJc s0) (
 new w [s0] fun b1 w2=>
 K (.func 123 [] [(.ptr b1 0)]) w2)
def adv106:Adv:=(.sq .lf (.sq .lf .lf))
set_option maxRecDepth 100000 in
theorem in106 {hk:Hook}{s0:AV}{w:AW}{K:AV→AW→Prop}(hn:hk 106 [s0] w=none)(h:F106 hk s0 w K):Cl Tryz.prog hk 106 [s0] w K:=
 qJm (adv:=adv106) Tryz.func106 hn (Eq.mpr (by kernel_rfl) h)
def F107(hk:Hook)(s0:AV)(w:AW)(K:AV→AW→Prop):Prop:=
 ∃x1:Int,lenS s0=some (ii x1)∧
 zJ9 [(ii 0),(ii (wi (x1 - 1)))] w fun R2 l_3 w4=>∃i5 j6:Int,l_3=[(ii i5),(ii j6)]∧∀_:Nat→AV,
  ifT (decide (i5<j6)) (atP (idxS 1 s0 (ii j6)) fun b7 o8=>
  ∃x9:Int,ld w4 b7 o8=some (ii x9)∧
  atP (idxS 1 s0 (ii i5)) fun b10 o11=>
  ∃x12:Int,ld w4 b10 o11=some (ii x12)∧
  atP (idxS 1 s0 (ii i5)) fun b13 o14=>
  onM (AW.putCells w4 b13 o14 [(ii x9)]) fun w15=>
  atP (idxS 1 s0 (ii j6)) fun b16 o17=>
  onM (AW.putCells w15 b16 o17 [(ii x12)]) fun w18=>
  R2 [(ii (wi (i5+1))),(ii (wi (j6 - 1)))] w18)
  (K (.tup []) w4)
def adv107:Adv:=(.sq .lf (.bl (.lp [(2,.sc (.int .i64)),(3,.sc (.int .i64))] (.sq (.sq .lf (.cd .lf .lf)) (.sq (.bl .lf) .lf)))))
set_option maxRecDepth 100000 in
theorem in107 {hk:Hook}{s0:AV}{w:AW}{K:AV→AW→Prop}(hn:hk 107 [s0] w=none)(h:F107 hk s0 w K):Cl Tryz.prog hk 107 [s0] w K:=
 qJm (adv:=adv107) Tryz.func107 hn (Eq.mpr (by kernel_rfl) h)
def F108(hk:Hook)(n0 size1:Int)(w:AW)(K:AV→AW→Prop):Prop:=
 K (.bool (decide ((wi (size1 - n0))<n0))) w
def adv108:Adv:=(.sq .lf (.sq .lf .lf))
set_option maxRecDepth 100000 in
theorem in108 {hk:Hook}{n0 size1:Int}{w:AW}{K:AV→AW→Prop}(hn:hk 108 [(ii n0),(ii size1)] w=none)(h:F108 hk n0 size1 w K):Cl Tryz.prog hk 108 [(ii n0),(ii size1)] w K:=
 qJm (adv:=adv108) Tryz.func108 hn (Eq.mpr (by kernel_rfl) h)
def F110(hk:Hook)(s0 f1:AV)(w:AW)(K:AV→AW→Prop):Prop:=
 ∃x2:Int,lenS s0=some (ii x2)∧
 zJ9 [(ii 0)] w fun R3 l_4 w5=>∃x6:Int,l_4=[(ii x6)]∧∀_:Nat→AV,
  ifT (decide (x6<x2)) (atP (idxS 1 s0 (ii x6)) fun b7 o8=>
  ∃x9:Int,ld w5 b7 o8=some (ii x9)∧
  Cv Tryz.prog hk f1 [(ii x9)] w5 fun r10 w11=>
  ∃x12:Bool,r10=(.bool x12)∧
  ifT x12 (K (ii x6) w11)
  (R3 [(ii (wi (x6+1)))] w11))
  (K (ii (-1)) w5)
def adv110:Adv:=(.sq .lf (.sq (.sq .lf (.bl (.lp [(8,.sc (.int .i64))] (.sq .lf (.sq (.cd .lf .lf) (.sq (.bl (.sq .lf (.sq .lf (.cd (.sq .lf .lf) .lf)))) .lf)))))) (.sq .lf .lf)))
set_option maxRecDepth 100000 in
theorem in110 {hk:Hook}{s0 f1:AV}{w:AW}{K:AV→AW→Prop}(hn:hk 110 [s0,f1] w=none)(h:F110 hk s0 f1 w K):Cl Tryz.prog hk 110 [s0,f1] w K:=
 qJm (adv:=adv110) Tryz.func110 hn (Eq.mpr (by kernel_rfl) h)
def F111(hk:Hook)(s0:AV)(v1:Bool)(w:AW)(K:AV→AW→Prop):Prop:=
 ∃x2:Int,lenS s0=some (ii x2)∧
 zJ9 [(ii 0)] w fun R3 l_4 w5=>∃x6:Int,l_4=[(ii x6)]∧∀_:Nat→AV,
  ifT (decide (x6<x2)) (atP (idxS 1 s0 (ii x6)) fun b7 o8=>
  ∃x9:Bool,ld w5 b7 o8=some (.bool x9)∧
  ifT (v1==x9) (K (ii x6) w5)
  (R3 [(ii (wi (x6+1)))] w5))
  (K (ii (-1)) w5)
def adv111:Adv:=(.sq .lf (.sq (.sq .lf (.bl (.lp [(8,.sc (.int .i64))] (.sq .lf (.sq (.cd .lf .lf) (.sq (.bl (.sq .lf (.sq .lf (.cd (.sq .lf .lf) .lf)))) .lf)))))) (.sq .lf .lf)))
set_option maxRecDepth 100000 in
theorem in111 {hk:Hook}{s0:AV}{v1:Bool}{w:AW}{K:AV→AW→Prop}(hn:hk 111 [s0,(.bool v1)] w=none)(h:F111 hk s0 v1 w K):Cl Tryz.prog hk 111 [s0,(.bool v1)] w K:=
 qJm (adv:=adv111) Tryz.func111 hn (Eq.mpr (by kernel_rfl) h)
def F119(hk:Hook)(commit0 term1 base2 baseTerm3:Int)(l_4 match5:AV)(w:AW)(K:AV→AW→Prop):Prop:=
 Cl Tryz.prog hk 66 [match5] w fun r6 w7=>
 ∃x8:Int,r6=(ii x8)∧
 Cl Tryz.prog hk 79 [(ii base2),l_4] w7 fun r9 w10=>
 ∃x11:Int,r9=(ii x11)∧
 zJ9 [(ii (imin x8 x11))] w10 fun R12 l_13 w14=>∃n15:Int,l_13=[(ii n15)]∧∀_:Nat→AV,
  ifT (decide (commit0<n15)) (ifT (decide (base2≤n15)) (Cl Tryz.prog hk 97 [(ii base2),(ii baseTerm3),l_4,(ii n15)] w14 fun r16 w17=>
  ∃x18:Int,∃x19:Bool,r16= .tup [(ii x18),(.bool x19)]∧
  ifT x19 (ifT (decide (x18=term1)) (K (ii n15) w17)
  (R12 [(ii (wi (n15 - 1)))] w17))
  (R12 [(ii (wi (n15 - 1)))] w17))
  (K (ii commit0) w14))
  (K (ii commit0) w14)
def adv119:Adv:=(.sq .lf (.sq (.sq .lf (.bl (.lp [(13,.sc (.int .i64))] (.sq (.sq .lf (.cd .lf .lf)) (.sq (.bl (.sq .lf (.sq .lf (.cd (.sq .lf .lf) .lf)))) .lf))))) (.sq .lf .lf)))
set_option maxRecDepth 100000 in
theorem in119 {hk:Hook}{commit0 term1 base2 baseTerm3:Int}{l_4 match5:AV}{w:AW}{K:AV→AW→Prop}(hn:hk 119 [(ii commit0),(ii term1),(ii base2),(ii baseTerm3),l_4,match5] w=none)(h:F119 hk commit0 term1 base2 baseTerm3 l_4 match5 w K):Cl Tryz.prog hk 119 [(ii commit0),(ii term1),(ii base2),(ii baseTerm3),l_4,match5] w K:=
 qJm (adv:=adv119) Tryz.func119 hn (Eq.mpr (by kernel_rfl) h)
def F121(hk:Hook)(seq0:AV)(w:AW)(K:AV→AW→Prop):Prop:=
 Cl Tryz.prog hk 128 [.nilslice,seq0] w fun r1 w2=>
 K r1 w2
def adv121:Adv:=(.sq .lf (.sq .lf .lf))
set_option maxRecDepth 100000 in
theorem in121 {hk:Hook}{seq0:AV}{w:AW}{K:AV→AW→Prop}(hn:hk 121 [seq0] w=none)(h:F121 hk seq0 w K):Cl Tryz.prog hk 121 [seq0] w K:=
 qJm (adv:=adv121) Tryz.func121 hn (Eq.mpr (by kernel_rfl) h)
def F123(hk:Hook)(yield0 cap1:AV)(w:AW)(K:AV→AW→Prop):Prop:=
 onP cap1 fun b2 o3=>
 onM (ld w b2 o3) fun x4=>
 ∃x5:Int,lenS x4=some (ii x5)∧
 zJ9 [(ii 0)] w fun R6 l_7 w8=>∃x9:Int,l_7=[(ii x9)]∧∀_:Nat→AV,
  ifT (decide (x9<x5)) (atP (idxS 1 x4 (ii x9)) fun b10 o11=>
  ∃v12:Int,ld w8 b10 o11=some (ii v12)∧
  Cv Tryz.prog hk yield0 [(ii v12)] w8 fun r13 w14=>
  ∃x15:Bool,r13=(.bool x15)∧
  ifT (!x15) (K (.tup []) w14)
  (R6 [(ii (wi (x9+1)))] w14))
  (K (.tup []) w8)
def adv123:Adv:=(.sq .lf (.bl (.lp [(7,.sc (.int .i64))] (.sq .lf (.sq (.cd .lf .lf) (.sq (.bl (.sq .lf (.sq .lf (.cd .lf .lf)))) .lf))))))
set_option maxRecDepth 100000 in
theorem in123 {hk:Hook}{yield0 cap1:AV}{w:AW}{K:AV→AW→Prop}(hn:hk 123 [yield0,cap1] w=none)(h:F123 hk yield0 cap1 w K):Cl Tryz.prog hk 123 [yield0,cap1] w K:=
 qJm (adv:=adv123) Tryz.func123 hn (Eq.mpr (by kernel_rfl) h)
end Go.Proofs.YtghoifolghelnaaGreat
/-
 What the functions of this chapter do.
 No condition beyond those that each theorem names.
-/
open Go.Sx
namespace Go.Proofs.YtghoifolghelnaaGreat
def cL:Code→Code | .seq a _=>a | c=>c
def cR:Code→Code | .seq _ b=>b | c=>c
def cB:Code→Code | .block _ b=>b | c=>c
def cA:Code→Code | .rangeFunc _ _ a _=>a | c=>c
def cY:Code→Code | .rangeFunc _ _ _ b=>b | c=>c
noncomputable def b128:Code:=(Tryz.f128.body).getD .skip
noncomputable def rJk:Code:=cB (cR (cL (cR b128)))
theorem wQu:Tryz.f128.body=some (.seq (cL b128) (.seq (.seq (cL (cL (cR b128))) (.block 0 (.rangeFunc (.tmp 6) #[7] (cA rJk) (.block 1 (cB (cY rJk)))))) (.seq (cL (cR (cR b128))) .ret))):=by kernel_rfl
abbrev u:AV:=Go.Sx.undef
theorem r0_128(hk:Hook)(sv:AV)(w:AW)(K:zJo→Tm→AW→Prop):zJk Tryz.prog hk false 13 .lf (cL b128) [.nilslice,sv,u,u,u,u,u,u,u,u,u,u,u] w K=K .normal [.nilslice,sv,.ptr w.size 0,u,.nilslice,u,u,u,u,u,u,u,u] (newCells w [.nilslice]):=by kernel_rfl
theorem r1_128(hk:Hook)(sv p:AV)(w:AW)(K:zJo→Tm→AW→Prop):zJk Tryz.prog hk false 13 .lf (cL (cL (cR b128))) [.nilslice,sv,p,u,.nilslice,u,u,u,u,u,u,u,u] w K=K .normal [.nilslice,sv,p,u,.nilslice,u,sv,u,u,u,u,u,u] w:=by kernel_rfl
theorem r2_128(hk:Hook)(sv p x:AV)(w:AW)(K:zJo→Tm→AW→Prop):zJk Tryz.prog hk false 13 .lf (cA rJk) (zJx (#[7].toList.zip [x]) [.nilslice,sv,p,u,.nilslice,u,sv,u,u,u,u,u,u]) w K=K .normal [.nilslice,sv,p,u,.nilslice,x,sv,x,u,u,u,u,u] w:=by kernel_rfl
theorem r3_128(hk:Hook)(sv:AV)(b:Nat)(x:Int)(w:AW)(K:zJo→Tm→AW→Prop):zJk Tryz.prog hk false 13 (.bl .lf) (.block 1 (cB (cY rJk))) [.nilslice,sv,.ptr b 0,u,.nilslice,.int .i64 x,sv,.int .i64 x,u,u,u,u,u] w K=
  onM (ld w b 0) fun v=>new w [.int .i64 x] fun c w1=>onE (appS 1 8 w1 v (.slice c 0 1 1 none)) fun r w2=>gd (qJc r) (onM (AW.putCells w2 b 0 [r]) fun w3=>K .normal [.nilslice,sv,.ptr b 0,u,.nilslice,.int .i64 x,sv,.int .i64 x,v,.int .i64 x,.slice c 0 1 1 none,r,u] w3):=by kernel_rfl
theorem r4_128(hk:Hook)(sv:AV)(b:Nat)(w:AW)(K:zJo→Tm→AW→Prop):zJk Tryz.prog hk false 13 .lf (cL (cR (cR b128))) [.nilslice,sv,.ptr b 0,u,.nilslice,u,sv,u,u,u,u,u,u] w K=onM (ld w b 0) fun v=>K .normal [.nilslice,sv,.ptr b 0,u,v,u,sv,u,u,u,u,u,v] w:=by kernel_rfl
theorem s123 {hk:Hook}{w:AW}{y:AV}{b:Nat}{v:AV}{l:List Int}{K:AV→AW→Prop}(hn:hk 123 [y,.ptr b 0] w=none)(hs:l.length<2^62)(I:Nat→AW→Prop)(h0:I 0 w)
  (hrd:∀i w,I i w→Box w b [v]∧RsI w v l)
  (hstep:∀(i:Nat) (hi:i<l.length) w (Q:AW→Prop),I i w→(∀w',I (i+1) w'→Q w')→Cv Tryz.prog hk y [.int .i64 l[i]] w fun r w'=>r= .bool true∧Q w')
  (hK:∀w',I l.length w'→K (.tup []) w'):Cl Tryz.prog hk 123 [y,.ptr b 0] w K:=by
 apply in123 hn;unfold F123;obtain⟨hb,hl⟩:=hrd 0 w h0;refine qJd (v:=v) (by simp[hb.ld]) ⟨_,hl.len,?_⟩;refine qJr (fun m lv w'=>∃i:Nat,i≤l.length∧m=l.length - i∧lv=[.int .i64 i]∧I i w') ?_ ⟨0,yQz _,rfl,rfl,h0⟩;rintro m lv w' ⟨i,hi,rfl,rfl,hI⟩ R ih;refine⟨_,rfl,fun _=>qJh (fun h=>?_) fun h=>?_⟩
 ·have h:i<l.length:=by omega
  refine(hrd i w' hI).2.atN h fun b o hld=>⟨_,hld,?_⟩;have hc:=hstep i h w' (fun w2=>R [.int .i64 (wi (i+1))] w2) hI fun w2 h2=>ih (l.length - (i+1)) (by omega) _ _ ⟨i+1,h,rfl,by rw[qJq (by omega) (by omega)];rfl,h2⟩;have mono:∀{fv:AV} {xs:List AV} {w:AW} {K K':AV→AW→Prop},(∀v w,K v w→K' v w)→Cv Tryz.prog hk fv xs w K→Cv Tryz.prog hk fv xs w K':=fun {fv xs w K K2} h hc=>by
   cases fv<;>first | exact qJu _ _ _ (dJn h) hc | exact hc
  exact mono (fun r w2 hr=>⟨true,hr.1,hr.2⟩) hc
 ·have:i=l.length:=by omega
  subst this;exact hK w' hI
theorem s128 {hk:Hook}{w:AW}{b:Nat}{v:AV}{l:List Int}{K:AV→AW→Prop}(hn:hk 128 [.nilslice,.func 123 [] [.ptr b 0]] w=none)(hn123:∀a w,hk 123 a w=none)(hm:Mem w)(hb:Box w b [v])(hl:RsI w v l)(hs:l.length<2^40)
  (hK:∀v' w',Fr w.size w w'→Acc w.size w' 1 v' (l.map (AV.int .i64))→K v' w'):Cl Tryz.prog hk 128 [.nilslice,.func 123 [] [.ptr b 0]] w K:=by
 have hbl:=hb.lt hm;have hwpos:0<w.size:=by omega
 refine qJy (t:= .call _ _ _) ?_;show yJl Tryz.prog _ hk 128 _ w _;unfold yJl;rw[hn];refine⟨Tryz.f128,Tryz.func128,?_⟩;unfold kJv;rw[wQu];show wpL Tryz.prog hk (.code none _ ⟨[.nilslice,.func 123 [] [.ptr b 0],u,u,u,u,u,u,u,u,u,u,u],[],w⟩) _;refine sJ0 (n:=13) (Kn:=fun t' w'=>t'=[.nilslice,.func 123 [] [.ptr b 0],.ptr w.size 0,u,.nilslice,u,u,u,u,u,u,u,u]∧w'=newCells w [.nilslice]) (by rw[r0_128];exact⟨rfl,rfl,rfl⟩) fun t' w' h=>?_;obtain⟨rfl,rfl⟩:=h;have hm1:Mem (newCells w [.nilslice]):=(Fr.push hm fun cs' f own d e=>by cases e;exact yQm _).mem;have hsz1:(newCells w [AV.nilslice]).size=w.size+1:=rfl;have hf1:Fr w.size w (newCells w [.nilslice]):=Fr.push hm fun cs' f own d e=>by cases e;exact yQm _
 have hbx1:Box (newCells w [.nilslice]) w.size [.nilslice]:=by simp[Box,newCells,qJ4]
 generalize newCells w [.nilslice]=w1 at *
 -- the range, and what is behind it
 refine qJy (t:= .code none _ _) (show wpL Tryz.prog hk (.code none _ _) _ from ?_);refine sJ0 (n:=13) (Kn:=fun t' w'=>t'=[.nilslice,.func 123 [] [.ptr b 0],.ptr w.size 0,u,.nilslice,u,.func 123 [] [.ptr b 0],u,u,u,u,u,u]∧w'=w1) (by rw[r1_128];exact⟨rfl,rfl,rfl⟩) fun t' w' h=>?_;obtain⟨rfl,rfl⟩:=h;refine qJy (t:= .code none (.block 0 _) _) (show wpL Tryz.prog hk (.code none _ _) _ from ?_);refine qJy (t:= .code none (.rangeFunc _ _ _ _) _) ?_
 let T:Tm:=[.nilslice,.func 123 [] [.ptr b 0],.ptr w.size 0,u,.nilslice,u,.func 123 [] [.ptr b 0],u,u,u,u,u,u]
 let R0:LoopA:=⟨.ready,none,0,T,[7],cA rJk,.block 1 (cB (cY rJk)),w'.size⟩
 refine⟨w'.size,[w'.size],w'.push .deferred,.func 123 [] [.ptr b 0],rfl,rfl,?_⟩;show wpL Tryz.prog hk (.call 123 ([]++([.yield (w'.push .deferred).size]++[.ptr b 0])) ((w'.push .deferred).push R0.ob)) (valK _);have hm2:Mem (w'.push .deferred):=hm1.push fun cs f own d e=>by cases e
 have hm3:Mem ((w'.push .deferred).push R0.ob):=hm2.push fun cs f own d e=>by cases e
 have hf3:Fr w'.size w' ((w'.push .deferred).push R0.ob):=(Fr.push hm1 fun cs f own d e=>by cases e).trans (Fr.push hm2 fun cs f own d e=>by cases e) (by simp);have hl3:((w'.push .deferred).push R0.ob).get (w'.size+1)=some R0.ob:=by simp
 have hd3:((w'.push .deferred).push R0.ob).get w'.size=some .deferred:=by simp
 have hz:(w'.push .deferred).size=w'.size+1:=by simp
 rw[hz]
 -- what holds when i items have come
 refine s123 (hn123 _ _) (by omega) (fun i x=>Mem x∧Fr w.size w x∧w'.size≤x.size∧x.get (w'.size+1)=some R0.ob∧x.get w'.size=some .deferred∧∃a,Box x w.size [a]∧Acc w.size x 1 a ((l.take i).map (AV.int .i64))∧blk a≠some w.size)
  ⟨hm3,(hf1.trans hf3 (by omega)),by simp;omega,hl3,hd3,.nilslice,hbx1.fr hf3 (by omega),Acc.nil,by simp[blk]⟩ (fun i x hI=>⟨hb.fr hI.2.1 hbl,hl.fr hm hI.2.1 (yQm _)⟩) ?_ ?_
 ·rintro i hi x Q ⟨i1,i2,i3,i4,i5,a,i6,i7,i8⟩ hQ;show wpL Tryz.prog hk (.yield (w'.size+1) _ x) (valK _);refine zQp (n:=13) (r:=R0) (t2:=[.nilslice,.func 123 [] [.ptr b 0],.ptr w.size 0,u,.nilslice,.int .i64 l[i],.func 123 [] [.ptr b 0],.int .i64 l[i],u,u,u,u,u]) (by unfold zJ4;rw[i4];rfl) rfl rfl (fun Kn hKn=>by
   show zJk Tryz.prog hk false 13 .lf (cA rJk) (zJx (#[7].toList.zip [.int .i64 l[i]]) [.nilslice,.func 123 [] [.ptr b 0],.ptr w.size 0,u,.nilslice,u,.func 123 [] [.ptr b 0],u,u,u,u,u,u]) x _;rw[r2_128];exact⟨rfl,hKn⟩) ?_
  -- the body
  let R1:LoopA:={R0 with st:= .busy}
  have hxl:w'.size+1<x.size:=i1.lt _ _ i4;have hm4:Mem (x.set (w'.size+1) R1.ob):=i1.set hxl fun cs f own d e=>by cases e
  have hg4:∀c,c≠w'.size+1→(x.set (w'.size+1) R1.ob).get c=x.get c:=fun c hc=>by simp[hc]
  have hl4:(x.set (w'.size+1) R1.ob).get (w'.size+1)=some R1.ob:=by simp
  have hf4:Fr w.size x (x.set (w'.size+1) R1.ob):=⟨yQm _,fun c hc=>hg4 c (by omega),hm4⟩;have hbx4:Box (x.set (w'.size+1) R1.ob) w.size [a]:=by unfold Box;rw[hg4 _ (by omega)];exact i6
  have hd4:(x.set (w'.size+1) R1.ob).get w'.size=some .deferred:=by rw[hg4 _ (by omega)];exact i5
  have hacc4:Acc w.size (x.set (w'.size+1) R1.ob) 1 a ((l.take i).map (AV.int .i64)):=by
   rcases i7 with h | ⟨c,f,n,o,d,h1,h2,h3,h4,h5,h6,h7⟩
   ·exact .inl h
   ·obtain⟨c0,hc0,_⟩:=AW.root?_iff.1 h7;have n1:c≠w'.size+1:=fun e=>by rw[e,i4]at h6;cases h6
    have n2:f≠w'.size+1:=fun e=>by rw[e,i4]at hc0;cases hc0
    exact .inr ⟨c,f,n,o,d,h1,h2,h3,h4,h5,by rw[hg4 _ n1];exact h6,by rw[AW.root?_congr (hg4 _ n2)];exact h7⟩
  have hsz4:(x.set (w'.size+1) R1.ob).size=x.size:=rfl;show vJm Tryz.prog hk (some (w'.size+1)) (.block 1 (cB (cY rJk))) _ [] (x.set (w'.size+1) R1.ob) _;generalize x.set (w'.size+1) R1.ob=y at *;refine xJe (fun e t w2 h=>h.2) (zJw (big:=false) (n:=13) (a:= .bl .lf) (t:=[.nilslice,.func 123 [] [.ptr b 0],.ptr w.size 0,u,.nilslice,.int .i64 l[i],.func 123 [] [.ptr b 0],.int .i64 l[i],u,u,u,u,u]) ?_);rw[r3_128];refine qJd (v:=a) (by rw[hbx4.ld];rfl) (new_of hm4 fun y1 f1 b1 z1=>?_);have hrs:Rs y1 1 1 (.slice y.size 0 1 1 none) [.int .i64 l[i]]:= .inr ⟨y.size,0,1,none,_,rfl,b1.cells,by simp,rfl⟩;have hlen:((l.take i).map (AV.int .i64)).length / 1=i:=by simp;omega
  refine Acc.app (hacc4.fr hm4 f1 (yQm _)) f1.mem (by omega) (by omega) (by omega) hrs (by rw[hlen];omega) (by rw[hlen];omega) fun a' y2 hacc hgrow=>gd_t ?_ ?_
  ·rcases hacc with⟨rfl,_⟩ | ⟨c,f,n,o,d,rfl,_⟩<;>rfl
  have hbx5:Box y2 w.size [a]:=hgrow.box _ _ (hbx4.fr f1 (by omega)) i8;have hne:blk a'≠some w.size:=by
   intro e;have:=hgrow.blk _ e (by omega);rw[this]at e;exact i8 e
  have hput:=hbx5.put (o:=0) (vs:=[a']) (by omega) (by simp);refine qJd hput ?_;have hl5:y2.get (w'.size+1)=some R1.ob:=hgrow.obj _ _ ((f1.old _ (by omega)).trans hl4) fun cs f own d e=>by cases e
  have hd5:y2.get w'.size=some .deferred:=hgrow.obj _ _ ((f1.old _ (by omega)).trans hd4) fun cs f own d e=>by cases e
  have hm5:=hgrow.fr.mem;have hw5:w.size<y2.size:=hbx5.lt hm5;refine⟨rfl,R1,by unfold zJ4;simp only[AW.set_get];rw[if_neg (by omega),hl5];rfl,rfl,hQ _ ?_⟩
  -- the memory behind
  have hlp:qJg [a] 0 [a']=[a']:=rfl;rw[hlp];have hg6:∀c,c≠w.size→c≠w'.size+1→((y2.set w.size (.cells [a'] w.size w.size false)).set (w'.size+1) R0.ob).get c=y2.get c:=fun c h1 h2=>by simp[h1,h2]
  have hxl2:w'.size+1<y2.size:=hm5.lt _ _ hl5;have hm6:Mem ((y2.set w.size (.cells [a'] w.size w.size false)).set (w'.size+1) R0.ob):=(hm5.set hw5 fun cs f own d e=>by cases e;exact yQm _).set hxl2 fun cs f own d e=>by cases e
  refine⟨hm6,⟨?_,fun c hc=>?_,hm6⟩,?_,by simp;rfl,?_,a',?_,?_,hne⟩
  ·have h1:=i2.size;have h2:=hgrow.fr.size;simp only[AW.set_size];omega
  ·rw[hg6 c (by omega) (by omega),hgrow.fr.old c hc,f1.old c (by omega),hf4.old c hc,i2.old c hc]
  ·have h2:=hgrow.fr.size;simp only[AW.set_size];omega
  ·rw[hg6 _ (by omega) (by omega)];exact hd5
  ·unfold Box;simp only[AW.set_get];rw[if_neg (by omega)];simp
  ·have:(l.take (i+1)).map (AV.int .i64)=(l.take i).map (AV.int .i64)++[.int .i64 l[i]]:=by rw[←List.take_append_getElem hi,List.map_append];rfl
   rw[this];rcases hacc with h | ⟨c,f,n,o,d,h1,h2,h3,h4,h5,h6,h7⟩
   ·exact .inl h
   ·obtain⟨c0,hc0,_⟩:=AW.root?_iff.1 h7;have n1:c≠w'.size+1:=fun e=>by rw[e,hl5]at h6;cases h6
    have n2:f≠w'.size+1:=fun e=>by rw[e,hl5]at hc0;cases hc0
    have n3:c≠w.size:=fun e=>hne (by rw[h1,e];rfl);have n4:f≠w.size:=fun e=>by
     rw[e]at hc0;have:=hbx5;unfold Box at this;rw[hc0]at this;cases this;exact n3 rfl
    exact .inr ⟨c,f,n,o,d,h1,h2,h3,h4,h5,by rw[hg6 _ n3 n1];exact h6,by rw[AW.root?_congr (hg6 _ n4 n2)];exact h7⟩
 ·rintro x ⟨i1,i2,i3,i4,i5,a,i6,i7,i8⟩;rw[gQi]at i7;refine⟨R0,by unfold zJ4;rw[i4];rfl,by simp[R0],?_⟩;have hxl:w'.size+1<x.size:=i1.lt _ _ i4;have hg4:∀c o,c≠w'.size+1→(x.set (w'.size+1) o).get c=x.get c:=fun c o hc=>by simp[hc]
  show wpL Tryz.prog hk (.code none (.seq (cL (cR (cR b128))) .ret) ⟨_,[w'.size],x.set (w'.size+1) _⟩) _;refine sJ0 (n:=13) (Kn:=fun t' w2=>t'=[.nilslice,.func 123 [] [.ptr b 0],.ptr w.size 0,u,a,u,.func 123 [] [.ptr b 0],u,u,u,u,u,a]∧w2=x.set (w'.size+1) (LoopA.ob {R0 with st:= .exhausted})) (by
   have hbx:Box (x.set (w'.size+1) (LoopA.ob {R0 with st:= .exhausted})) w.size [a]:=by unfold Box;rw[hg4 _ _ (by omega)];exact i6
   rw[r4_128];exact qJd (v:=a) (by rw[hbx.ld];rfl) ⟨rfl,rfl,rfl⟩) fun t' w2 h=>?_
  obtain⟨rfl,rfl⟩:=h;refine qJy (t:= .code none .ret _) ?_
  let x1:=x.set (w'.size+1) (LoopA.ob {R0 with st:= .exhausted})
  have hd:x1.get w'.size=some .deferred:=by rw[hg4 _ _ (by omega)];exact i5
  refine⟨.inr rfl,x1.set w'.size .gone,[a],by simp only[kJj];rw[hd],rfl,?_⟩;have hg7:∀c,c≠w'.size+1→c≠w'.size→(x1.set w'.size .gone).get c=x.get c:=fun c h1 h2=>by simp[x1,h1,h2]
  have hm7:Mem (x1.set w'.size .gone):=(i1.set hxl fun cs f own d e=>by cases e).set (by show w'.size<x.size;omega) fun cs f own d e=>by cases e
  refine hK _ _ ⟨by simp only[x1,AW.set_size];exact i2.size,fun c hc=>by rw[hg7 c (by omega) (by omega)];exact i2.old c hc,hm7⟩ ?_;rcases i7 with h | ⟨c,f,n,o,d,h1,h2,h3,h4,h5,h6,h7⟩
  ·exact .inl h
  ·obtain⟨c0,hc0,_⟩:=AW.root?_iff.1 h7;have n1:c≠w'.size+1:=fun e=>by rw[e,i4]at h6;cases h6
   have n2:f≠w'.size+1:=fun e=>by rw[e,i4]at hc0;cases hc0
   have n3:c≠w'.size:=fun e=>by rw[e,i5]at h6;cases h6
   have n4:f≠w'.size:=fun e=>by rw[e,i5]at hc0;cases hc0
   exact .inr ⟨c,f,n,o,d,h1,h2,h3,h4,h5,by rw[hg7 _ n1 n3];exact h6,by rw[AW.root?_congr (hg7 _ n2 n4)];exact h7⟩
end Go.Proofs.YtghoifolghelnaaGreat
/-
 What the functions of this chapter do.
 No condition beyond those that each theorem names.
-/
open Go.Sx
namespace Go.Proofs.YtghoifolghelnaaGreat
def cnt(n:Int)(l:List Int):Nat:=(l.filter fun m=>decide (n≤m)).length
theorem xQs(n m:Int)(l:List Int):cnt n (l++[m])=cnt n l+if n≤m then 1 else 0:=by
 unfold cnt;rw[List.filter_append];by_cases h:n≤m<;>simp[h]
theorem vQ8(n:Int)(l:List Int):cnt n l≤l.length:=List.length_filter_le _ _
theorem eJm {α:Type}{l:List α}{i:Nat}(h:i<l.length):l.take (i+1)=l.take i++[l[i]]:=by rw[List.take_append_getElem h]
theorem s104 {hk:Hook}{w:AW}{n:Int}{b:Nat}{v:AV}{l:List Int}{K:AV→AW→Prop}(hn:hk 104 [.int .i64 n,.ptr b 0] w=none)(hb:Box w b [v])(hl:RsI w v l)(hs:l.length<2^62)
  (hK:K (.int .i64 (cnt n l)) w):Cl Tryz.prog hk 104 [.int .i64 n,.ptr b 0] w K:=by
 apply in104 hn;unfold F104;refine qJd (v:=v) (by simp[hb.ld]) ⟨_,hl.len,?_⟩;refine qJr (fun m lv w'=>w'=w∧∃i:Nat,i≤l.length∧m=l.length - i∧lv=[.int .i64 (cnt n (l.take i)),.int .i64 i]) ?_ ⟨rfl,0,yQz _,rfl,rfl⟩;rintro m lv w' ⟨rfl,i,hi,rfl,rfl⟩ R ih;have hc:=vQ8 n (l.take i);simp at hc;refine⟨_,_,rfl,fun _=>qJh (fun h=>?_) fun h=>?_⟩
 ·have h:i<l.length:=by omega
  have hstep:=xQs n l[i] (l.take i);rw[←eJm h]at hstep;refine hl.atN h fun b o hld=>⟨_,hld,qJh (fun h2=>?_) fun h2=>?_⟩
  all_goals
   refine ih (l.length - (i+1)) (by omega) _ _ ⟨rfl,i+1,h,rfl,?_⟩;rw[hstep];simp only[h2,if_true,if_false];simp
  ·rw[qJq (by omega) (by omega),qJq (by omega) (by omega)];exact⟨rfl,rfl⟩
  ·rw[qJq (by omega) (by omega)]
 ·have:i=l.length:=by omega
  subst this;rw[gQi];exact hK
structure HK(hk:Hook):Prop where
 no:∀f a w,f≠9→f≠122→hk f a w=none
 sort:∀a w x,kJn w a=some x→hk 122 a w=some (some x)
 awake:∀w,hk 9 [] w=some (some (.bool true,w))
theorem s106 {hk:Hook}{w:AW}{v:AV}{K:AV→AW→Prop}(hh:HK hk)(hm:Mem w)(hv:qJc v=true)
  (hK:∀w',Fr w.size w w'→Box w' w.size [v]→w'.size=w.size+1→K (.func 123 [] [.ptr w.size 0]) w'):Cl Tryz.prog hk 106 [v] w K:=
 in106 (hh.no _ _ _ (by decide) (by decide)) (gd_t hv (new_of hm fun w' h1 h2 h3=>hK w' h1 h2 h3))
theorem zQ7 {n0:Nat}{w:AW}{b n cap:Nat}{ex:Option Nat}{cs:List AV}(h:Own n0 w 1 (.slice b 0 n cap ex) cs):w.read b 0 n=some cs:=by
 rcases h with⟨h,_⟩ | ⟨b',n',cap',ex',f,o,d,dd,h0,h1,h2,h3,h4,h5⟩
 ·cases h
 cases h0;have hcells:w.cells? b=some cs:=AW.cells?_iff.2 ⟨(f,b,dd),o,d,AW.fam?_iff.2 ⟨cs,o,d,h4,h5⟩,.inr rfl,h4⟩;unfold AW.read;rw[hcells];simp only[];have hn:n=cs.length:=by simpa using h1
 rw[qJ6 (by omega),List.drop_zero,hn,gQi]
theorem s105 {hk:Hook}{w:AW}{b:Nat}{v:AV}{l:List Int}{K:AV→AW→Prop}(hh:HK hk)(hm:Mem w)(hb:Box w b [v])(hl:RsI w v l)(hs:l.length<2^40)
  (hK:∀v' w',Fr w.size w w'→Own w.size w' 1 v' ((sortI l).map (AV.int .i64))→K v' w'):Cl Tryz.prog hk 105 [.func 123 [] [.ptr b 0]] w K:=by
 refine in105 (hh.no _ _ _ (by decide) (by decide)) (in121 (hh.no _ _ _ (by decide) (by decide)) (s128 (hh.no _ _ _ (by decide) (by decide)) (fun _ _=>hh.no _ _ _ (by decide) (by decide)) hm hb hl hs fun v' w1 hf ha=>?_));have hm1:=hf.mem;have ho:=ha.own;rcases ha with⟨rfl,hnil⟩ | ⟨b',f,n,o,d,rfl,h1,h2,h3,h4,h5,h6⟩
 ·have:l=[]:=by simpa using hnil
  subst this;exact tJn (hh.sort _ _ _ rfl) ⟨rfl,hK _ _ hf (.inl ⟨rfl,by simp[sortI]⟩)⟩
 ·have hn:n=l.length:=by simpa using h1
  obtain⟨w2,hw,hf2,ho2,hsz⟩:=ho.put hm1 (i:=0) (vs:=(sortI l).map (AV.int .i64)) (by simp[vJq]);have hlp:qJg (l.map (AV.int .i64)) 0 ((sortI l).map (AV.int .i64))=(sortI l).map (AV.int .i64):=by simp[qJg,vJq]
  rw[hlp]at ho2;refine tJn (hh.sort _ _ (Go.Sx.undef,w2) ?_) ⟨rfl,hK _ _ (hf.trans hf2 (yQm _)) ho2⟩;simp only[kJn];rw[if_neg (by omega),zQ7 ho];simp only[Option.bind_some,hJo];rw[if_pos (by omega),hw];rfl
def swapped(i:Nat)(l c:List Int):Prop:=c.length=l.length∧∀k,k<l.length→c.getD k 0=if k<i∨l.length - i≤k then l.getD (l.length - 1 - k) 0 else l.getD k 0
theorem lJl(l:List Int)(k:Nat)(h:k<l.length):(l.map (AV.int .i64))[k]? =some (.int .i64 (l.getD k 0)):=by
 rw[gQn,yQn h,yQj,yQn h];rfl
theorem bJn(c:List Int)(i:Nat)(x:Int)(h:i<c.length):qJg (c.map (AV.int .i64)) i [.int .i64 x]=(c.set i x).map (AV.int .i64):=by
 unfold qJg;rw[List.set_eq_take_append_cons_drop,if_pos h];simp[List.map_take,List.map_drop]
theorem s107 {hk:Hook}{w:AW}{n0:Nat}{v:AV}{l:List Int}{K:AV→AW→Prop}(hh:HK hk)(hm:Mem w)(hl:Own n0 w 1 v (l.map (AV.int .i64)))(hs:l.length<2^40)
  (hK:∀w',Fr n0 w w'→Own n0 w' 1 v (l.reverse.map (AV.int .i64))→K (.tup []) w'):Cl Tryz.prog hk 107 [v] w K:=by
 apply in107 (hh.no _ _ _ (by decide) (by decide));unfold F107;have hlen:lenS v=some (.int .i64 l.length):=by have:=(hl.rs (by decide)).len;simpa using this
 refine⟨_,hlen,?_⟩;refine qJr (fun m lv w'=>∃(i:Nat) (c:List Int),i≤l.length∧m=l.length - i∧lv=[.int .i64 i,.int .i64 ((l.length:Int) - 1 - i)]∧(2 * i≤l.length+1)∧swapped i l c∧Fr n0 w w'∧Own n0 w' 1 v (c.map (AV.int .i64))) ?_
  ⟨0,l,yQz _,rfl,by rw[qJq (by omega) (by omega)];simp,by omega,⟨rfl,fun k hk=>by rw[if_neg (by omega)]⟩,Fr.refl hm,hl⟩
 rintro m lv w' ⟨i,c,hi,rfl,rfl,h2i,⟨hcl,hc⟩,hf,ho⟩ R ih;refine⟨_,_,rfl,fun _=>qJh (fun h=>?_) fun h=>?_⟩
 ·-- two items change places
  have hj:((l.length:Int) - 1 - i)=((l.length - 1 - i:Nat):Int):=by omega
  rw[hj]at h ⊢;have hij:i<l.length - 1 - i:=by omega
  rcases ho with⟨rfl,hnil⟩ | ⟨b,n,cap,ex,f,o,d,dd,rfl,h1,h2,h3,h4,h5⟩
  ·have:c=[]:=by simpa using hnil
   subst this;simp at hcl;omega
  have hn:n=l.length:=by rw[Nat.mul_one,yQr]at h1;omega
  have ho:Own n0 w' 1 (.slice b 0 n cap ex) (c.map (AV.int .i64)):= .inr ⟨b,n,cap,ex,f,o,d,dd,rfl,h1,h2,h3,h4,h5⟩;have hcells:w'.cells? b=some (c.map (AV.int .i64)):=AW.cells?_iff.2 ⟨(f,b,dd),o,d,AW.fam?_iff.2 ⟨_,o,d,h4,h5⟩,.inr rfl,h4⟩;have rd:∀k,k<l.length→ld w' b (0+k * 1)=some (.int .i64 (c.getD k 0)):=fun k hk=>by
   unfold ld;rw[hcells,Option.bind_some,Nat.zero_add,Nat.mul_one,lJl _ _ (by omega)]
  have pl:∀k:Nat,k<l.length→idxS 1 (.slice b 0 n cap ex) (.int .i64 (k:Int))=some (.ptr b (0+k * 1)):=fun k hk=>ho.at (by omega);rw[vJg];refine⟨_,_,pl _ (by omega),_,rd _ (by omega),?_⟩;rw[vJg];refine⟨_,_,pl _ (by omega),_,rd _ (by omega),?_⟩;rw[vJg];refine⟨_,_,pl _ (by omega),?_⟩;rw[Nat.zero_add,Nat.mul_one];obtain⟨w1,hw1,hf1,ho1,hs1⟩:=ho.put hf.mem (i:=i) (vs:=[.int .i64 (c.getD (l.length - 1 - i) 0)]) (by simp;omega);refine qJd hw1 ?_;rw[bJn _ _ _ (by omega)]at ho1;rw[vJg];refine⟨_,_,pl _ (by omega),?_⟩;rw[Nat.zero_add,Nat.mul_one];obtain⟨w2,hw2,hf2,ho2,hs2⟩:=ho1.put hf1.mem (i:=l.length - 1 - i) (vs:=[.int .i64 (c.getD i 0)]) (by simp;omega);refine qJd hw2 ?_;rw[bJn _ _ _ (by simp;omega)]at ho2;refine ih (l.length - (i+1)) (by omega) _ _ ⟨i+1,_,by omega,rfl,?_,by omega,⟨by simp[hcl],fun k hk=>?_⟩,(hf.trans hf1 (yQm _)).trans hf2 (yQm _),ho2⟩
  ·rw[qJq (by omega) (by omega),qJq (by omega) (by omega)];congr 2;congr 1;omega
  ·have hck:=hc k hk;have hci:=hc i (by omega);have hcj:=hc (l.length - 1 - i) (by omega);simp only[yQj]at *;by_cases e1:k=l.length - 1 - i
   ·subst e1;rw[List.getElem?_set_self (by simp;omega)];rw[if_pos (by omega)];simp only[Option.getD_some];rw[hci,if_neg (by omega)];congr 2;omega
   ·rw[List.getElem?_set_ne (Ne.symm e1)];by_cases e2:k=i
    ·subst e2;rw[List.getElem?_set_self (by omega),if_pos (by omega)];simp only[Option.getD_some];rw[hcj,if_neg (by omega)]
    ·rw[List.getElem?_set_ne (Ne.symm e2),hck];by_cases e3:k<i∨l.length - i≤k
     ·rw[if_pos e3,if_pos (by omega)]
     ·rw[if_neg e3,if_neg (by omega)]
 ·have:c=l.reverse:=by
   apply List.ext_getElem (by simp[hcl]);intro k h1 h2;have hck:=hc k (by omega);have hk:k<l.length:=by omega
   simp only[yQj,yQn h1,Option.getD_some]at hck;rw[hck,List.getElem_reverse];by_cases e3:k<i∨l.length - i≤k
   ·rw[if_pos e3,yQn (by omega)];rfl
   ·rw[if_neg e3,yQn hk];simp only[Option.getD_some];congr 1;omega
  subst this;exact hK w' hf ho
end Go.Proofs.YtghoifolghelnaaGreat
/-
 What the functions of this chapter do.
 No condition beyond those that each theorem names.
-/
open Go.Sx
namespace Go.Proofs.YtghoifolghelnaaGreat
def kJh(l:List Int)(r:Int):Prop:=(l=[]∧r=0)∨(r∈l∧l.length<2 * cnt r l∧∀x∈l,l.length<2 * cnt x l→x≤r)
theorem kJh.uniq {l:List Int}{r r':Int}(h:kJh l r)(h':kJh l r'):r=r':=by
 rcases h with⟨rfl,rfl⟩ | ⟨h1,h2,h3⟩
 ·rcases h' with⟨_,rfl⟩ | ⟨h1,_⟩
  ·rfl
  ·simp at h1
 ·rcases h' with⟨rfl,rfl⟩ | ⟨g1,g2,g3⟩
  ·simp at h1
  ·have a:=h3 _ g1 g2;have b:=g3 _ h1 h2;omega
theorem xQt(n:Int){l l':List Int}(h:l.Perm l'):cnt n l=cnt n l':=(h.filter _).length_eq
theorem s108 {hk:Hook}{w:AW}{k n:Nat}{K:AV→AW→Prop}(hh:HK hk)(hkn:k≤n)(hs:n<2^62)(hK:K (.bool (decide (n<2 * k))) w):Cl Tryz.prog hk 108 [.int .i64 k,.int .i64 n] w K:=by
 apply in108 (hh.no _ _ _ (by decide) (by decide));unfold F108;rw[qJq (by omega) (by omega)];have:decide (((n:Int) - k)<k)=decide (n<2 * k):=by rw[decide_eq_decide];omega
 rw[this];exact hK
theorem nJ7(l:List Int):(sortI l).reverse.Pairwise fun a b=>b≤a:=by
 have h:=List.pairwise_mergeSort (le:=fun x y:Int=>decide (x≤y)) (fun a b c h1 h2=>by simp at *;omega) (fun a b=>by simp;omega) l;rw[List.pairwise_reverse];exact h.imp fun h=>by simpa using h
theorem nJ6(l:List Int):(sortI l).reverse.Perm l:=(List.reverse_perm _).trans (List.mergeSort_perm l _)
theorem iJf {l sd:List Int}(hp:sd.Perm l)(hd:sd.Pairwise fun a b=>b≤a){i:Nat}(hi:i<sd.length)(hno:∀k (hk:k<i),¬ l.length<2 * cnt (sd[k]'(by omega)) l)(hy:l.length<2 * cnt sd[i] l):kJh l sd[i]:=by
 refine .inr ⟨hp.mem_iff.1 (gQp hi),hy,fun x hx h=>?_⟩;obtain⟨k,hk,rfl⟩:=List.getElem_of_mem (hp.mem_iff.2 hx);by_cases hki:k<i
 ·exact absurd h (hno k hki)
 ·by_cases e:k=i
  ·subst e;exact yQo _
  ·exact List.pairwise_iff_getElem.1 hd i k hi hk (by omega)
theorem eJ0 {l sd:List Int}(hp:sd.Perm l)(hd:sd.Pairwise fun a b=>b≤a)(hno:∀k (hk:k<sd.length),¬ l.length<2 * cnt sd[k] l):kJh l 0:=by
 by_cases hl:l=[]
 ·exact .inl ⟨hl,rfl⟩
 ·exfalso;have hpos:0<sd.length:=by rw[hp.length_eq];exact List.length_pos_iff.2 hl
  have h:=hno (sd.length - 1) (by omega);apply h;have:cnt sd[sd.length - 1] l=l.length:=by
   rw[←xQt _ hp,←hp.length_eq];unfold cnt;rw[List.filter_eq_self.2];intro x hx;obtain⟨k,hk,rfl⟩:=List.getElem_of_mem hx;by_cases e:k=sd.length - 1
   ·subst e;simp
   ·simpa using List.pairwise_iff_getElem.1 hd k (sd.length - 1) hk (by omega) (by omega)
  rw[this];have:=hp.length_eq;omega
theorem s66 {hk:Hook}{w:AW}{v:AV}{l:List Int}{K:AV→AW→Prop}(hh:HK hk)(hm:Mem w)(hl:RsI w v l)(hs:l.length<2^40)
  (hK:∀r w',kJh l r→Fr w.size w w'→K (.int .i64 r) w'):Cl Tryz.prog hk 66 [v] w K:=by
 apply in66 (hh.no _ _ _ (by decide) (by decide));unfold F66;refine gd_t hl.ok (new_of hm fun w2 f2 b2 z2=>qJd (v:=v) (by rw[b2.ld];rfl) ?_);have hl2:=hl.fr hm f2 (yQm _);refine s106 hh f2.mem hl2.ok fun w5 f5 b5 z5=>?_;have hl5:=hl2.fr f2.mem f5 (yQm _);refine s105 hh f5.mem b5 hl5 hs fun r w7 f7 o7=>?_;refine s107 hh f7.mem o7 (by rw[vJq];exact hs) fun w9 f9 o9=>⟨rfl,?_⟩;have hlen:lenS r=some (.int .i64 (sortI l).reverse.length):=by have:=(o9.rs (by decide)).len;simpa using this
 refine⟨_,hlen,?_⟩;have hsd:RsI w9 r (sortI l).reverse:=by have:=o9.rs (by decide);unfold RsI;simpa using this
 have hp:=nJ6 l;have hd:=nJ7 l;have f79:Fr w5.size w5 w9:=f7.trans f9 (yQm _);have fall:Fr w.size w w9:=(f2.trans f5 (by omega)).trans f79 (by omega);have bx:Box w9 w.size [v]:=(b2.fr f5 (by omega)).fr f79 (by omega);have hlv:RsI w9 v l:=hl5.fr f5.mem f79 (yQm _);generalize(sortI l).reverse=sd at *;have hsdl:sd.length=l.length:=hp.length_eq;refine qJr (fun m lv w'=>w'=w9∧∃i:Nat,i≤sd.length∧m=sd.length - i∧lv=[.int .i64 i]∧∀k (hk:k<i) (hks:k<sd.length),¬ l.length<2 * cnt sd[k] l) ?_ ⟨rfl,0,yQz _,rfl,rfl,fun k hk=>absurd hk (Nat.not_lt_zero _)⟩;rintro m lv w' ⟨rfl,i,hi,rfl,rfl,hno⟩ R ih;refine⟨_,rfl,fun _=>qJh (fun h=>?_) fun h=>?_⟩
 ·have h:i<sd.length:=by omega
  refine hsd.atN h fun b o hld=>⟨_,hld,qJd (v:=v) (by rw[bx.ld];rfl) ⟨_,hlv.len,?_⟩⟩;refine s104 (hh.no _ _ _ (by decide) (by decide)) bx hlv (by omega) ⟨_,rfl,by rw[bx.ld];rfl,?_⟩;refine s108 hh (vQ8 _ _) (by omega) ⟨_,rfl,qJh (fun hy=>?_) fun hy=>?_⟩
  ·exact hK _ _ (iJf hp hd h (fun k hk=>hno k hk (by omega)) hy) fall
  ·refine ih (sd.length - (i+1)) (by omega) _ _ ⟨rfl,i+1,h,rfl,by rw[qJq (by omega) (by omega)];rfl,fun k hk hks=>?_⟩;by_cases e:k=i
   ·subst e;exact hy
   ·exact hno k (by omega) hks
 ·exact hK _ _ (eJ0 hp hd fun k hk=>hno k (by omega) hk) fall
end Go.Proofs.YtghoifolghelnaaGreat
/-
 What the functions of this chapter do.
 No condition beyond those that each theorem names.
-/
open Go.Sx
namespace Go.Proofs.YtghoifolghelnaaGreat
end Go.Proofs.YtghoifolghelnaaGreat
/-
 What the functions of this chapter do.
 No condition beyond those that each theorem names.
-/
open Go.Sx
namespace Go.Proofs.YtghoifolghelnaaGreat
def RsE(w:AW)(v:AV)(ts:List Int):Prop:=∃cs,Rs w 2 ts.length v cs∧∀i,i<ts.length→cs[i * 2+0]? =some (.int .i64 (ts.getD i 0))
theorem RsE.len {w:AW}{v:AV}{ts:List Int}(h:RsE w v ts):lenS v=some (.int .i64 ts.length):=by obtain⟨cs,h,_⟩:=h;exact h.len
theorem RsE.fr {w w':AW}{v:AV}{ts:List Int}(h:RsE w v ts)(hm:Mem w){k:Nat}(hf:Fr k w w')(hk:w.size≤k):RsE w' v ts:=by obtain⟨cs,h,h2⟩:=h;exact⟨cs,h.fr hm hf hk,h2⟩
theorem RsE.at {w:AW}{v:AV}{ts:List Int}(h:RsE w v ts){i:Nat}(hi:i<ts.length){K:Nat→Nat→Prop}(hK:∀b o,ld w b (o+0)=some (.int .i64 (ts.getD i 0))→K b o):atP (idxS 2 v (.int .i64 (i:Int))) K:=by
 obtain⟨cs,h,h2⟩:=h;exact h.at (by omega) (by omega) fun b o hf _=>hK b o (by rw[hf 0 (by decide)];exact h2 i hi)
def termAt(base bt:Int)(ts:List Int)(n:Int):Int×Bool:=
 if n=base then(bt,true)else if n<base∨base+ts.length<n then(0,false)else(ts.getD (n - base - 1).toNat 0,true)
theorem s79 {hk:Hook}{w:AW}{base:Int}{v:AV}{ts:List Int}{K:AV→AW→Prop}(hh:HK hk)(hl:RsE w v ts)(hb:0≤base)(hb2:base<2^41)(hs:ts.length<2^40)(hK:K (.int .i64 (base+ts.length)) w):Cl Tryz.prog hk 79 [.int .i64 base,v] w K:=by
 apply in79 (hh.no _ _ _ (by decide) (by decide));refine⟨_,hl.len,?_⟩;rw[qJq (by omega) (by omega)];exact hK
theorem s97 {hk:Hook}{w:AW}{base bt n:Int}{v:AV}{ts:List Int}{K:AV→AW→Prop}(hh:HK hk)(hl:RsE w v ts)(hb:0≤base)(hb2:base<2^41)(hs:ts.length<2^40)
  (hK:K (.tup [.int .i64 (termAt base bt ts n).1,.bool (termAt base bt ts n).2]) w):Cl Tryz.prog hk 97 [.int .i64 base,.int .i64 bt,v,.int .i64 n] w K:=by
 apply in97 (hh.no _ _ _ (by decide) (by decide));unfold F97;unfold termAt at hK;refine qJh (fun h=>by rwa [if_pos h]at hK) fun h=>qJh (fun h2=>?_) fun h2=>?_
 ·rw[if_neg h,if_pos (.inl h2)]at hK;exact hK
 ·refine s79 hh hl hb hb2 hs ⟨_,rfl,qJh (fun h3=>?_) fun h3=>?_⟩
  ·rw[if_neg h,if_pos (.inr h3)]at hK;exact hK
  ·rw[if_neg h,if_neg (by omega)]at hK;unfold be;obtain⟨j,hj⟩:=yQ8 (show 0≤n - base - 1 by omega);have e:wi (wi (n - base) - 1)=(j:Int):=by rw[qJq (x:=n - base) (by omega) (by omega),qJq (by omega) (by omega),hj]
   rw[e];rw[hj]at hK;refine hl.at (by omega) fun b o hld=>⟨_,hld,hK⟩
def SetS(commit term base bt:Int)(ts:List Int)(r n:Int):Prop:=commit<n∧n≤r∧base≤n∧n≤base+ts.length∧(termAt base bt ts n).1=term
def cJt(commit term base bt:Int)(ts:List Int)(r x:Int):Prop:=(x=commit∧∀n,¬ SetS commit term base bt ts r n)∨(SetS commit term base bt ts r x∧∀n,SetS commit term base bt ts r n→n≤x)
theorem cJt.uniq {commit term base bt:Int}{ts:List Int}{r x y:Int}(h:cJt commit term base bt ts r x)(h':cJt commit term base bt ts r y):x=y:=by
 rcases h with⟨rfl,h⟩ | ⟨h1,h2⟩
 ·rcases h' with⟨rfl,_⟩ | ⟨h1,_⟩
  ·rfl
  ·exact absurd h1 (h _)
 ·rcases h' with⟨_,h⟩ | ⟨g1,g2⟩
  ·exact absurd h1 (h _)
  ·have:=h2 _ g1;have:=g2 _ h1;omega
theorem eJk {base bt:Int}{ts:List Int}{n:Int}:(termAt base bt ts n).2=true↔(base≤n∧n≤base+ts.length):=by
 unfold termAt;by_cases h:n=base
 ·rw[if_pos h];simp;omega
 ·rw[if_neg h];by_cases h2:n<base∨base+ts.length<n
  ·rw[if_pos h2];simp;omega
  ·rw[if_neg h2];simp;omega
theorem s119 {hk:Hook}{w:AW}{commit term base bt:Int}{v vm:AV}{ts l:List Int}{K:AV→AW→Prop}(hh:HK hk)(hm:Mem w)(hl:RsE w v ts)(hlm:RsI w vm l)(hb:0≤base)(hb2:base<2^41)(hs:ts.length<2^40)(hs2:l.length<2^40)
  (hc1:-9223372036854775808≤commit) (hr:∀x∈l,-9223372036854775808≤x∧x<9223372036854775808)
  (hK:∀r x w',kJh l r→cJt commit term base bt ts r x→Fr w.size w w'→K (.int .i64 x) w'):Cl Tryz.prog hk 119 [.int .i64 commit,.int .i64 term,.int .i64 base,.int .i64 bt,v,vm] w K:=by
 apply in119 (hh.no _ _ _ (by decide) (by decide));unfold F119;refine s66 hh hm hlm hs2 fun r w1 hrule f1=>⟨_,rfl,s79 hh (hl.fr hm f1 (yQm _)) hb hb2 hs ⟨_,rfl,?_⟩⟩;have hl1:=hl.fr hm f1 (yQm _);have hrr:-9223372036854775808≤r∧r<9223372036854775808:=by
  rcases hrule with⟨_,rfl⟩ | ⟨h,_⟩
  ·omega
  ·exact hr r h
 refine qJr (fun m lv w'=>w'=w1∧∃n:Int,m=(n - base+1).toNat∧lv=[.int .i64 n]∧n≤r∧n≤base+ts.length∧∀k,n<k→¬ SetS commit term base bt ts r k) ?_
  (n:=(imin r (base+ts.length) - base+1).toNat) ⟨rfl,_,rfl,rfl,?_,?_,fun k hk hS=>?_⟩
 ·rintro m lv w' ⟨rfl,n,rfl,rfl,hnr,hnl,hno⟩ R ih;refine⟨_,rfl,fun _=>qJh (fun h1=>qJh (fun h2=>?_) fun h2=>?_) fun h1=>?_⟩
  ·have hok:=(eJk (base:=base) (bt:=bt) (ts:=ts) (n:=n)).2 ⟨h2,hnl⟩;have next:¬ SetS commit term base bt ts r n→R [.int .i64 (wi (n - 1))] w':=fun hS=>ih ((n - 1) - base+1).toNat (by omega) _ _ ⟨rfl,n - 1,rfl,by rw[qJq (by omega) (by omega)],by omega,by omega,fun k hk=>by
    by_cases e:k=n
    ·subst e;exact hS
    ·exact hno k (by omega)⟩
   refine s97 hh hl1 hb hb2 hs ⟨_,_,rfl,?_⟩;rw[hok];refine qJ3 (qJh (fun h3=>?_) fun h3=>?_)
   ·exact hK r n _ hrule (.inr ⟨⟨h1,hnr,h2,hnl,h3⟩,fun k hk=>by
     by_cases e:n<k
     ·exact absurd hk (hno k e)
     ·omega⟩) f1
   ·exact next fun h=>h3 h.2.2.2.2
  ·refine hK r _ _ hrule (.inl ⟨rfl,fun k hk=>?_⟩) f1;by_cases e:n<k
   ·exact hno k e hk
   ·exact absurd hk.2.2.1 (by omega)
  ·refine hK r _ _ hrule (.inl ⟨rfl,fun k hk=>?_⟩) f1;by_cases e:n<k
   ·exact hno k e hk
   ·exact absurd hk.1 (by omega)
 ·unfold imin;split<;>omega
 ·unfold imin;split<;>omega
 ·unfold imin at hk;have:=hS.2.1;have:=hS.2.2.2.1;split at hk<;>omega
end Go.Proofs.YtghoifolghelnaaGreat
/-
 What a node reads as; which nodes are right.
 No condition beyond those that each theorem names.
-/
open Go.Sx
namespace Go.Proofs.YtghoifolghelnaaGreat
abbrev Byts:=List UInt8
abbrev Ent:=Int×Byts
def rE:Rp Ent:=⟨2,fun A w cs x=>∃v,cs=[.int .i64 x.1,v]∧(rL rU).rd A w [v] x.2,fun⟨v,h,_⟩=>by rw[h];rfl,fun⟨v,h,h2⟩=>by
 rw[h];have:=h2.ok1;simp only[List.all_cons,this];rfl,fun e ⟨v,h,h2⟩=>⟨v,h,h2.xa e⟩⟩
abbrev Rdg:=Int×Int×Int
def rG:Rp Rdg:=⟨3,fun _ _ cs x=>cs=[.int .i64 x.1,.int .i64 x.2.1,.int .i64 x.2.2],fun h=>by rw[h];rfl,fun h=>by rw[h];rfl,fun _ h=>h⟩
structure Nd where
 id:Int
 size:Int
 role:Int
 term:Int
 vote:Int
 leads:Int
 base:Int
 bt:Int
 snap:Byts
 log:List Ent
 commit:Int
 votes:List Bool
 next:List Int
 mtch:List Int
 seen:List Int
 round:Int
 elapsed:Int
 timeout:Int
 reads:List Rdg
structure Sl where
 snap:AV
 log:AV
 votes:AV
 next:AV
 mtch:AV
 seen:AV
 reads:AV
abbrev ndC(n:Nd)(s:Sl):List AV:=[.int .i64 n.id,.int .i64 n.size,.int .u8 n.role,.int .i64 n.term,.int .i64 n.vote,.int .i64 n.leads,.int .i64 n.base,.int .i64 n.bt,s.snap,s.log,.int .i64 n.commit,s.votes,s.next,s.mtch,s.seen,.int .i64 n.round,.int .i64 n.elapsed,.int .i64 n.timeout,s.reads]
structure NR(A:Nat→Prop)(w:AW)(n:Nd)(s:Sl):Prop where
 snap:(rL rU).rd A w [s.snap] n.snap
 log:(rL rE).rd A w [s.log] n.log
 votes:(rL rT).rd A w [s.votes] n.votes
 next:(rL rI).rd A w [s.next] n.next
 mtch:(rL rI).rd A w [s.mtch] n.mtch
 seen:(rL rI).rd A w [s.seen] n.seen
 reads:(rL rG).rd A w [s.reads] n.reads
section
variable {hk:Hook}{A A' B:Nat→Prop}{w w':AW}{K:AV→AW→Prop}{n:Nd}{s:Sl}{v:AV}
theorem oJ4(hm:Mem w)(hf:Fr w.size w w'):Xa A w A w':=⟨fun c f all a b d=>⟨a,b,d.fr hm hf (yQm _)⟩⟩
theorem NR.xa(h:NR A w n s)(e:Xa A w A' w'):NR A' w' n s:=⟨h.snap.xa e,h.log.xa e,h.votes.xa e,h.next.xa e,h.mtch.xa e,h.seen.xa e,h.reads.xa e⟩
theorem NR.fr(h:NR A w n s)(hm:Mem w)(hf:Fr w.size w w'):NR A w' n s:=h.xa (oJ4 hm hf)
theorem NR.ok(h:NR A w n s):(ndC n s).all qJc=true:=by
 simp only[List.all_cons,h.snap.ok1,h.log.ok1,h.votes.ok1,h.next.ok1,h.mtch.ok1,h.seen.ok1,h.reads.ok1];rfl
structure NB(w:AW)(b:Nat)(n:Nd)(s:Sl):Prop where
 mem:Mem w
 box:Box w b (ndC n s)
theorem NB.fr {b:Nat}(h:NB w b n s)(hf:Fr w.size w w'):NB w' b n s:=⟨hf.mem,h.box.fr hf (h.box.lt h.mem)⟩
theorem NB.ld {b o:Nat}(h:NB w b n s)(hv:(ndC n s)[o]? =some v):Sx.ld w b o=some v:=by rw[h.box.ld];exact hv
theorem NB.ldN {b:Nat}(h:NB w b n s):Sx.ldN 19 w b 0=some (.agg (ndC n s)):=by rw[h.box.ldN (by simp)];rfl
theorem rJ2 {G:Nat→AW→Prop}(hm:Mem w)(h:NR A w n s)(hG:∀b w1,Fr w.size w w1→NB w1 b n s→NR A w1 n s→G b w1):gd (List.all (ndC n s) qJc) (new w (ndC n s) G):=
 gd_t h.ok (new_of hm fun w1 f1 b1 _=>hG _ _ f1 ⟨f1.mem,b1⟩ (h.fr hm f1))
/-! ### Readings -/
theorem uJz {l:List Ent}(h:(rL rE).rd A w [v] l):RsE w v (l.map (·.1)):=by
 obtain⟨all,h1,h2⟩:=h.rs;refine⟨all,by rw[yQr];exact h1,fun i hi=>?_⟩;rw[yQr]at hi;have:=h2.get i hi;obtain⟨u,e,_⟩:=this;have e2:=congrArg (fun x=>x[0]?) e;have hsz:rE.sz=2:=rfl;rw[hsz]at e2;rw[gQr (by omega),gQj]at e2;rw[e2,yQj,gQn,yQn hi];rfl
/-! ### within -/
theorem s81 {x low high:Int}{b3 b5:Nat}(hh:HK hk)(h3:Sx.ld w b3 0=some (.int .i64 low))(h5:Sx.ld w b5 0=some (.int .i64 high))(hK:K (.bool (decide (x<low∨high<x))) w):Cl Tryz.prog hk 81 [.int .i64 x,.ptr b3 0,.ptr b5 0] w K:=by
 refine in81 (hh.no _ _ _ (by decide) (by decide)) ?_;unfold F81;refine⟨_,h3,qJh (fun hc=>?_) fun hc=>⟨_,h5,?_⟩⟩
 ·rw[show decide (x<low∨high<x)=true by simp[hc]]at hK;exact hK
 ·rw[show decide (x<low∨high<x)=decide (high<x)by simp[hc]]at hK;exact hK
theorem s110 {l:List Int}{fv:AV}{p:Int→Bool}(hh:HK hk)(h:RsI w v l)(hs:l.length<2^60)(hf:∀x∈l,∀(Q:AV→AW→Prop),Q (.bool (p x)) w→Cv Tryz.prog hk fv [.int .i64 x] w Q)(hK:∀i,(0≤i↔∃x∈l,p x=true)→K (.int .i64 i) w):Cl Tryz.prog hk 110 [v,fv] w K:=by
  refine in110 (hh.no _ _ _ (by decide) (by decide)) ?_;unfold F110;refine⟨_,h.len,?_⟩;refine qJr (fun m lv w5=>w5=w∧∃i:Nat,i≤l.length∧m=l.length - i∧lv=[.int .i64 i]∧∀x∈l.take i,p x=false) ?_ ⟨rfl,0,yQz _,rfl,rfl,by simp⟩;rintro m lv w5 ⟨rfl,i,hi,rfl,rfl,hno⟩ R ih;refine⟨_,rfl,fun _=>qJh (fun hc=>?_) fun hc=>hK _ ⟨fun h=>by omega,fun⟨x,hx,hp⟩=>?_⟩⟩
  · have hil:i<l.length:=by omega
    refine h.atN hil fun b o hld=>⟨_,hld,?_⟩;refine hf _ (gQp hil) _ ⟨_,rfl,?_⟩;cases hp:p l[i]with
    | true=>exact qJ3 (hK _ ⟨fun _=>⟨_,gQp hil,hp⟩,fun _=>by omega⟩)
    | false=>
      refine qJ0 (ih (l.length - (i+1)) (by omega) _ _ ⟨rfl,i+1,hil,rfl,by rw[qJq (by omega) (by omega)];rfl,fun x hx=>?_⟩);rw[List.take_succ_eq_append_getElem hil]at hx;rcases yQ1.1 hx with hx | hx
      · exact hno x hx
      · simp at hx;rw[hx];exact hp
  · have:l.take i=l:=yQ5 (by omega)
    rw[this]at hno;rw[hno x hx]at hp;cases hp
theorem s80 {l:List Int}{fv:AV}{p:Int→Bool}(hh:HK hk)(h:RsI w v l)(hs:l.length<2^60)(hf:∀x∈l,∀(Q:AV→AW→Prop),Q (.bool (p x)) w→Cv Tryz.prog hk fv [.int .i64 x] w Q)(hK:∀b:Bool,(b=true↔∃x∈l,p x=true)→K (.bool b) w):Cl Tryz.prog hk 80 [v,fv] w K:=by
 refine in80 (hh.no _ _ _ (by decide) (by decide)) ?_;unfold F80;exact s110 hh h hs hf fun i hi=>⟨_,rfl,hK _ (by rw[decide_eq_true_eq];exact hi)⟩
def Btw(low high:Int)(l:List Int):Prop:=∀x∈l,low≤x∧x≤high
theorem s37 {l:List Int}{low high:Int}(hh:HK hk)(hm:Mem w)(h:RsI w v l)(hs:l.length<2^60)(hK:∀(b:Bool) w',Fr w.size w w'→(b=true↔Btw low high l)→K (.bool b) w'):Cl Tryz.prog hk 37 [.int .i64 low, .int .i64 high,v] w K:=by
  refine in37 (hh.no _ _ _ (by decide) (by decide)) ?_;unfold F37;refine new_of hm fun w4 f4 b4 z4=>new_of f4.mem fun w6 f6 b6 z6=>?_;have f:=f4.trans f6 f4.size;have b4':=b4.fr f6 (by rw[z4];omega);refine s80 (p:=fun x=>decide (x<low∨high<x)) hh (h.fr hm f (yQm _)) hs (fun x _ Q hQ=>?_) fun b hb=>⟨_,rfl,hK _ _ f ?_⟩
  · exact s81 hh (by rw[b4'.ld];rfl) (by rw[b6.ld];rfl) hQ
  · cases b with
    | true=>
      simp only[Bool.not_true,yQ2,false_iff];obtain⟨x,hx,hp⟩:=hb.1 rfl;intro hB;have:=hB x hx;simp only[decide_eq_true_eq]at hp;omega
    | false=>
      simp only[Bool.not_false,true_iff];intro x hx;have hn:¬ (x<low∨high<x):=fun hp=>by have:=hb.2 ⟨x,hx,by simpa using hp⟩;cases this
      omega
theorem s82 {l:List Bool}{x:Bool}(hh:HK hk)(h:(rL rT).rd A w [v] l)(hs:l.length<2^60)(hK:∀b:Bool,(b=true↔x∈l)→K (.bool b) w):Cl Tryz.prog hk 82 [v, .bool x] w K:=by
  refine in82 (hh.no _ _ _ (by decide) (by decide)) ?_;unfold F82;refine in111 (hh.no _ _ _ (by decide) (by decide)) ?_;unfold F111;refine⟨_,h.len',?_⟩;refine qJr (fun m lv w5=>w5=w∧∃i:Nat,i≤l.length∧m=l.length - i∧lv=[.int .i64 i]∧x∉l.take i) ?_ ⟨rfl,0,yQz _,rfl,rfl,by simp⟩;rintro m lv w5 ⟨rfl,i,hi,rfl,rfl,hno⟩ R ih;refine⟨_,rfl,fun _=>qJh (fun hc=>?_) fun hc=>⟨_,rfl,hK _ ?_⟩⟩
  · have hil:i<l.length:=by omega
    refine h.at1 rfl hil fun b o a hr hld=>?_;have e:[a]=[.bool l[i]]:=hr;cases e;refine⟨_,hld,?_⟩;cases hp:x==l[i]with
    | true=>exact qJ3 ⟨_,rfl,hK _ ⟨fun _=>by rw[beq_iff_eq.1 hp];exact gQp hil,fun _=>by simp⟩⟩
    | false=>
      refine qJ0 (ih (l.length - (i+1)) (by omega) _ _ ⟨rfl,i+1,hil,rfl,by rw[qJq (by omega) (by omega)];rfl,fun hx=>?_⟩);rw[List.take_succ_eq_append_getElem hil]at hx;rcases yQ1.1 hx with hx | hx
      · exact hno hx
      · simp at hx;rw[hx]at hp;simp at hp
  · have:l.take i=l:=yQ5 (by omega)
    rw[this]at hno;simp[hno]
end
end Go.Proofs.YtghoifolghelnaaGreat
/-
 Which nodes are right.
 No condition beyond those that each theorem names.
-/
open Go.Sx
namespace Go.Proofs.YtghoifolghelnaaGreat
def risP:Int→Int→List Ent→Prop
 | low,high,[]=>low≤high
 | low,high,e::l=>low≤e.1∧e.2.length≤60000∧risP e.1 high l
theorem fJk:∀{l:List Ent} {low high:Int},risP low high l→low≤high
 | [],_,_,h=>h
 | e::l,_,_,⟨h1,_,h3⟩=>by have:=fJk h3;omega
def rdsP:Int→Int→List Rdg→Prop
 | last,rd,[]=>last≤rd
 | last,rd,r::l=>last<r.2.2∧rdsP r.2.2 rd l
def qJi(n:Nd):Int:=n.base+n.log.length
def tJm(n:Nd):Prop:=Btw 0 0 n.next∧Btw 0 0 n.mtch∧Btw 0 0 n.seen∧n.round=0∧n.reads.length=0
def yJi(n:Nd):Prop:=(n.role=1∧tJm n∧true∉n.votes)∨(n.role=2∧tJm n∧n.votes.getD (n.id - 1).toNat false=true)∨(n.role=3∧true∉n.votes∧n.leads=n.id∧Btw 1 (qJi n+1) n.next∧Btw 0 (qJi n) n.mtch∧Btw 0 n.round n.seen)
abbrev G40:Int:=1099511627776
structure qJl(n:Nd):Prop where
 size:1≤n.size∧n.size≤9
 id:1≤n.id∧n.id≤n.size
 vote:0≤n.vote∧n.vote≤n.size
 leads:0≤n.leads∧n.leads≤n.size
 term:0≤n.term∧n.term≤G40
 base:0≤n.base∧n.base≤G40
 round:0≤n.round∧n.round≤G40
 elapsed:0≤n.elapsed∧n.elapsed≤G40
 timeout:1≤n.timeout∧n.timeout≤G40
 bt:0≤n.bt
 log:risP n.bt n.term n.log
 commit:n.base≤n.commit∧n.commit≤qJi n
 snap:n.snap.length≤60000
 votes:(n.votes.length:Int)=n.size
 next:(n.next.length:Int)=n.size
 mtch:(n.mtch.length:Int)=n.size
 seen:(n.seen.length:Int)=n.size
 reads:rdsP 0 n.round n.reads∧n.reads.length≤64
 roles:yJi n
section
variable {hk:Hook}{A A' B:Nat→Prop}{w w':AW}{K:AV→AW→Prop}{n:Nd}{s:Sl}{v:AV}
theorem qQt {b:Nat}{l:List Int}{k:Nat}(h:Box w b (l.map (AV.int .i64)))(hk:k=l.length):RsI w (.slice b 0 k k none) l:=by
 subst hk;exact .inr ⟨b,0,_,none,_,rfl,h.cells,by rw[yQr];omega,by rw[List.drop_zero,Nat.mul_one,yQ5 (by rw[yQr];exact yQm _)]⟩
theorem lJz {l:List Ent}(h:(rL rE).rd A w [v] l){i:Nat}(hi:i<l.length){K:Nat→Nat→Prop}(hK:∀b o u,(rL rU).rd A w [u] l[i].2→Sx.ld w b (o+0)=some (.int .i64 l[i].1)→Sx.ld w b (o+1)=some u→Sx.ldN 2 w b o=some (.agg [.int .i64 l[i].1,u])→K b o):atP (idxS 2 v (.int .i64 (i:Int))) K:=by
 refine h.at hi fun b o cs hr hf hn=>?_;obtain⟨u,rfl,hu⟩:=hr;exact hK b o u hu (hf 0 (by decide)) (hf 1 (by decide)) hn
theorem vQn {l:List Rdg}(h:(rL rG).rd A w [v] l){i:Nat}(hi:i<l.length){K:Nat→Nat→Prop}(hK:∀b o,Sx.ld w b (o+0)=some (.int .i64 l[i].1)→Sx.ld w b (o+1)=some (.int .i64 l[i].2.1)→Sx.ld w b (o+2)=some (.int .i64 l[i].2.2)→Sx.ldN 3 w b o=some (.agg [.int .i64 l[i].1,.int .i64 l[i].2.1,.int .i64 l[i].2.2])→K b o):atP (idxS 3 v (.int .i64 (i:Int))) K:=by
 refine h.at hi fun b o cs hr hf hn=>?_;have hr:cs=[.int .i64 l[i].1,.int .i64 l[i].2.1,.int .i64 l[i].2.2]:=hr;subst hr;exact hK b o (hf 0 (by decide)) (hf 1 (by decide)) (hf 2 (by decide)) hn
theorem s38 {l:List Ent}{low high:Int}(hh:HK hk)(hm:Mem w)(hw:0<w.size)(h:(rL rE).rd A w [v] l)(hs:l.length<2^60)(hK:∀(b:Bool) w',Fr w.size w w'→(b=true↔risP low high l)→K (.bool b) w'):Cl Tryz.prog hk 38 [.int .i64 low,.int .i64 high,v] w K:=by
 refine in38 (hh.no _ _ _ (by decide) (by decide)) ?_;unfold F38;refine⟨_,h.len',?_⟩;refine qJr (fun m lv w5=>∃(i:Nat) (lo:Int),Fr w.size w w5∧i≤l.length∧m=l.length - i∧lv=[.int .i64 lo,.int .i64 i]∧(risP low high l↔risP lo high (l.drop i))) ?_ ⟨0,low,Fr.refl hm,yQz _,rfl,rfl,by simp⟩;rintro m lv w5 ⟨i,lo,f5,hi,rfl,rfl,hiff⟩ R ih;have h5:=h.xa (oJ4 hm f5);refine⟨_,_,rfl,fun _=>qJh (fun hc=>?_) fun hc=>?_⟩
 ·have hil:i<l.length:=by omega
  have hd:l.drop i=l[i]::l.drop (i+1):=gQq hil;rw[hd]at hiff;refine lJz h5 hil fun b o u hu _ _ hn=>⟨_,_,hn,?_⟩;have pv5:Pv (fun _=>True) w5:=⟨f5.mem,by have:=f5.size;omega,fun _ _=>trivial⟩;refine pv5.st.new' fun b13 w14 st14 x14=>gd_t (by simp only[List.all_cons,hu.ok1];rfl) (st14.put 0 rfl (by simp) fun w15 st15 x15=>?_);have f15:Fr w.size w w15:=f5.trans' st15.fr (yQm _);refine⟨_,st15.ld 0 rfl rfl,qJh (fun hc=>hK _ _ f15 ⟨(fun h=>by cases h),fun hr=>?_⟩) fun h1=>qJd (st15.ld 0 rfl rfl) ?_⟩
  ·have:=(hiff.1 hr).1;omega
  have hu15:=hu.xa (oJ4 f5.mem st15.fr);refine⟨_,hu15.len',qJh (fun hc=>hK _ _ f15 ⟨(fun h=>by cases h),fun hr=>?_⟩) fun h2=>⟨_,st15.ld 0 rfl rfl,?_⟩⟩
  ·have:=(hiff.1 hr).2.1;omega
  refine ih (l.length - (i+1)) (by omega) _ _ ⟨i+1,l[i].1,f15,hil,rfl,by rw[qJq (by omega) (by omega)];rfl,hiff.trans ⟨fun⟨_,_,h⟩=>h,fun h=>⟨by omega,by omega,h⟩⟩⟩
 ·have:l.drop i=[]:=List.drop_eq_nil_of_le (by omega);rw[this]at hiff;exact hK _ _ f5 (by rw[decide_eq_true_eq];exact hiff.symm)
theorem s36(hh:HK hk)(hm:Mem w)(h:NR A w n s)(hb:0≤n.base)(hb2:n.base<2^41)(hs:n.log.length<2^40)(hK:∀w',Fr w.size w w'→K (.int .i64 (qJi n)) w'):Cl Tryz.prog hk 36 [.agg (ndC n s)] w K:=by
 refine in36 (hh.no _ _ _ (by decide) (by decide)) ?_;unfold F36;refine rJ2 hm h fun b w1 f1 nb h1=>⟨_,nb.ld rfl,qJd (nb.ld rfl) (s79 hh (uJz h1.log) hb hb2 (by simpa using hs) ⟨_,rfl,?_⟩)⟩;have:=hK w1 f1;unfold qJi at this;rw[yQr];exact this
theorem s53 {i:Int}(hh:HK hk)(hm:Mem w)(h:NR A w n s)(hb:0≤n.base)(hb2:n.base<2^41)(hs:n.log.length<2^40)(hK:∀w',Fr w.size w w'→K (.tup [.int .i64 (termAt n.base n.bt (n.log.map (·.1)) i).1,.bool (termAt n.base n.bt (n.log.map (·.1)) i).2]) w'):Cl Tryz.prog hk 53 [.agg (ndC n s),.int .i64 i] w K:=by
 refine in53 (hh.no _ _ _ (by decide) (by decide)) ?_;unfold F53;refine rJ2 hm h fun b w1 f1 nb h1=>⟨_,nb.ld rfl,_,nb.ld rfl,qJd (nb.ld rfl) (s97 hh (uJz h1.log) hb hb2 (by simpa using hs) ⟨_,_,rfl,hK w1 f1⟩)⟩
theorem s39(hh:HK hk)(hm:Mem w)(hw:0<w.size)(h:NR A w n s)(hs:n.reads.length<2^60)(hK:∀(b:Bool) w',Fr w.size w w'→(b=true↔(rdsP 0 n.round n.reads∧n.reads.length≤64))→K (.bool b) w'):Cl Tryz.prog hk 39 [.agg (ndC n s)] w K:=by
 refine in39 (hh.no _ _ _ (by decide) (by decide)) ?_;unfold F39;refine rJ2 hm h fun b w1 f1 nb h1=>qJd (nb.ld rfl) ⟨_,h1.reads.len',?_⟩;refine qJr (fun m lv w5=>∃(i:Nat) (la:Int),Fr w1.size w1 w5∧i≤n.reads.length∧m=n.reads.length - i∧lv=[.int .i64 la,.int .i64 i]∧(rdsP 0 n.round n.reads↔rdsP la n.round (n.reads.drop i))) ?_ ⟨0,0,Fr.refl f1.mem,yQz _,rfl,rfl,by simp⟩;rintro m lv w5 ⟨i,la,f5,hi,rfl,rfl,hiff⟩ R ih;have h5:=h1.reads.xa (oJ4 f1.mem f5);have f05:=f1.trans' f5 (yQm _);have nb5:=nb.fr f5;refine⟨_,_,rfl,fun _=>qJh (fun hc=>?_) fun hc=>?_⟩
 ·have hil:i<n.reads.length:=by omega
  have hd:n.reads.drop i=n.reads[i]::n.reads.drop (i+1):=gQq hil;rw[hd]at hiff;refine vQn h5 hil fun b o _ _ _ hn=>⟨_,_,_,hn,?_⟩;have pv5:Pv (fun _=>True) w5:=⟨f5.mem,by have:=f05.size;omega,fun _ _=>trivial⟩;refine pv5.st.new' fun b13 w14 st14 x14=>st14.put 0 rfl (by simp) fun w15 st15 x15=>?_;have f15:=f5.trans' st15.fr (yQm _);refine⟨_,st15.ld 0 rfl rfl,qJh (fun hc=>hK _ _ (f1.trans' f15 (yQm _)) ⟨(fun h=>by cases h),fun hr=>?_⟩) fun h1=>⟨_,st15.ld 0 rfl rfl,?_⟩⟩
  ·have:=(hiff.1 hr.1).1;omega
  refine ih (n.reads.length - (i+1)) (by omega) _ _ ⟨i+1,n.reads[i].2.2,f15,hil,rfl,by rw[qJq (by omega) (by omega)];rfl,hiff.trans ⟨fun⟨_,h⟩=>h,fun h=>⟨by omega,h⟩⟩⟩
 ·have:n.reads.drop i=[]:=List.drop_eq_nil_of_le (by omega);rw[this]at hiff;refine⟨_,nb5.ld rfl,qJh (fun hc=>qJd (nb5.ld rfl) ⟨_,h5.len',hK _ _ f05 ?_⟩) fun hc=>hK _ _ f05 ⟨(fun h=>by cases h),fun hr=>absurd (hiff.1 hr.1) hc⟩⟩;rw[decide_eq_true_eq];exact⟨fun h=>⟨hiff.2 hc,by omega⟩,fun h=>by omega⟩
end
end Go.Proofs.YtghoifolghelnaaGreat
/-
 Which nodes are right: the program's Right.
 No condition beyond those that each theorem names.
-/
open Go.Sx
namespace Go.Proofs.YtghoifolghelnaaGreat
structure Sm(n:Nd):Prop where
 snap:n.snap.length<2^60
 log:n.log.length<2^40
 votes:n.votes.length<2^60
 next:n.next.length<2^60
 mtch:n.mtch.length<2^60
 seen:n.seen.length<2^60
 reads:n.reads.length<2^60
theorem rol1 {n:Nd}(h:n.role=1):yJi n↔tJm n∧true∉n.votes:=by
 unfold yJi;rw[h];constructor
 ·rintro(⟨_,a,b⟩ | ⟨a,_⟩ | ⟨a,_⟩)
  ·exact⟨a,b⟩
  ·cases a
  ·cases a
 ·exact fun h=> .inl ⟨rfl,h.1,h.2⟩
theorem rol2 {n:Nd}(h:n.role=2):yJi n↔tJm n∧n.votes.getD (n.id - 1).toNat false=true:=by
 unfold yJi;rw[h];constructor
 ·rintro(⟨a,_⟩ | ⟨_,a,b⟩ | ⟨a,_⟩)
  ·cases a
  ·exact⟨a,b⟩
  ·cases a
 ·exact fun h=> .inr (.inl ⟨rfl,h.1,h.2⟩)
theorem rol3 {n:Nd}(h:n.role=3):yJi n↔true∉n.votes∧n.leads=n.id∧Btw 1 (qJi n+1) n.next∧Btw 0 (qJi n) n.mtch∧Btw 0 n.round n.seen:=by
 unfold yJi;rw[h];constructor
 ·rintro(⟨a,_⟩ | ⟨a,_⟩ | ⟨_,h⟩)
  ·cases a
  ·cases a
  ·exact h
 ·exact fun h=> .inr (.inr ⟨rfl,h⟩)
theorem rol0 {n:Nd}(h1:n.role≠1)(h2:n.role≠2)(h3:n.role≠3):¬ yJi n:=by
 rintro(⟨a,_⟩ | ⟨a,_⟩ | ⟨a,_⟩)
 ·exact h1 a
 ·exact h2 a
 ·exact h3 a
section
variable {hk:Hook}{A A' B:Nat→Prop}{w w':AW}{K:AV→AW→Prop}{n:Nd}{s:Sl}{v:AV}
theorem wQy {l:List Bool}(h:(rL rT).rd A w [v] l){i:Int}(h0:0≤i)(hi:i<l.length){K:Nat→Nat→Prop}(hK:∀b o,Sx.ld w b o=some (.bool (l.getD i.toNat false))→K b o):atP (idxS 1 v (.int .i64 i)) K:=by
 obtain⟨k,rfl⟩:=yQ8 h0;have hk:k<l.length:=by omega
 refine h.at1 rfl hk fun b o a hr hld=>hK b o ?_;have e:[a]=[.bool l[k]]:=hr;cases e;rw[hld,Int.toNat_natCast,yQj,yQn hk];rfl
theorem at_int {l:List Int}(h:(rL rI).rd A w [v] l){i:Int}(h0:0≤i)(hi:i<l.length){K:Nat→Nat→Prop}(hK:∀b o,Sx.ld w b o=some (.int .i64 (l.getD i.toNat 0))→K b o):atP (idxS 1 v (.int .i64 i)) K:=by
 obtain⟨k,rfl⟩:=yQ8 h0;have hk:k<l.length:=by omega
 refine h.at1 rfl hk fun b o a hr hld=>hK b o ?_;have e:[a]=[.int .i64 l[k]]:=hr;cases e;rw[hld,Int.toNat_natCast,yQj,yQn hk];rfl
theorem s40(hh:HK hk)(hm:Mem w)(h:NR A w n s)(sm:Sm n)(hb:0≤n.base)(hb2:n.base≤G40)(hid:1≤n.id∧n.id≤n.votes.length)(hid2:n.id≤9)(hr:0≤n.round)(hK:∀(b:Bool) w',Fr w.size w w'→(b=true↔yJi n)→K (.bool b) w'):Cl Tryz.prog hk 40 [.agg (ndC n s)] w K:=by
  refine in40 (hh.no _ _ _ (by decide) (by decide)) ?_;unfold F40;refine rJ2 hm h fun b w1 f1 nb h1=>?_;have hb2':n.base<2^41:=by have:=hb2;unfold G40 at this;omega
  have sl:=sm.log;have fin:∀(b:Bool) w',Fr w1.size w1 w'→(b=true↔yJi n)→K (.bool b) w':=fun b w' f hb=>hK b w' (f1.trans' f (yQm _)) hb;refine zJm (fun l w'=>∃nn:Bool,l=[.bool nn]∧Fr w1.size w1 w'∧(nn=true↔tJm n)) ?_ fun J hJ=>?_
  · rintro l w2 ⟨nn,rfl,f2,hnn⟩
    have nb2:=nb.fr f2;have h2:=h1.fr f1.mem f2;refine⟨_,rfl,fun _=>qJd (nb2.ld rfl) (s82 hh h2.votes sm.votes fun c hc=>⟨_,rfl,_,nb2.ld rfl,?_⟩)⟩;refine qJh (fun r1=>?_) fun r1=>qJh (fun r2=>?_) fun r2=>qJh (fun r3=>?_) fun r3=>?_
    · cases nn with
      | true=>exact qJ3 (fin _ _ f2 (by rw[rol1 r1,←hc];have:=hnn.1 rfl;cases c<;>simp[this]))
      | false=>exact qJ0 (fin _ _ f2 (by rw[rol1 r1];simp only[yQ2,false_iff,not_and];intro hx;exact absurd (hnn.2 hx) (by decide)))
    · cases nn with
      | true=>
        refine qJ3 (qJd (nb2.ld rfl) ⟨_,nb2.ld rfl,?_⟩);rw[qJq (by omega) (by omega)];exact wQy h2.votes (by omega) (by omega) fun b o hld=>⟨_,hld,fin _ _ f2 (by rw[rol2 r2];have:=hnn.1 rfl;simp[this])⟩
      | false=>exact qJ0 (fin _ _ f2 (by rw[rol2 r2];simp only[yQ2,false_iff,not_and];intro hx;exact absurd (hnn.2 hx) (by decide)))
    · cases c with
      | true=>exact qJ0 (fin _ _ f2 (by rw[rol3 r3];have:=hc.1 rfl;simp[this]))
      | false=>
        have hv:true∉n.votes:=fun hx=>by have:=hc.2 hx;cases this
        refine qJ3 ⟨_,nb2.ld rfl,_,nb2.ld rfl,qJh (fun hl=>?_) fun hl=>fin _ _ f2 (by rw[rol3 r3];simp[hl])⟩;refine⟨_,_,_,_,_,_,_,_,_,_,_,_,_,_,_,_,_,_,_,nb2.ldN,qJd (nb2.ld rfl) (s36 hh f2.mem h2 hb hb2' sl fun w5 f5=>⟨_,rfl,(nb2.fr f5).ld rfl,?_⟩)⟩;have g5:=f2.trans' f5 (yQm _);have h5:=h2.fr f2.mem f5;rw[qJq (by unfold qJi;omega) (by unfold qJi;omega)];refine s37 hh f5.mem h5.next.rsI sm.next fun c1 w6 f6 hc1=>⟨_,rfl,?_⟩;have g6:=g5.trans' f6 (yQm _);have h6:=h5.fr f5.mem f6;have nb6:=nb.fr g6
        cases c1 with
        | false=>exact qJ0 (fin _ _ g6 (by rw[rol3 r3];simp only[yQ2,false_iff];rintro⟨_,_,hx,_⟩;exact absurd (hc1.2 hx) (by decide)))
        | true=>
          refine qJ3 ⟨_,_,_,_,_,_,_,_,_,_,_,_,_,_,_,_,_,_,_,nb6.ldN,qJd (nb6.ld rfl) (s36 hh f6.mem h6 hb hb2' sl fun w7 f7=>⟨_,rfl,(nb6.fr f7).ld rfl,?_⟩)⟩;have g7:=g6.trans' f7 (yQm _);have h7:=h6.fr f6.mem f7;refine s37 hh f7.mem h7.mtch.rsI sm.mtch fun c2 w8 f8 hc2=>⟨_,rfl,?_⟩;have g8:=g7.trans' f8 (yQm _);have h8:=h7.fr f7.mem f8;have nb8:=nb.fr g8
          cases c2 with
          | false=>exact qJ0 (fin _ _ g8 (by rw[rol3 r3];simp only[yQ2,false_iff];rintro⟨_,_,_,hx,_⟩;exact absurd (hc2.2 hx) (by decide)))
          | true=>
            refine qJ3 ⟨_,nb8.ld rfl,qJd (nb8.ld rfl) (s37 hh f8.mem h8.seen.rsI sm.seen fun c3 w9 f9 hc3=>⟨_,rfl,fin _ _ (g8.trans' f9 (yQm _)) ?_⟩)⟩;rw[rol3 r3,hc3];exact⟨fun hx=>⟨hv,hl,hc1.1 rfl,hc2.1 rfl,hx⟩,fun hx=>hx.2.2.2.2⟩
    · exact fin _ _ f2 (by have:=rol0 r1 r2 r3;simp[this])
  · refine qJd (nb.ld rfl) (s37 hh f1.mem h1.next.rsI sm.next fun c1 w2 f2 hc1=>⟨_,rfl,?_⟩)
    have nb2:=nb.fr f2;have h2:=h1.fr f1.mem f2
    cases c1 with
    | false=>exact qJ0 (hJ _ _ ⟨_,rfl,f2,by simp only[yQ2,false_iff];rintro⟨hx,_⟩;exact absurd (hc1.2 hx) (by decide)⟩)
    | true=>
      refine qJ3 (qJd (nb2.ld rfl) (s37 hh f2.mem h2.mtch.rsI sm.mtch fun c2 w3 f3 hc2=>⟨_,rfl,?_⟩));have g3:=f2.trans' f3 (yQm _);have nb3:=nb.fr g3;have h3:=h2.fr f2.mem f3
      cases c2 with
      | false=>exact qJ0 (hJ _ _ ⟨_,rfl,g3,by simp only[yQ2,false_iff];rintro⟨_,hx,_⟩;exact absurd (hc2.2 hx) (by decide)⟩)
      | true=>
        refine qJ3 (qJd (nb3.ld rfl) (s37 hh f3.mem h3.seen.rsI sm.seen fun c3 w4 f4 hc3=>⟨_,rfl,?_⟩));have g4:=g3.trans' f4 (yQm _);have nb4:=nb.fr g4;have h4:=h3.fr f3.mem f4
        cases c3 with
        | false=>exact qJ0 (hJ _ _ ⟨_,rfl,g4,by simp only[yQ2,false_iff];rintro⟨_,_,hx,_⟩;exact absurd (hc3.2 hx) (by decide)⟩)
        | true=>
          refine qJ3 ⟨_,nb4.ld rfl,qJh (fun hz=>qJd (nb4.ld rfl) ⟨_,h4.reads.len',hJ _ _ ⟨_,rfl,g4,?_⟩⟩) fun hz=>hJ _ _ ⟨_,rfl,g4,?_⟩⟩
          · rw[decide_eq_true_eq]
            exact⟨fun hx=>⟨hc1.1 rfl,hc2.1 rfl,hc3.1 rfl,hz,by omega⟩,fun hx=>by have:=hx.2.2.2.2;omega⟩
          · simp only[yQ2,false_iff];rintro⟨_,_,_,hx,_⟩;exact hz hx
theorem btw1 {low high x:Int}:Btw low high [x]↔low≤x∧x≤high:=by simp[Btw]
theorem btw2 {low high x y:Int}:Btw low high [x,y]↔(low≤x∧x≤high)∧(low≤y∧y≤high):=by simp[Btw]
theorem btw4 {low high x y z u:Int}:Btw low high [x,y,z,u]↔(low≤x∧x≤high)∧(low≤y∧y≤high)∧(low≤z∧z≤high)∧(low≤u∧u≤high):=by simp[Btw]
theorem s37n {l:List Int}{k:Nat}{low high:Int}(hh:HK hk)(hm:Mem w)(hl:l.length<100)(hkl:k=l.length){G:Nat→AW→Prop}(hK:∀b w1,Fr w.size w w1→(∀G:AV→AW→Prop,(∀(c:Bool) w',Fr w.size w w'→(c=true↔Btw low high l)→G (.bool c) w')→Cl Tryz.prog hk 37 [.int .i64 low,.int .i64 high,.slice b 0 k k none] w1 G)→G b w1):new w (l.map (AV.int .i64)) G:=
 new_of hm fun w1 f1 b1 z1=>hK _ _ f1 fun G hG=>s37 hh f1.mem (qQt b1 hkl) (by omega) fun c w' f hc=>hG c w' (f1.trans' f (yQm _)) hc
set_option maxRecDepth 20000 in
theorem s8(hh:HK hk)(hm:Mem w)(hw:0<w.size)(h:NR A w n s)(sm:Sm n)(hK:∀(b:Bool) w',Fr w.size w w'→(b=true↔qJl n)→K (.bool b) w'):Cl Tryz.prog hk 8 [.agg (ndC n s)] w K:=by
 refine in8 (hh.no _ _ _ (by decide) (by decide)) ?_;unfold F8;refine rJ2 hm h fun b w1 f1 nb h1=>⟨_,nb.ld rfl,?_⟩;have no:∀w',Fr w1.size w1 w'→¬ qJl n→K (.bool false) w':=fun w' f hx=>hK _ _ (f1.trans' f (yQm _)) ⟨(fun h=>by cases h),fun hr=>absurd hr hx⟩;refine s37n (l:=[n.size]) hh f1.mem (by simp) rfl fun b2 w2 f2 hs2=>⟨(nb.fr f2).ld rfl,hs2 _ fun c1 w3 g3 hc1=>⟨_,rfl,?_⟩⟩;rw[btw1]at hc1;have nb3:=nb.fr g3
 cases c1 with
 | false=>exact qJ0 (no _ g3 fun hr=>absurd (hc1.2 hr.size) (by decide))
 | true=>
 have i1:=hc1.1 rfl;refine qJ3 ⟨_,nb3.ld rfl,_,nb3.ld rfl,?_⟩;refine s37n (l:=[n.id]) hh g3.mem (by simp) rfl fun b4 w4 f4 hs4=>⟨(nb3.fr f4).ld rfl,(nb3.fr f4).ld rfl,hs4 _ fun c2 w5 f5 hc2=>⟨_,rfl,?_⟩⟩;rw[btw1]at hc2;have g5:=g3.trans' f5 (yQm _);have nb5:=nb.fr g5
 cases c2 with
 | false=>exact qJ0 (no _ g5 fun hr=>absurd (hc2.2 hr.id) (by decide))
 | true=>
 have i2:=hc2.1 rfl;refine qJ3 ⟨_,nb5.ld rfl,_,nb5.ld rfl,_,nb5.ld rfl,?_⟩;refine s37n (l:=[n.vote,n.leads]) hh g5.mem (by simp) rfl fun b6 w6 f6 hs6=>⟨(nb5.fr f6).ld rfl,(nb5.fr f6).ld rfl,(nb5.fr f6).ld rfl,hs6 _ fun c3 w7 f7 hc3=>⟨_,rfl,?_⟩⟩;rw[btw2]at hc3;have g7:=g5.trans' f7 (yQm _);have nb7:=nb.fr g7
 cases c3 with
 | false=>exact qJ0 (no _ g7 fun hr=>absurd (hc3.2 ⟨hr.vote,hr.leads⟩) (by decide))
 | true=>
 have i3:=hc3.1 rfl;refine qJ3 ⟨_,nb7.ld rfl,_,nb7.ld rfl,_,nb7.ld rfl,_,nb7.ld rfl,?_⟩;refine s37n (l:=[n.term,n.base,n.round,n.elapsed]) hh g7.mem (by simp) rfl fun b8 w8 f8 hs8=>⟨(nb7.fr f8).ld rfl,(nb7.fr f8).ld rfl,(nb7.fr f8).ld rfl,(nb7.fr f8).ld rfl,hs8 _ fun c4 w9 f9 hc4=>⟨_,rfl,?_⟩⟩;rw[btw4]at hc4;have g9:=g7.trans' f9 (yQm _);have nb9:=nb.fr g9
 cases c4 with
 | false=>exact qJ0 (no _ g9 fun hr=>absurd (hc4.2 ⟨hr.term,hr.base,hr.round,hr.elapsed⟩) (by decide))
 | true=>
 have i4:=hc4.1 rfl;refine qJ3 ⟨_,nb9.ld rfl,?_⟩;refine s37n (l:=[n.timeout]) hh g9.mem (by simp) rfl fun b10 w10 f10 hs10=>⟨(nb9.fr f10).ld rfl,hs10 _ fun c5 w11 f11 hc5=>⟨_,rfl,?_⟩⟩;rw[btw1]at hc5;have g11:=g9.trans' f11 (yQm _);have nb11:=nb.fr g11
 cases c5 with
 | false=>exact qJ0 (no _ g11 fun hr=>absurd (hc5.2 hr.timeout) (by decide))
 | true=>
 have i5:=hc5.1 rfl;have h11:=h1.fr f1.mem g11;have hw1:=f1.size;refine qJ3 ⟨_,nb11.ld rfl,qJh (fun i6=>⟨_,nb11.ld rfl,_,nb11.ld rfl,qJd (nb11.ld rfl) (s38 hh g11.mem (by have:=g11.size;omega) h11.log (by have:=sm.log;omega) fun c7 w12 f12 hc7=>⟨_,rfl,?_⟩)⟩) fun i6=>no _ g11 fun hr=>i6 hr.bt⟩;have g12:=g11.trans' f12 (yQm _);have nb12:=nb.fr g12;have h12:=h1.fr f1.mem g12
 cases c7 with
 | false=>exact qJ0 (no _ g12 fun hr=>absurd (hc7.2 hr.log) (by decide))
 | true=>
 have i7:=hc7.1 rfl;refine qJ3 ⟨_,nb12.ld rfl,_,_,_,_,_,_,_,_,_,_,_,_,_,_,_,_,_,_,_,nb12.ldN,_,nb12.ld rfl,?_⟩;have hb2:n.base<2^41:=by have:=i4.2.1.2;unfold G40 at this;omega
 have sl:=sm.log;refine new_of g12.mem fun w13 f13 b13 z13=>?_;have nb13:=nb12.fr f13;have h13:=h12.fr g12.mem f13;refine⟨nb13.ld rfl,nb13.ldN,nb13.ld rfl,s36 hh f13.mem h13 i4.2.1.1 hb2 sl fun w14 f14=>⟨_,rfl,(nb13.fr f14).ld rfl,(nb13.fr f14).ld rfl,?_⟩⟩;have g14:=(g12.trans' f13 (yQm _)).trans' f14 (yQm _);refine s37 hh f14.mem (qQt (l:=[n.commit]) ((show Box w13 _ _ from b13).fr f14 (by rw[z13];omega)) rfl) (by simp) fun c8 w15 f15 hc8=>⟨_,rfl,?_⟩;rw[btw1]at hc8;have g15:=g14.trans' f15 (yQm _);have nb15:=nb.fr g15;have h15:=h1.fr f1.mem g15
 cases c8 with
 | false=>exact qJ0 (no _ g15 fun hr=>absurd (hc8.2 hr.commit) (by decide))
 | true=>
 have i8:=hc8.1 rfl;refine qJ3 (qJd (nb15.ld rfl) ⟨_,h15.snap.len',qJh (fun i9=>?_) fun i9=>no _ g15 fun hr=>i9 (by have:=hr.snap;omega)⟩);refine qJd (nb15.ld rfl) ⟨_,h15.votes.len',_,nb15.ld rfl,qJh (fun i10=>?_) fun i10=>no _ g15 fun hr=>i10 hr.votes⟩;refine qJd (nb15.ld rfl) ⟨_,h15.next.len',_,nb15.ld rfl,qJh (fun i11=>?_) fun i11=>no _ g15 fun hr=>i11 hr.next⟩;refine qJd (nb15.ld rfl) ⟨_,h15.mtch.len',_,nb15.ld rfl,qJh (fun i12=>?_) fun i12=>no _ g15 fun hr=>i12 hr.mtch⟩;refine qJd (nb15.ld rfl) ⟨_,h15.seen.len',_,nb15.ld rfl,qJh (fun i13=>?_) fun i13=>no _ g15 fun hr=>i13 hr.seen⟩;refine⟨_,_,_,_,_,_,_,_,_,_,_,_,_,_,_,_,_,_,_,nb15.ldN,s39 hh g15.mem (by have:=g15.size;omega) h15 sm.reads fun c9 w16 f16 hc9=>⟨_,rfl,?_⟩⟩;have g16:=g15.trans' f16 (yQm _);have nb16:=nb.fr g16;have h16:=h1.fr f1.mem g16
 cases c9 with
 | false=>exact qJ0 (no _ g16 fun hr=>absurd (hc9.2 hr.reads) (by decide))
 | true=>
 have i14:=hc9.1 rfl;refine qJ3 ⟨_,_,_,_,_,_,_,_,_,_,_,_,_,_,_,_,_,_,_,nb16.ldN,s40 hh g16.mem h16 sm i4.2.1.1 i4.2.1.2 ⟨i2.1,by omega⟩ (by omega) i4.2.2.1.1 fun c10 w17 f17 hc10=>⟨_,rfl,hK _ _ (f1.trans' (g16.trans' f17 (yQm _)) (yQm _)) ?_⟩⟩;rw[hc10];exact⟨fun hx=>⟨i1,i2,i3.1,i3.2,i4.1,i4.2.1,i4.2.2.1,i4.2.2.2,i5,i6,i7,i8,by omega,i10,i11,i12,i13,i14,hx⟩,fun hx=>hx.roles⟩
end
end Go.Proofs.YtghoifolghelnaaGreat
/-
 Which nodes are right: the reference's Right.
 No condition beyond those that each theorem names.
-/
open Go.Sx
namespace Go.Proofs.YtghoifolghelnaaGreat
section
variable {hk:Hook}{A A' B:Nat→Prop}{w w':AW}{K:AV→AW→Prop}{n:Nd}{s:Sl}{v:AV}
theorem dJf {α:Type}{l:List α}{j:Nat}{d:α}(h:j<l.length):l.getD j d∈l:=by
 rw[yQj,yQn h];exact gQp h
def c0(n:Nd):Prop:=(n.role≠3→n.round=0∧n.reads.length=0)∧(n.role=3→n.leads=n.id)
structure Ln(n:Nd):Prop where
 votes:(n.votes.length:Int)=n.size
 next:(n.next.length:Int)=n.size
 mtch:(n.mtch.length:Int)=n.size
 seen:(n.seen.length:Int)=n.size
end
end Go.Proofs.YtghoifolghelnaaGreat
