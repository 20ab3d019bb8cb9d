/-
 Rows copied,grown and put together,of any cells.
 No condition beyond those that each theorem names.
-/
import Derived.Test.YtghoifolghelnaaGreatSxt
set_option linter.unusedVariables false
set_option linter.unusedSimpArgs false
open Go.Sx
/-! Rows copied, grown and put together, of any cells. -/
namespace Go.Sx
abbrev TAny:Nat→Prop:=fun _=>True
theorem idxk {sz b n cap k:Nat}{ex:Option Nat}(hk:k<n){K:Nat→Nat→Prop}(hK:K b (k * sz)):atP (idxS sz (.slice b 0 n cap ex) (.int .i64 (k:Int))) K:=by
 have hbl:Nat.blt k n=true:=by simp[gQm,hk]
 refine vJg.2 ⟨b,0+k * sz,?_,by rw[Nat.zero_add];exact hK⟩;show(asN (.int .i64 (Int.ofNat k))).bind _=_;simp only[asN,Option.bind_some,hbl,qJf,cond_true]
section
variable {α:Type}{r:Rp α}{A A' B:Nat→Prop}{I:List Nat}{w0 w w':AW}{L L':Obs}{v v' xv:AV}{l l':List α}
def Cln(r:Rp α)(A:Nat→Prop)(w w':AW)(v v':AV)(l:List α):Prop:=
 (l=[]∧v'= .nilslice)∨∃b ex cs,v'= .slice b 0 l.length l.length ex∧(ex=none∧l=[]∨ex=some r.sz)∧w.size≤b∧Box w' b cs∧Chk r A w cs l∧Chk r A w' cs l
theorem Cln.rd(h:Cln r A w w' v v' l)(hA:∀c,w.size≤c→A' c)(hf:∀{cs:List AV},Chk r A w' cs l→Chk r A' w' cs l):(rL r).rd A' w' [v'] l:=by
 rcases h with⟨rfl,rfl⟩ | ⟨b,ex,cs,rfl,hex,hb,hx,_,hc⟩
 ·exact Rp.rd.nil
 ·exact Box.sl hx (hA b hb) rfl (hf hc) (yQm _) (by rcases hex with⟨rfl,_⟩ | rfl<;>simp[okEx])
theorem gJv {bytes sz:Nat}(hm:Mem w)(h:(rL r).rd A w [v] l)(hsz:r.sz=sz)(hs:0<sz)(hl:l.length<2^38)(hby:bytes≤200){X:AV→Option AV}(hX0:X .nilslice=some (.bool true))(hX1:∀b o n c ex,X (.slice b o n c ex)=some (.bool false)){K:AV→AW→Prop}
  (hK:∀v' w',Fr w.size w w'→Cln r A w w' v v' l→K v' w'):
  ∃x:Bool,X v=some (.bool x)∧ifT x (K .nilslice w) (new w [] fun b2 w3=>onE (appS sz bytes w3 (.slice b2 0 0 0 none) v) fun x4 w5=>K x4 w5):=by
 subst hsz;obtain⟨all,g1,g2⟩:=h.rs;rcases g1 with⟨rfl,h2,h3⟩ | ⟨b,o,cap,ex,al,rfl,q1,q2,q3⟩
 ·have:l=[]:=by simpa using h2
  subst this;exact⟨true,hX0,qJ3 (hK _ _ (Fr.refl hm) (.inl ⟨rfl,rfl⟩))⟩
 ·refine⟨false,hX1 ..,qJ0 (new_of hm fun w3 f3 b3 z3=>?_)⟩;have g1:Rs w r.sz l.length (.slice b o l.length cap ex) all:= .inr ⟨b,o,cap,ex,al,rfl,q1,q2,q3⟩;have g3:Rs w3 r.sz l.length (.slice b o l.length cap ex) all:=Rs.fr g1 hm f3 (yQm _);have hx:=g3.src;by_cases hn:l.length=0
  ·have:l=[]:=by simpa using hn
   subst this;refine yJv (v:= .slice w.size 0 0 0 none) (w:=w3) ?_ (hK _ _ f3 (.inr ⟨_,none,[],rfl,.inl ⟨rfl,rfl⟩,yQm _,b3,rfl,rfl⟩));have:=hx.read;simp only[gQw]at this;simp only[appS,gQw,this,Option.bind_some];rfl
  ·have f4:Fr w3.size w3 (newCells w3 all):=Fr.push f3.mem fun cs' f own d e=>by cases e;exact yQm _
   have b4:Box (newCells w3 all) w3.size all:=by simp[Box,newCells,qJ4]
   have f04:=f3.trans' f4 (yQm _);refine yJv (v:= .slice w3.size 0 l.length l.length (some r.sz)) (w:=newCells w3 all) ?_ (hK _ _ f04 (.inr ⟨_,_,all,rfl,.inr rfl,f3.size,b4,g2,g2.xa ⟨fun c f al a b d=>⟨a,b,d.fr hm f04 (yQm _)⟩⟩⟩));have e0:(!Nat.beq r.sz 0)=true:=by rw[zJ5 (by omega)];rfl
   have e1:Nat.ble (0+l.length) 0=false:=by rw[←gQh,Nat.ble_eq];omega
   have hmul:(2 * (0+l.length)+1000) * bytes≤(2 * (0+l.length)+1000) * 200:=Nat.mul_le_mul_left _ hby
   have e2:Nat.blt ((2 * (0+l.length)+1000) * bytes) Sx.room=true:=by rw[gQm];unfold Sx.room;omega
   have e3:Nat.blt (0+l.length) (2^62)=true:=by rw[gQm];omega
   have e4:qJz ([]:List AV) 0 (0 * r.sz)=some []:=by rw[Nat.zero_mul];rfl
   simp only[appS,hx.read,Option.bind_some,zJ5 hn,cond_false,hx.ok,qJf,e0,e1,e2,e3,Bool.and_self,cond_true,bJv,b3.cells,e4,List.nil_append,Nat.zero_add];simp only[Nat.zero_add]at e1 e2 e3;rw[e1,e2,e3];rfl
theorem wQn {bytes sz:Nat}(hm:Mem w)(h:(rL r).rd A w [v] l)(hsz:r.sz=sz)(hs:0<sz)(hl:l.length * bytes≤140737488351232)(hby:0<bytes){K:AV→AW→Prop}
  (hK:∀v' w',Fr w.size w w'→Cln r A w w' v v' l→K v' w'):onE (appS sz bytes w .nilslice v) K:=by
 subst hsz;obtain⟨all,g1,g2⟩:=h.rs;have hx:=g1.src;by_cases hn:l.length=0
 ·have:l=[]:=by simpa using hn
  subst this;refine yJv (v:= .nilslice) (w:=w) ?_ (hK _ _ (Fr.refl hm) (.inl ⟨rfl,rfl⟩));have:=hx.read;simp only[gQw]at this;simp only[appS,this,Option.bind_some];rfl
 ·have f4:Fr w.size w (newCells w all):=Fr.push hm fun cs' f own d e=>by cases e;exact yQm _
  have b4:Box (newCells w all) w.size all:=by simp[Box,newCells,qJ4]
  refine yJv (v:= .slice w.size 0 l.length l.length (some r.sz)) (w:=newCells w all) ?_ (hK _ _ f4 (.inr ⟨_,_,all,rfl,.inr rfl,yQm _,b4,g2,g2.xa ⟨fun c f al a b d=>⟨a,b,d.fr hm f4 (yQm _)⟩⟩⟩));have e0:(!Nat.beq r.sz 0)=true:=by rw[zJ5 (by omega)];rfl
  have hmul:l.length * 1≤l.length * bytes:=Nat.mul_le_mul_left _ hby
  have e1:Nat.ble (l.length * bytes) Sx.room=true:=by rw[Nat.ble_eq];unfold Sx.room;omega
  have e2:Nat.blt l.length (2^62)=true:=by rw[gQm];omega
  simp only[appS,hx.read,Option.bind_some,zJ5 hn,cond_false,hx.ok,qJf,e0,e1,e2,Bool.and_self,cond_true]
theorem cJl {f:α→AV}{F:Nat→Prop}(st:Ow F I w0 w L)(h:Cln r A w w' v v' l)(hl:0<l.length)(hf:∀cs,Chk r A w' cs l→cs=l.map f)(hfr:Fr w.size w w'):∃b,v'= .slice b 0 l.length l.length (some r.sz)∧Ow F I w0 w' ((b,.row (l.map f))::L)∧Xt (ids L) w (b::ids L) w':=by
 rcases h with⟨rfl,_⟩ | ⟨b,ex,cs,rfl,hex,hb,hx,_,hc⟩
 ·simp at hl
 ·have e:=hf _ hc;subst e;rcases hex with⟨_,rfl⟩ | rfl
  ·simp at hl
  ·obtain⟨a,b2⟩:=st.push (p:=(b,.row (l.map f))) rfl hfr hb hx;exact⟨b,rfl,a,b2⟩
theorem Ow.appInZ(h:Ow A I w0 w L)(i:Nat){b k cap m sz bytes:Nat}{ex:Option Nat}{cs new:List AV}{xv:AV}(hi:nth L i=some (b,.row cs))(hx:Bhd w sz m xv new)(hs:0<sz)(hc:k+m≤cap)(hl:cs.length=cap * sz){K:AV→AW→Prop}
  (hK:∀w',Ow A I w0 w' (stN L i (b,.row (qJg cs (k * sz) new)))→Xt (ids L) w (ids L) w'→K (.slice b 0 (k+m) cap ex) w'):onE (appS sz bytes w (.slice b 0 k cap ex) xv) K:=by
 have hnl:=hx.length;by_cases hm:m=0
 ·subst hm;have hnil:new=[]:=by simpa using hnl
  subst hnil;have he:qJg cs (k * sz) []=cs:=by simp[qJg]
  rw[he,gJg hi]at hK;refine yJv (v:= .slice b 0 (k+0) cap ex) (w:=w) ?_ (hK w h Xt.refl);simp only[appS,hx.read,Option.bind_some];rfl
 ·have hle:k * sz+new.length≤cs.length:=by
   rw[hnl,hl,←gQl];exact yQ7 _ hc
  have hK':∀w',w.putCells b (0+k * sz) new=some w'→K (.slice b 0 (k+m) cap ex) w':=by
   intro w' e;have:=h.put (o:=0+k * sz) (vs:=new) i hi (by omega) (K:=fun w'=>K (.slice b 0 (k+m) cap ex) w') (by simpa using hK);rw[e]at this;exact this
  have hp:∃w',w.putCells b (0+k * sz) new=some w':=by
   obtain⟨hb,_,_,hz⟩:=h.box _ (qJw hi) rfl;exact⟨_,Box.put hb hz (by omega)⟩
  obtain⟨w',hw'⟩:=hp;refine yJv (v:= .slice b 0 (k+m) cap ex) (w:=w') ?_ (hK' w' hw');have e0:(!Nat.beq sz 0)=true:=by rw[zJ5 (by omega)];rfl
  have e1:Nat.ble (k+m) cap=true:=by rw[Nat.ble_eq];exact hc
  simp only[appS,hx.read,Option.bind_some,zJ5 hm,cond_false,hx.ok,qJf,e0,e1,cond_true,hw',Option.map_some,Bool.and_self]
theorem zQ4 {z:List AV}(hz:z.all qJc=true)(n:Nat):(repl n z).all qJc=true:=by
 induction n with
 | zero=>rfl
 | succ n ih=>show(z++repl n z).all qJc=true;rw[List.all_append,hz,ih];rfl
theorem zQ5(z:List AV)(n:Nat):(repl n z).length=n * z.length:=by
 induction n with
 | zero=>rw[Nat.zero_mul];rfl
 | succ n ih=>show(z++repl n z).length=_;rw[yQs,ih,gQl,Nat.one_mul,Nat.add_comm]
theorem tJj {P:Program}{t e:TypeId}{sz bytes n:Nat}{z:AV}(h1:Sx.elemOf P t=some e)(h2:szOf P e=some sz)(h3:bytesOf P e=some bytes)(h4:zJv P e=some z)(h5:P.underlying 3=some (.int .i64))(hz:z.cells.all qJc=true)(hs:0<sz)(hn:0<n)(hl:n<2^38)(hby:bytes≤200):
  vJj P w t (some 3) .nilslice (.int .i64 (n:Int))=some (.slice w.size 0 n n (some sz),newCells w (repl n z.cells)):=by
 have hmul:n * bytes≤n * 200:=Nat.mul_le_mul_left _ hby
 have e5:appSrc P w e sz bytes (some 3) (.int .i64 (n:Int))=some (n,repl n z.cells):=by
  simp only[appSrc,h5,Option.bind_some];show Sx.madeCells P e bytes (.int .i64 (Int.ofNat n))=_;unfold Sx.madeCells;simp only[h4,Option.bind_some];have e6:Nat.blt n (2^40)=true:=by rw[gQm];omega
  have e7:Nat.blt (n * bytes) Sx.room=true:=by rw[gQm];unfold Sx.room;omega
  rw[e6,e7];rfl
 have e0:(!Nat.beq sz 0)=true:=by rw[zJ5 (by omega)];rfl
 have e1:Nat.ble (n * bytes) Sx.room=true:=by rw[Nat.ble_eq];unfold Sx.room;omega
 have e2:Nat.blt n (2^62)=true:=by rw[gQm];omega
 have e8:fJw (.int .i64 (n:Int)) (repl n z.cells)=true:=by
  show(repl n z.cells).all qJc=true;exact zQ4 hz n
 unfold vJj;simp only[h1,h2,h3,h4,Option.bind_some,e5,zJ5 (show n≠0 by omega),cond_false,qJf,e0,e1,e2,e8,Bool.and_self,cond_true]
theorem sJ6 {P:Program}{t e:TypeId}{sz bytes n:Nat}{z:AV}(h1:Sx.elemOf P t=some e)(h2:szOf P e=some sz)(h3:bytesOf P e=some bytes)(h4:zJv P e=some z)(h5:P.underlying 3=some (.int .i64))(h6:capA P t .nilslice=some (.int .i64 0))(hz:z.cells.all qJc=true)(hzl:z.cells.length=sz)(hs:0<sz)(hm:Mem w)(hn:0<n)(hl:n<2^38)(hby:bytes≤200){K:AV→AW→Prop}
  (hK:∀w' cs,Fr w.size w w'→Box w' w.size cs→cs.length=n * sz→K (.slice w.size 0 0 n (some sz)) w'):
  ifT (decide ((n:Int)<0)) False (∃x2:Int,capA P t .nilslice=some (.int .i64 x2)∧∃x3:Int,lenS .nilslice=some (.int .i64 x3)∧
   ifT (decide (0<(wi ((n:Int) - (wi (x2 - x3)))))) (∃x4:Int,capA P t .nilslice=some (.int .i64 x4)∧onM (slS sz .nilslice none (some (.int .i64 x4)) none) fun x5=>
    onE (vJj P w t (some 3) x5 (.int .i64 (wi ((n:Int) - (wi (x2 - x3)))))) fun x6 w7=>∃x8:Int,lenS .nilslice=some (.int .i64 x8)∧onM (slS sz x6 none (some (.int .i64 x8)) none) fun s9=>K s9 w7) (K .nilslice w)):=by
 refine qJh (fun hc=>absurd hc (by omega)) fun _=>⟨0,h6,0,rfl,?_⟩;have e:wi ((n:Int) - wi (0 - 0))=(n:Int):=by
  rw[show wi (0 - 0)=0 from by decide,qJq (by omega) (by omega)];omega
 rw[e];refine qJh (fun _=>?_) fun hc=>absurd hc (by omega);refine⟨0,h6,qJd (v:= .nilslice) rfl ?_⟩;have f1:Fr w.size w (newCells w (repl n z.cells)):=Fr.push hm fun cs' f own d e=>by cases e;exact yQm _
 have b1:Box (newCells w (repl n z.cells)) w.size (repl n z.cells):=by simp[Box,newCells,qJ4]
 refine yJv (tJj h1 h2 h3 h4 h5 hz hs hn hl hby) ⟨0,rfl,qJd (v:= .slice w.size 0 0 n (some sz)) ?_ (hK _ _ f1 b1 (by rw[zQ5,hzl]))⟩;have e1:okB 0 0 n n=true:=by simp[okB]
 simp only[slS,qJ1];show qJf (okB 0 0 n n&&okEx (some sz) sz&&_) _=_;rw[e1];simp[okEx,qJf]
theorem kQx {cs new1 new2:List AV}(h:cs.length=new1.length+new2.length):qJg (qJg cs 0 new1) new1.length new2=new1++new2:=by
 have e1:qJg cs 0 new1=new1++cs.drop new1.length:=by simp[qJg]
 rw[e1];simp only[qJg];rw[List.take_left' rfl,gQ1 (by rw[yQs,yQ3];omega),gQc]
theorem bJ2 {P:Program}{hk:Hook}{g c sz bytes:Nat}{v1 v2:AV}{l1 l2:List α}(hm:Mem w)(hpos:0<w.size)(hc:Box w c [v1,v2])(hsz:r.sz=sz)(hs:0<sz)(h1:(rL r).rd A w [v1] l1)(h2:(rL r).rd A w [v2] l2)(hn:0<l1.length+l2.length)(hl:l1.length+l2.length<2^38)
  (hg:∀(w:AW) (n:Nat) (K:AV→AW→Prop),Mem w→0<n→n<2^38→(∀w' cs,Fr w.size w w'→Box w' w.size cs→cs.length=n * sz→K (.slice w.size 0 0 n (some sz)) w')→Cl P hk g [.nilslice,.int .i64 (n:Int)] w K) {K:AV→AW→Prop}
  (hK:∀w',Fr w.size w w'→(∀A',(∀b,w.size≤b→A' b)→(∀(cs:List AV) (l:List α),Chk r A w' cs l→Chk r A' w' cs l)→(rL r).rd A' w' [.slice w.size 0 (l1.length+l2.length) (l1.length+l2.length) (some sz)] (l1++l2))→K (.slice w.size 0 (l1.length+l2.length) (l1.length+l2.length) (some sz)) w'):
  ∃x1:Int,lenS (.slice c 0 2 2 none)=some (.int .i64 x1)∧
  zJ9 [(.int .i64 0),(.int .i64 0)] w fun R l3 w4=>∃size5:Int,∃x6:Int,l3=[(.int .i64 size5),(.int .i64 x6)]∧∀_:Nat→AV,
   ifT (decide (x6<x1)) (atP (idxS 1 (.slice c 0 2 2 none) (.int .i64 x6)) fun b7 o8=>onM (ld w4 b7 o8) fun s9=>∃x10:Int,lenS s9=some (.int .i64 x10)∧
    ifT (decide ((wi (size5+x10))<0)) (False) (R [(.int .i64 (wi (size5+x10))),(.int .i64 (wi (x6+1)))] w4))
   (Cl P hk g [.nilslice,(.int .i64 size5)] w4 fun r11 w12=>∃x13:Int,lenS (.slice c 0 2 2 none)=some (.int .i64 x13)∧
    zJ9 [r11,(.int .i64 0)] w12 fun R l15 w16=>∃ns17:AV,∃x18:Int,l15=[ns17,(.int .i64 x18)]∧∀_:Nat→AV,
     ifT (decide (x18<x13)) (atP (idxS 1 (.slice c 0 2 2 none) (.int .i64 x18)) fun b19 o20=>onM (ld w16 b19 o20) fun s21=>onE (appS sz bytes w16 ns17 s21) fun ns22 w23=>R [ns22,(.int .i64 (wi (x18+1)))] w23) (K ns17 w16)):=by
 subst hsz;refine⟨2,rfl,?_⟩;intro R hR;have hcl:=hc.lt hm;have g0:ld w c 0=some v1:=by rw[hc.ld];rfl
 have g1:ld w c 1=some v2:=by rw[hc.ld];rfl
 refine hR _ _ ⟨_,_,rfl,fun _=>qJh (fun _=>idx0 (k:=0) (by decide) (qJd g0 ⟨_,h1.len',?_⟩)) fun hc=>absurd hc (by decide)⟩;have e1:wi (0+((l1.length:Nat):Int))=((l1.length:Nat):Int):=by rw[qJq (by omega) (by omega)];omega
 rw[e1];refine qJh (fun hx=>absurd hx (by omega)) fun _=>?_;refine hR _ _ ⟨_,_,rfl,fun _=>qJh (fun _=>idx0 (k:=1) (by decide) (qJd g1 ⟨_,h2.len',?_⟩)) fun hc=>absurd hc (by decide)⟩;have e2:wi (((l1.length:Nat):Int)+((l2.length:Nat):Int))=((l1.length+l2.length:Nat):Int):=by rw[qJq (by omega) (by omega)];omega
 rw[e2];refine qJh (fun hx=>absurd hx (by omega)) fun _=>?_;refine hR _ _ ⟨_,_,rfl,fun _=>qJh (fun hc=>absurd hc (by decide)) fun _=>?_⟩;refine hg w _ _ hm hn hl fun w12 cs12 f12 b12 hl12=>⟨2,rfl,?_⟩;have pv:Pv (fun _=>True) w:=⟨hm,hpos,fun _ _=>trivial⟩;obtain⟨st12,x12⟩:=pv.st.push (p:=(w.size,.row cs12)) rfl f12 (yQm _) b12;intro R2 hR2;have hb12:=hc.fr f12 hcl;have g0:ld w12 c 0=some v1:=by rw[hb12.ld];rfl
 obtain⟨a1,r1,k1⟩:=h1.rs;obtain⟨a2,r2,k2⟩:=h2.rs;have r1':Rs w12 r.sz l1.length v1 a1:=Rs.fr r1 hm f12 (yQm _);refine hR2 _ _ ⟨_,_,rfl,fun _=>qJh (fun _=>idx0 (k:=0) (by decide) (qJd g0 ?_)) fun hc=>absurd hc (by decide)⟩;refine st12.appInZ 0 rfl r1'.src hs (by omega) hl12 fun w23 st23 x23=>?_;have f23:=st23.fr;have hb23:=hc.fr f23 hcl;have g1:ld w23 c 1=some v2:=by rw[hb23.ld];rfl
 have r2':Rs w23 r.sz l2.length v2 a2:=Rs.fr r2 hm f23 (yQm _);have q1:=k1.len;have q2:=k2.len;refine hR2 _ _ ⟨_,_,rfl,fun _=>qJh (fun _=>idx0 (k:=1) (by decide) (qJd g1 ?_)) fun hc=>absurd hc (by decide)⟩;rw[gQl]at hl12;refine st23.appInZ 0 rfl r2'.src hs (by omega) (by rw[Nat.zero_mul];simp only[qJg,Nat.zero_add,List.take_zero,List.nil_append,yQs,yQ3];rw[gQl];omega) fun w33 st33 x33=>?_;refine hR2 _ _ ⟨_,_,rfl,fun _=>qJh (fun hc=>absurd hc (by decide)) fun _=>?_⟩;have hb:Box w33 w.size _:=(st33.box _ yQu rfl).1;have f33:=st33.fr;rw[Nat.zero_mul,show(0+l1.length) * r.sz=a1.length by rw[Nat.zero_add,q1],kQx (by omega)]at hb;have:=hK w33 f33 fun A' hA hf=>Box.sl hb (hA _ (yQm _)) (by rw[yQs]) (hf _ _ ((k1.xa ⟨fun c f al a b d=>⟨a,b,d.fr hm f33 (yQm _)⟩⟩).app (k2.xa ⟨fun c f al a b d=>⟨a,b,d.fr hm f33 (yQm _)⟩⟩))) (yQm _) (by simp[okEx]);rw[Nat.zero_add];exact this
end
end Go.Sx
