/-
 Bytes,numbers and rows that grow behind,wherever they lie; bytes cut; calls of what lies outside.
 No condition beyond those that each theorem names.
-/
import Derived.Test.YtghoifolghelnaaGreatSxq
set_option linter.unusedVariables false
set_option linter.unusedSimpArgs false
/-! Bytes that grow behind, wherever they lie. -/
namespace Go.Sx
theorem bJ8(k:Nat):asN (.int .i64 (k:Int))=some k:=rfl
def Gw(X:Nat→Prop)(w:AW)(v:AV)(t:List UInt8):Prop:=
 (v= .nilslice∧t=[])∨∃b f ex o d,v= .slice b 0 t.length t.length ex∧(ex=none∨ex=some 1)∧f≠0∧X f∧w.get b=some (.cells (qJk t) f o d)∧w.root? f=some (f,b,false)
structure Gr(X:Nat→Prop)(v:AV)(w w':AW):Prop where
 size:w.size≤w'.size
 mem:Mem w'
 old:∀b,b<w.size→¬ X b→w'.get b=w.get b
 cells:∀c all,w.cells? c=some all→w'.cells? c=some all
 gw:∀v2 t2,Gw X w v2 t2→(∀c,blk v2=some c→blk v≠some c)→Gw X w' v2 t2
 box:∀c cs,Box w c cs→blk v≠some c→Box w' c cs
theorem idx0 {b n cap k:Nat}{ex:Option Nat}(hk:k<n){K:Nat→Nat→Prop}(hK:K b k):atP (idxS 1 (.slice b 0 n cap ex) (.int .i64 (k:Int))) K:=by
 rw[vJg];have hb:Nat.blt k n=true:=by simp[gQm,hk]
 refine⟨b,0+k * 1,?_,by simpa using hK⟩;show(asN (.int .i64 (Int.ofNat k))).bind _=_;simp only[asN,Option.bind_some,hb,qJf,cond_true]
theorem imin_le(a b:Int):imin a b≤a∧imin a b≤b:=by unfold imin;split<;>omega
theorem qQv {a b:Nat}(h:a≤b):Nat.ble a b=true:=by rw[Nat.ble_eq];exact h
theorem cutB {w:AW}{v:AV}{s:List UInt8}{k:Nat}(h:RsB w v s)(hc:∀b o n cap ex,v= .slice b o n cap ex→n≤cap∧ex=none)(hk:k≤s.length):∃v',slS 1 v none (some (.int .i64 (k:Int))) none=some v'∧RsB w v' (s.take k):=by
 rcases h with⟨rfl,h2,h3⟩ | ⟨b,o,cap,ex,all,rfl,h2,h3,h4⟩
 ·have:s=[]:=List.eq_nil_of_length_eq_zero h2;subst this;have:k=0:=by simpa using hk
  subst this;exact⟨.nilslice,rfl,Rs.nil⟩
 ·obtain⟨h5,rfl⟩:=hc _ _ _ _ _ rfl;refine⟨.slice b (o+0 * 1) (k - 0) (cap - 0) none,?_,.inr ⟨b,o+0 * 1,cap - 0,none,all,?_,h2,?_,?_⟩⟩
  ·simp only[slS,qJ1,Option.bind_some,bJ8,okB,qQv (yQz k),qQv (show k≤cap by omega),qQv (yQm cap),qJf];rfl
  ·congr 1;simp;omega
  ·simp;omega
  ·have e:(s.take k).length=k:=by simp;omega
   rw[e];have:qJk (s.take k)=(qJk s).take k:=by simp[qJk,List.map_take]
   rw[this,h4,List.take_take];congr 1;omega
end Go.Sx
/-! Numbers that grow behind and are written. -/
namespace Go.Sx
theorem xQd(l:List Int)(i:Nat)(x:Int)(hi:i<l.length):qJg (l.map (AV.int .i64)) i [.int .i64 x]=(l.set i x).map (AV.int .i64):=by
 rw[List.set_eq_take_append_cons_drop,if_pos hi];simp[qJg,List.map_take,List.map_drop]
end Go.Sx
/-! Rows of any cells that grow behind; byte blocks that stay; maps in memory. -/
namespace Go.Sx
def Gc(Q:Nat→Prop)(sz:Nat)(w:AW)(v:AV)(cs:List AV):Prop:=
 (v= .nilslice∧cs=[])∨∃b f n ex o d,v= .slice b 0 n n ex∧n * sz=cs.length∧(ex=none∨ex=some sz)∧Q f∧f≠0∧w.get b=some (.cells cs f o d)∧w.root? f=some (f,b,false)
theorem Gc.nil {Q:Nat→Prop}{sz:Nat}{w:AW}:Gc Q sz w .nilslice []:= .inl ⟨rfl,rfl⟩
structure GrC(Q:Nat→Prop)(v:AV)(w w':AW):Prop where
 size:w.size≤w'.size
 mem:Mem w'
 old:∀c,c<w.size→¬ Q c→w'.get c=w.get c
 cells:∀c all,w.cells? c=some all→w'.cells? c=some all
 box:∀c cs,Box w c cs→blk v≠some c→Box w' c cs
 obj:∀c o,w.get c=some o→(∀cs f own d,o≠ .cells cs f own d)→w'.get c=some o
 fam:∀c cs f o d,w.get c=some (.cells cs f o d)→¬ Q f→w'.get c=w.get c
 fml:∀c cs f o d,w.get c=some (.cells cs f o d)→∃cs' o' d',w'.get c=some (.cells cs' f o' d')
theorem GrC.of_fr {Q:Nat→Prop}{v:AV}{w w':AW}(hm:Mem w)(hf:Fr w.size w w'):GrC Q v w w':=
 ⟨hf.size,hf.mem,fun c hc _=>hf.old c hc,fun c all h=>hf.cells hm h (yQm _),fun c cs h _=>h.fr hf (h.lt hm),fun c o h _=>(hf.old c (hm.lt _ _ h)).trans h,fun c cs f o d h _=>hf.old c (hm.lt _ _ h),fun c cs f o d h=>⟨cs,o,d,(hf.old c (hm.lt _ _ h)).trans h⟩⟩
structure Bhd(w:AW)(sz k:Nat)(x:AV)(new:List AV):Prop where
 read:zJp w sz x=some (k,new)
 length:new.length=k * sz
 ok:fJw x new=true
theorem Rs.src {w:AW}{sz k:Nat}{x:AV}{new:List AV}(hx:Rs w sz k x new):Bhd w sz k x new:=⟨hx.read,hx.length,by
 rcases hx with⟨rfl,rfl,rfl⟩ | ⟨b,o,cap,ex,all,rfl,_⟩<;>rfl⟩
theorem Gc.appSrc {Q:Nat→Prop}{sz bytes k:Nat}{w:AW}{v x:AV}{cs new:List AV}(h:Gc Q sz w v cs)(hm:Mem w)(hn0:Q w.size)(hw:0<w.size)(hs:0<sz)(hx:Bhd w sz k x new)
  (hb:(2 * (cs.length / sz+k)+1000) * bytes<2^48) (hb2:cs.length / sz+k<2^62) {K:AV→AW→Prop}
  (hK:∀v' w',Gc Q sz w' v' (cs++new)→GrC Q v w w'→(∀c,blk v'=some c→c<w.size→v'=v)→K v' w'):onE (appS sz bytes w v x) K:=by
 have hl:=hx.length;by_cases hk:k=0
 ·subst hk;have hnil:new=[]:=by simpa using hl
  subst hnil;refine yJv (v:=v) (w:=w) ?_ (hK v w (by simpa using h) (GrC.of_fr hm (Fr.refl hm)) fun _ _ _=>rfl);simp only[appS,hx.read,Option.bind_some];rcases h with⟨rfl,_⟩ | ⟨b,f,n,ex,o,d,rfl,_⟩<;>rfl
 have hk0:Nat.beq k 0=false:=zJ5 hk;have hsz:(!Nat.beq sz 0)=true:=by rw[zJ5 (by omega)];rfl
 have hsrc:fJw x new=true:=hx.ok;have hnb:k * bytes≤(2 * (cs.length / sz+k)+1000) * bytes:=yQ7 _ (by generalize cs.length / sz=q;omega);rcases h with⟨rfl,rfl⟩ | ⟨b,f,n,ex,o,d,rfl,h1,hex,h2,h3,h4,h5⟩
 ·have hfr:Fr w.size w (newCells w new):=Fr.push hm fun cs' f own d e=>by cases e;exact yQm _
  refine yJv (v:= .slice w.size 0 k k (some sz)) (w:=newCells w new) ?_ (hK _ _ ?_ (GrC.of_fr hm hfr) fun c hc hlt=>?_)
  ·simp only[appS,hx.read,Option.bind_some,hk0,cond_false,hsz,hsrc,Bool.true_and,qJf,cond_true];have e1:Nat.ble (k * bytes) room=true:=by rw[Nat.ble_eq];unfold room;omega
   have e2:Nat.blt k (2^62)=true:=by rw[gQm];simp at hb2;omega
   rw[e1,e2];rfl
  ·have hb:Box (newCells w new) w.size new:=by simp[Box,newCells,qJ4]
   exact .inr ⟨w.size,w.size,k,some sz,w.size,false,rfl,by simp[hl],.inr rfl,hn0,by omega,hb,AW.root?_iff.2 ⟨_,hb,rfl⟩⟩
  ·simp only[blk,yQx]at hc;omega
 ·have hdiv:cs.length / sz=n:=by rw[←h1];exact gQ2 _ hs
  rw[hdiv]at hb hb2;obtain⟨c0,hc0,_⟩:=AW.root?_iff.1 h5;simp only[]at hc0;have hblt:=hm.lt _ _ h4;have hflt:=hm.lt _ _ hc0;have hfam:w.fam? b=some (f,b,false):=AW.fam?_iff.2 ⟨cs,o,d,h4,h5⟩;have hcells:w.cells? b=some cs:=AW.cells?_iff.2 ⟨(f,b,false),o,d,hfam,.inl rfl,h4⟩;have e0:Nat.ble (n+k) n=false:=by
   cases he:Nat.ble (n+k) n with
   | false=>rfl
   | true=>rw[Nat.ble_eq]at he;omega
  have e1:Nat.blt ((2 * (n+k)+1000) * bytes) room=true:=by rw[gQm];unfold room;exact hb
  have e2:Nat.blt (n+k) (2^62)=true:=by rw[gQm];exact hb2
  have e4:qJz cs 0 (n * sz)=some cs:=by rw[qJ6 (by omega),List.drop_zero,h1,gQi]
  have hnew:(n+k) * sz=(cs++new).length:=by rw[gQl,yQs,h1,hl]
  rcases hex with rfl | rfl
  ·have hfr:Fr w.size w (newCells w (cs++new)):=Fr.push hm fun cs' f own d e=>by cases e;exact yQm _
   refine yJv (v:= .slice w.size 0 (n+k) (n+k) (some sz)) (w:=newCells w (cs++new)) ?_ (hK _ _ ?_ (GrC.of_fr hm hfr) fun c hc hlt=>?_)
   ·simp only[appS,hx.read,Option.bind_some,hk0,cond_false,hsz,hsrc,Bool.true_and,qJf,cond_true,e0,e1,e2,bJv,hcells,e4]
   ·have hb:Box (newCells w (cs++new)) w.size (cs++new):=by simp[Box,newCells,qJ4]
    exact .inr ⟨w.size,w.size,n+k,some sz,w.size,false,rfl,hnew,.inr rfl,hn0,by omega,hb,AW.root?_iff.2 ⟨_,hb,rfl⟩⟩
   ·simp only[blk,yQx]at hc;omega
  ·let w1:=w.set f (.cells c0 f w.size false)
   let w':=w1.push (.cells (cs++new) f 0 false)
   have hset:w.setFam f w.size false=w1:=by unfold AW.setFam;rw[hc0]
   have happ:appS sz bytes w (.slice b 0 n n (some sz)) x=some (.slice w.size 0 (n+k) (n+k) (some sz),w'):=by
    have e3:Nat.beq (0+n * sz) cs.length=true:=by rw[Nat.zero_add,h1];simp
    simp only[appS,hx.read,Option.bind_some,hk0,cond_false,hsz,hsrc,Bool.true_and,qJf,cond_true,e0,e1,e2,Bool.and_self,bJv,hcells,e4,Nat.beq_refl,e3,AW.heir,hfam];rw[if_pos ⟨h3,trivial⟩,hset];rfl
   have hm1:Mem w1:=hm.set hflt fun cs f own d e=>by cases e;exact yQm _
   have hm':Mem w':=hm1.push fun cs f own d e=>by cases e;simpa [w1]using Nat.le_of_lt hflt
   have hget:∀c,w'.get c=if c=w.size then some (.cells (cs++new) f 0 false)else if c=f then some (.cells c0 f w.size false)else w.get c:=fun c=>by
    simp only[w',w1,AW.push_get,AW.set_get,AW.set_size]
   have hroot:w'.root? f=some (f,w.size,false):=AW.root?_iff.2 ⟨c0,by rw[hget,if_neg (by omega),if_pos rfl],rfl⟩;have hcellsK:∀c all,w.cells? c=some all→w'.cells? c=some all:=fun c all h=>by
    obtain⟨y,o',d',g1,g2,g3⟩:=AW.cells?_iff.1 h;have hclt:=hm.lt _ _ g3;by_cases hyf:y.1=f
    ·refine AW.cells?_iff.2 ⟨(f,w.size,false),if c=f then w.size else o',if c=f then false else d',AW.fam?_iff.2 ⟨all,if c=f then w.size else o',if c=f then false else d',?_,hroot⟩,.inl rfl,?_⟩
     all_goals
      rw[hget,if_neg (by omega)];by_cases hcf:c=f
      ·subst hcf;rw[if_pos rfl,if_pos rfl,if_pos rfl];rw[hc0]at g3;cases g3;rfl
      ·rw[if_neg hcf,if_neg hcf,if_neg hcf];rw[g3,hyf]
    ·have hylt:y.1<w.size:=Nat.lt_of_le_of_lt (hm.fam _ _ _ _ _ g3) hclt;have hcf:c≠f:=fun e=>by
      subst e;rw[hc0]at g3;cases g3;exact hyf rfl
     rw[AW.cells?_congr g1 (by rw[hget,if_neg (by omega),if_neg hcf]) (by rw[hget,if_neg (by omega),if_neg hyf])];exact h
   refine yJv happ (hK _ _ ?_ ⟨by simp[w',w1],hm',fun c hc hq=>by rw[hget,if_neg (by omega),if_neg (fun e:c=f=>hq (e▸h2))],hcellsK,fun c cs' hc hne=>?_,fun c ob hg hno=>?_,fun c cs' f' o' d' hg hq=>?_,fun c cs' f' o' d' hg=>?_⟩ fun c hc hlt=>?_)
   ·exact .inr ⟨w.size,f,n+k,some sz,0,false,rfl,hnew,.inr rfl,h2,h3,by rw[hget,if_pos rfl],hroot⟩
   ·have hcl:=hc.lt hm;have hcf:c≠f:=fun e=>by
     subst e;have hc':w.get c=some (.cells cs' c c false):=hc;rw[hc0]at hc';cases hc';exact hne rfl
    unfold Box;rw[hget,if_neg (by omega),if_neg hcf];exact hc
   ·have hcl:=hm.lt _ _ hg;have hcf:c≠f:=fun e=>by
     subst e;rw[hc0]at hg;cases hg;exact hno _ _ _ _ rfl
    rw[hget,if_neg (by omega),if_neg hcf];exact hg
   ·have hcl:=hm.lt _ _ hg;have hcf:c≠f:=fun e=>by
     subst e;rw[hc0]at hg;cases hg;exact hq h2
    rw[hget,if_neg (by omega),if_neg hcf]
   ·have hcl:=hm.lt _ _ hg;by_cases hcf:c=f
    ·subst hcf;rw[hc0]at hg;cases hg;exact⟨c0,w.size,false,by rw[hget,if_neg (by omega),if_pos rfl]⟩
    ·exact⟨cs',o',d',by rw[hget,if_neg (by omega),if_neg hcf];exact hg⟩
   ·simp only[blk,yQx]at hc;omega
theorem Gc.app {Q:Nat→Prop}{sz bytes k:Nat}{w:AW}{v x:AV}{cs new:List AV}(h:Gc Q sz w v cs)(hm:Mem w)(hn0:Q w.size)(hw:0<w.size)(hs:0<sz)(hx:Rs w sz k x new)
  (hb:(2 * (cs.length / sz+k)+1000) * bytes<2^48) (hb2:cs.length / sz+k<2^62) {K:AV→AW→Prop}
  (hK:∀v' w',Gc Q sz w' v' (cs++new)→GrC Q v w w'→(∀c,blk v'=some c→c<w.size→v'=v)→K v' w'):onE (appS sz bytes w v x) K:=h.appSrc hm hn0 hw hs hx.src hb hb2 hK
end Go.Sx
/-! Calls of what lies outside the program. -/
namespace Go.Sx
end Go.Sx
