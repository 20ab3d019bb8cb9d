/-
 What a group knows.
 No condition beyond those that each theorem names.
-/
import Derived.Test.YtghoifolghelnaaGreatMf
import Derived.Test.YtghoifolghelnaaGreatMc
import Derived.Test.YtghoifolghelnaaGreatSxl
import Derived.Test.YtghoifolghelnaaGreatSxm
import Derived.Test.YtghoifolghelnaaGreatSxo
import Derived.Test.YtghoifolghelnaaGreatProg
import Derived.KernelRfl
import Derived.Shelf.SortM.Plain
import Derived.Shelf.SortM.SortNone
import Derived.Ground.SlgmProg
set_option linter.unusedSimpArgs false
set_option linter.unusedVariables false
open Go.Sx
namespace Go.Proofs.YtghoifolghelnaaGreat
section
variable {hk:Hook}{A A' B:Nat→Prop}{w0 w w':AW}{K:AV→AW→Prop}{n n':Nd}{s s':Sl}{v v':AV}{g:Nat}{x x':Gr}{q q':GO}{M M':Obs}{L:Obs}{b:Nat}
theorem s61 {l:Byts}(hh:HK hk)(h:(rL rU).rd A w [v] l)(h':(rL rU).rd A' w [v'] l)(hK:K (.bool true) w):Cl Tryz.prog hk 61 [v,v'] w K:=by
 refine in61 (hh.no _ _ _ (by decide) (by decide)) ?_;unfold wQ9;refine⟨_,h.rsB.str,_,h'.rsB.str,?_⟩;rw[beq_self_eq_true];exact hK
theorem s28 {a n:Int}(hh:HK hk)(hn:n<2^40)(hK:∀r:Nat,(0<n→(r:Int)<n)→(n≤0→r=0)→K (.int .i64 (r:Int)) w):Cl Tryz.prog hk 28 [.int .i64 a,.int .i64 n] w K:=by
 refine in28 (hh.no _ _ _ (by decide) (by decide)) ?_;unfold yQe;refine qJh (fun hc=>hK 0 (fun h=>by omega) fun _=>rfl) fun hc=>?_;have h1:=Int.lt_tmod_of_pos a (show 0<n by omega);have h2:=Int.tmod_lt_of_pos a (show 0<n by omega);refine⟨a.tmod n,?_,qJh (fun hc2=>?_) fun hc2=>?_⟩
 ·show(if n=0 then none else some (AV.int .i64 (a.tmod n)))=_;rw[if_neg (by omega)]
 ·rw[qJq (by omega) (by omega)];have e:a.tmod n+n=((a.tmod n+n).toNat:Int):=by omega
  rw[e];exact hK _ (fun _=>by omega) fun h=>by omega
 ·have e:a.tmod n=((a.tmod n).toNat:Int):=by omega
  rw[e];exact hK _ (fun _=>by omega) fun h=>by omega
theorem s76 {i:Int}(hh:HK hk)(hm:Mem w)(hi:0≤i)(hi2:i<2^62)(hK:∀v w',Fr w.size w w'→(rL rU).rd (Nw w) w' [v] (uJc i)→K v w'):Cl Tryz.prog hk 76 [.int .i64 i] w K:=by
 refine in76 (hh.no _ _ _ (by decide) (by decide)) ?_;unfold wQ6 be;refine new_of hm fun w3 f3 b3 z3=>hK _ _ f3 (Box.sl b3 (yQm _) rfl (Chk.bytes.2 ?_));have e1:IntKind.wrap .u8 (shrI .i64 i 8)=((UInt8.ofNat (i.toNat / 256)).toNat:Int):=by
  rw[UInt8.toNat_ofNat'];show(i.fdiv 256) % 256=_;rw[Int.fdiv_eq_ediv_of_nonneg _ (by decide)];omega
 have e2:IntKind.wrap .u8 i=((UInt8.ofNat i.toNat).toNat:Int):=by
  rw[UInt8.toNat_ofNat'];show i % 256=_;omega
 rw[e1,e2];rfl
def uJl(bag out:List Msg):List Msg:=if 80<(bag++out).length then(bag++out).drop ((bag++out).length - 80)else bag++out
theorem s77 {out:AV}{ms:List Msg}(hh:HK hk)(gm:GM w0 w g x q M)(hx:(rL rM).rd (fz TA (ids (gL q g x M))) w [out] ms)(hsz:x.bag.length+ms.length≤1000)(hK:∀q' w',GM w0 w' g {x with bag:=uJl x.bag ms} q' M→Xw (ids (gL q g x M)) w (ids (gL q' g {x with bag:=uJl x.bag ms} M)) w'→K (.tup []) w'):Cl Tryz.prog hk 77 [.ptr g 0,out] w K:=by
 refine in77 (hh.no _ _ _ (by decide) (by decide)) ?_;unfold wQ5;simp only[onP];refine qJd (v:=q.vB) (gm.st.ld 0 rfl rfl) (gm.appB hx (by omega) fun q1 w9 gm9 x9=>?_);refine qJd (v:=q1.vB) (gm9.st.ld 0 rfl rfl) ⟨_,gm9.rdB.len',qJh (fun hc=>?_) fun hc=>?_⟩
 ·have hl:80<(x.bag++ms).length:=by
   have hc:(80:Int)<((x.bag++ms).length:Int):=hc;omega
  have e:wi (((x.bag++ms).length:Int) - 80)=(((x.bag++ms).length - 80:Nat):Int):=by
   rw[yQs]at *;rw[qJq (by omega) (by omega)];omega
  refine qJd (v:=q1.vB) (gm9.st.ld 0 rfl rfl) (qJd (v:=q1.vB) (gm9.st.ld 0 rfl rfl) ⟨_,gm9.rdB.len',?_⟩);show onM (slS 12 q1.vB (some (.int .i64 (wi (((x.bag++ms).length:Int) - 80)))) none none) _;rw[e];refine gm9.cutB (Nat.sub_le _ _) fun q2 w24 gm24 x24=>?_;have e2:({x with bag:=uJl x.bag ms}:Gr)={x with bag:=(x.bag++ms).drop ((x.bag++ms).length - 80)}:=by unfold uJl;rw[if_pos hl]
  exact hK q2 w24 (by rw[e2];exact gm24) (by rw[e2];exact x9.trans x24)
 ·have e2:({x with bag:=uJl x.bag ms}:Gr)={x with bag:=x.bag++ms}:=by
   unfold uJl;rw[if_neg (by show ¬ 80<(x.bag++ms).length;have hc:¬ (80:Int)<((x.bag++ms).length:Int):=hc;omega)]
  exact hK q1 w9 (by rw[e2];exact gm9) (by rw[e2];exact x9)
structure KnO(x:Gr)(n:Nd):Prop where
 right:qJl n
 base:n.base.toNat≤x.S.length
 snap:0<n.base→n.snap=uJc n.base
 same:∀j e,n.base.toNat≤j→j<n.commit.toNat→j<x.S.length→n.log[j - n.base.toNat]? =some e→x.S[j]? =some e
 lds:n.role=3→n.term<400→x.lds.getD n.term.toNat 0=0∨x.lds.getD n.term.toNat 0=n.id
def knS(S:List Ent)(n:Nd)(j:Nat):List Ent:=S++(n.log.drop (S.length - n.base.toNat)).take (j - S.length)
def knL(l:List Int)(n:Nd):List Int:=if n.role=3∧n.term<400 then l.set n.term.toNat n.id else l
def knG(x:Gr)(n:Nd):Gr:={x with S:=knS x.S n n.commit.toNat,lds:=knL x.lds n}
theorem gJr {S:List Ent}{j:Nat}(h:j≤S.length):knS S n j=S:=by
 unfold knS;rw[show j - S.length=0 by omega,List.take_zero,gQc]
theorem bJq {S:List Ent}{j:Nat}(hb:n.base.toNat≤S.length)(hj:j≤n.base.toNat+n.log.length):(knS S n j).length=max S.length j:=by
 unfold knS;rw[yQs,yQ9,yQ3];omega
theorem oJm {S:List Ent}{j:Nat}{e:Ent}(hb:n.base.toNat≤S.length)(hj:S.length≤j)(he:n.log[j - n.base.toNat]? =some e):knS S n (j+1)=knS S n j++[e]:=by
 unfold knS;rw[show j+1 - S.length=(j - S.length)+1 by omega,List.take_add_one,yQy];congr 2;rw[gQj,show S.length - n.base.toNat+(j - S.length)=j - n.base.toNat by omega,he];rfl
theorem idxi {sz b n cap:Nat}{ex:Option Nat}{k:Int}(h0:0≤k)(hk:k.toNat<n){K:Nat→Nat→Prop}(hK:K b (k.toNat * sz)):atP (idxS sz (.slice b 0 n cap ex) (.int .i64 k)) K:=by
 obtain⟨m,rfl⟩:=yQ8 h0;exact idxk hk hK
theorem GM.setL(gm:GM w0 w g x q M){t:Nat}(ht:t<400){y:Int}{K:AW→Prop}(hK:∀w',GM w0 w' g {x with lds:=x.lds.set t y} q M→Xw (ids (gL q g x M)) w (ids (gL q g {x with lds:=x.lds.set t y} M)) w'→K w'):onM (w.putCells q.bL (t * 1) [.int .i64 y]) K:=by
 have hl:=gm.ll;refine gm.st.put 4 rfl (by rw[yQr,hl];simp only[gQv];omega) fun w' st' x'=>?_;rw[Nat.mul_one,xQd _ _ _ (by omega)]at st';have xw:Xw (ids (gL q g x M)) w (ids (gL q g {x with lds:=x.lds.set t y} M)) w':=x'.xw;exact hK w' ⟨st',gm.lN,gm.wN,gm.cN.xa xw.xa,gm.sB,gm.cB.xa xw.xa,gm.sS,gm.cS.xa xw.xa,gm.sA,by show(x.lds.set t y).length=400;rw[yQ0];exact hl⟩ xw
theorem GM.ldL(gm:GM w0 w g x q M){t:Nat}(ht:t<400):Sx.ld w q.bL (t * 1)=some (.int .i64 (x.lds.getD t 0)):=by
 have hl:=gm.ll;refine gm.st.ld 4 rfl ?_;rw[Nat.mul_one,gQn,yQn (by omega),yQj,yQn (by omega)];rfl
theorem k78(hh:HK hk)(gm:GM w0 w g x q ((b,.row (ndC n s))::M))(nr:NR (fz TA (ids (gL q g x ((b,.row (ndC n s))::M)))) w n s)(ok:KnO x n)(hS:x.S.length≤100000)(hl:n.log.length≤100000)(hK:∀q' w',GM w0 w' g (knG x n) q' M→Xw (ids (gL q g x ((b,.row (ndC n s))::M))) w (ids (gL q' g (knG x n) M)) w'→K (.bool true) w'):vQa hk (.ptr g 0) b 0 w K:=by
 unfold vQa;simp only[onP];have hb:=ok.right.base;have hc:=ok.right.commit;have hlN:qJi n=n.base+n.log.length:=rfl;have hob:=ok.base;unfold G40 at hb;refine⟨_,gm.st.ld 6 rfl rfl,?_⟩;refine qJr (fun m lv w6=>∃(j:Nat) (q6:GO),n.base.toNat≤j∧j≤n.commit.toNat∧m=n.commit.toNat - j∧lv=[.int .i64 ((j:Int)+1)]∧GM w0 w6 g {x with S:=knS x.S n j} q6 ((b,.row (ndC n s))::M)∧Xw (ids (gL q g x ((b,.row (ndC n s))::M))) w (ids (gL q6 g {x with S:=knS x.S n j} ((b,.row (ndC n s))::M))) w6) ?_
  ⟨n.base.toNat,q,yQm _,by omega,rfl,by rw[qJq (by omega) (by omega),Int.toNat_of_nonneg hb.1],by rw[gJr hob];exact gm,by rw[gJr hob];exact Xw.refl⟩
 rintro m lv w6 ⟨j,q6,hj1,hj2,rfl,rfl,gm6,x6⟩ R ih;have nr6:=nr.yw x6;refine⟨_,rfl,fun _=>⟨_,gm6.st.ld 6 rfl rfl,qJh (fun hlt=>?_) fun hge=>?_⟩⟩
 ·have hjl:j - n.base.toNat<n.log.length:=by omega
  have hidx:wi (wi ((j:Int)+1 - n.base) - 1)=((j - n.base.toNat:Nat):Int):=by
   rw[qJq (x:=(j:Int)+1 - n.base) (by omega) (by omega),qJq (by omega) (by omega)];omega
  refine qJd (v:=s.log) (gm6.st.ld 6 rfl rfl) ⟨_,gm6.st.ld 6 rfl rfl,?_⟩;rw[hidx];refine nr6.log.at hjl fun b11 o12 cs hr hf hn=>?_;obtain⟨u,rfl,hu⟩:=hr;have hget:n.log[j - n.base.toNat]? =some n.log[j - n.base.toNat]:=yQn hjl;generalize n.log[j - n.base.toNat]=e at hget hu hn;refine⟨_,_,hn,gm6.new fun b15 w16 gm16 x16=>gd_t (by simp only[List.all_cons,hu.ok1];rfl) (gm16.put (yQk rfl) fun w17 gm17 x17=>?_)⟩;have hu17:=hu.y (x16.trans x17)
  -- what is told is the same
  refine zJm (fun l w19=>∃q19,l=[.ptr g 0,.ptr b 0,.int .i64 ((j:Int)+1),.ptr b15 0]∧GM w0 w19 g {x with S:=knS x.S n (j+1)} q19 ((b15,.row [.int .i64 e.1,u])::(b,.row (ndC n s))::M)∧Xw (ids (gL q g x ((b,.row (ndC n s))::M))) w (ids (gL q19 g {x with S:=knS x.S n (j+1)} ((b15,.row [.int .i64 e.1,u])::(b,.row (ndC n s))::M))) w19∧(rL rU).rd (fz TA (ids (gL q19 g {x with S:=knS x.S n (j+1)} ((b15,.row [.int .i64 e.1,u])::(b,.row (ndC n s))::M)))) w19 [u] e.2) ?_ fun J hJ=>?_
  ·rintro l w19 ⟨q19,rfl,gm19,x19,hu19⟩;refine⟨_,_,_,_,_,_,rfl,fun _=>?_⟩;have hSl:(knS x.S n (j+1)).length=max x.S.length (j+1):=bJq hob (by omega);have hSj:(knS x.S n (j+1))[j]? =some e:=by
    by_cases hjS:j<x.S.length
    ·unfold knS;rw[gQa hjS];exact ok.same j e hj1 (by omega) hjS hget
    ·rw[oJm hob (by omega) hget,gQg (by rw[bJq hob (by omega)];omega),bJq hob (by omega)];rw[show j - max x.S.length j=0 by omega];rfl
   have hjS2:j<(knS x.S n (j+1)).length:=by rw[hSl];omega
   have hge2:(knS x.S n (j+1))[j]=e:=by
    have:=yQn hjS2;rw[hSj]at this;exact(gQb this).symm
   have hi2:wi ((j:Int)+1 - 1)=(j:Int):=by rw[qJq (by omega) (by omega)];omega
   refine qJd (v:=q19.vS) (gm19.st.ld 0 rfl rfl) ?_;rw[hi2];refine gm19.rdS.at hjS2 fun b30 o31 cs2 hr2 hf2 hn2=>?_;have hr2:rE.rd TA w19 cs2 (knS x.S n (j+1))[j]:=hr2;rw[hge2]at hr2;obtain⟨u2,rfl,hu2⟩:=hr2;refine⟨_,hf2 0 (by decide),_,gm19.st.ld 6 rfl rfl,gd_t (by simp) ?_⟩;refine qJd (v:=q19.vS) (gm19.st.ld 0 rfl rfl) (gm19.rdS.at hjS2 fun b37 o38 cs3 hr3 hf3 hn3=>?_);have hr3:rE.rd TA w19 cs3 (knS x.S n (j+1))[j]:=hr3;rw[hge2]at hr3;obtain⟨u3,rfl,hu3⟩:=hr3;refine qJd (hf3 1 (by decide)) (qJd (v:=u) (gm19.st.ld 6 rfl rfl) (s61 hh hu3 hu19 ⟨_,rfl,qJ0 ?_⟩));obtain⟨gm20,x20⟩:=gm19.drop;exact ih (n.commit.toNat - (j+1)) (by omega) _ _ ⟨j+1,q19,by omega,by omega,rfl,by rw[qJq (by omega) (by omega)];rfl,gm20,x19.trans x20⟩
  ·refine qJd (v:=q6.vS) (gm17.st.ld 0 rfl rfl) ⟨_,gm17.rdS.len',qJh (fun hlt2=>?_) fun hge2=>?_⟩
   ·-- a new one
    have hlt2:((knS x.S n j).length:Int)<(j:Int)+1:=hlt2;have hSl:(knS x.S n j).length=max x.S.length j:=bJq hob (by omega);have hjS:x.S.length≤j:=by omega
    refine qJd (v:=q6.vS) (gm17.st.ld 0 rfl rfl) ⟨_,gm17.st.ld 6 rfl rfl,qJd (v:=u) (gm17.st.ld 6 rfl rfl) ?_⟩;refine s46 hh gm17.mem hu17 (by have:=vJb ok.right.log e (List.mem_of_getElem? hget);omega) fun r53 w54 f54 hcl=>?_;have hr54:(rL rU).rd (Nw w17) w54 [r53] e.2:=hcl.rd (fun _ h=>h) Chk.flU;obtain⟨gm54,x54⟩:=gm17.call f54;have hr54':=bJa hr54 gm17.st;refine gd_t hr54.ok1 (gd_t (by simp only[List.all_cons,hr54.ok1];rfl) (new_of gm54.mem fun w56 f56 b56 z56=>?_));obtain⟨gm56,x56⟩:=gm54.call f56;refine⟨gm56.st.ld 6 rfl rfl,gm56.st.ld 0 rfl rfl,?_⟩;have hnew:(rL rE).rd (fz TA (ids (gL q6 g {x with S:=knS x.S n j} ((b15,.row [.int .i64 e.1,u])::(b,.row (ndC n s))::M)))) w56 [.slice w54.size 0 1 1 none] [e]:=Box.rd1 b56 ⟨trivial,fun hx=>gQx _ (gm54.st.ids_lt hx)⟩ ⟨r53,rfl,hr54'.y x56⟩;refine gm56.appS hnew (by show(knS x.S n j).length+1≤1000000;omega) fun q1 w61 gm61 x61=>?_;have x1761:=(x54.trans x56).trans x61;have e2:knS x.S n (j+1)=knS x.S n j++[e]:=oJm hob hjS hget;exact hJ _ _ ⟨q1,rfl,by rw[e2];exact gm61,by rw[e2];exact((x6.trans x16).trans x17).trans x1761,by rw[e2];exact hu17.y x1761⟩
   ·have hge2:¬ ((knS x.S n j).length:Int)<(j:Int)+1:=hge2;have hSl:(knS x.S n j).length=max x.S.length j:=bJq hob (by omega);have e2:knS x.S n (j+1)=knS x.S n j:=by rw[gJr (by omega),gJr (by omega)]
    exact hJ _ _ ⟨q6,rfl,by rw[e2];exact gm17,by rw[e2];exact(x6.trans x16).trans x17,by rw[e2];exact hu17⟩
 ·have hj:j=n.commit.toNat:=by omega
  subst hj;have ht0:=ok.right.term;refine zJm (fun l w63=>l=[.ptr g 0,.ptr b 0,.bool (decide (n.role=3∧n.term<400))]∧w63=w6) ?_ fun J hJ=>?_
  ·rintro l w63 ⟨rfl,rfl⟩;refine⟨_,_,_,_,rfl,fun _=>qJh (fun hc3=>?_) fun hc3=>?_⟩
   ·obtain⟨h3,h4⟩:=hc3;have eL:knL x.lds n=x.lds.set n.term.toNat n.id:=by unfold knL;rw[if_pos ⟨h3,h4⟩]
    refine zJm (fun l w70=>l=[.ptr g 0,.ptr b 0]∧w70=w63) ?_ fun J71 hJ71=>?_
    ·rintro l w70 ⟨rfl,rfl⟩;refine⟨_,_,_,rfl,fun _=>qJd (gm6.st.ld 0 rfl rfl) ⟨_,gm6.st.ld 6 rfl rfl,_,gm6.st.ld 6 rfl rfl,idxi ht0.1 (by omega) ?_⟩⟩;refine gm6.setL (by omega) fun w82 gm82 x82=>?_;obtain⟨gm83,x83⟩:=gm82.drop;refine hK q6 w82 ?_ ?_
     ·unfold knG;rw[eL];exact gm83
     ·unfold knG;rw[eL];exact(x6.trans x82).trans x83
    ·refine qJd (gm6.st.ld 0 rfl rfl) ⟨_,gm6.st.ld 6 rfl rfl,idxi ht0.1 (by omega) ⟨_,gm6.ldL (by omega),vJv (fun hn0=>?_) fun _=>hJ71 _ _ ⟨rfl,rfl⟩⟩⟩;refine qJd (gm6.st.ld 0 rfl rfl) ⟨_,gm6.st.ld 6 rfl rfl,idxi ht0.1 (by omega) ⟨_,gm6.ldL (by omega),_,gm6.st.ld 6 rfl rfl,vJv (fun hn1=>?_) fun _=>hJ71 _ _ ⟨rfl,rfl⟩⟩⟩;rcases ok.lds h3 h4 with h5 | h5
     ·exact absurd h5 hn0
     ·exact absurd h5 hn1
   ·have eL:knL x.lds n=x.lds:=by unfold knL;rw[if_neg hc3]
    obtain⟨gm83,x83⟩:=gm6.drop;refine hK q6 _ ?_ ?_
    ·unfold knG;rw[eL];exact gm83
    ·unfold knG;rw[eL];exact x6.trans x83
  ·refine⟨_,gm6.st.ld 6 rfl rfl,qJh (fun h3=>⟨_,gm6.st.ld 6 rfl rfl,qJd (gm6.st.ld 0 rfl rfl) ⟨_,rfl,hJ _ _ ⟨?_,rfl⟩⟩⟩) fun h3=>hJ _ _ ⟨?_,rfl⟩⟩
   ·rw[decide_eq_decide.2 (show n.term<((400:Nat):Int)↔n.role=3∧n.term<400 by omega)]
   ·rw[decide_eq_false (show ¬ (n.role=3∧n.term<400)by omega)]
theorem qJl.sm2 {n:Nd}(h:qJl n)(hl:n.log.length≤100000):Sm n:=by
 have:=h.size;have:=h.snap;have:=h.votes;have:=h.next;have:=h.mtch;have:=h.seen;have:=h.reads.2;exact⟨by omega,by omega,by omega,by omega,by omega,by omega,by omega⟩
theorem s78(hh:HK hk)(gm:GM w0 w g x q M)(nr:NR (fz TA (ids (gL q g x M))) w n s)(ok:KnO x n)(hS:x.S.length≤100000)(hl:n.log.length≤100000)(hK:∀q' w',GM w0 w' g (knG x n) q' M→Xw (ids (gL q g x M)) w (ids (gL q' g (knG x n) M)) w'→K (.bool true) w'):Cl Tryz.prog hk 78 [.ptr g 0,.agg (ndC n s)] w K:=by
 refine in78 (hh.no _ _ _ (by decide) (by decide)) (fun vs w1=>∃b,vs=[.ptr g 0,.ptr b 0]∧GM w0 w1 g x q ((b,.row (ndC n s))::M)∧NR (fz TA (ids (gL q g x ((b,.row (ndC n s))::M)))) w1 n s∧Xw (ids (gL q g x M)) w (ids (gL q g x ((b,.row (ndC n s))::M))) w1) ?_ fun vs w1 h=>?_
 ·unfold wQ4;have sm:=ok.right.sm2 hl;have hob:=ok.base;have hb:=ok.right.base;unfold G40 at hb;refine gd_t nr.ok (gm.new fun b w4 gm4 x4=>qJd (gm4.st.ldN 6 rfl rfl rfl) ?_);have nr4:=nr.yw x4;refine s8 hh gm4.mem gm4.pos nr4 sm fun c w7 f7 hc=>⟨_,rfl,?_⟩;rw[hc.2 ok.right];obtain⟨gm7,x7⟩:=gm4.call f7;have nr7:=nr4.yw x7;refine gd_t rfl ⟨_,gm7.st.ld 6 rfl rfl,qJd (v:=q.vS) (gm7.st.ld 0 rfl rfl) ⟨_,gm7.rdS.len',qJh (fun hlt=>?_) fun _=>⟨_,gm7.st.ld 6 rfl rfl,qJh (fun h0=>?_) fun h0=>?_⟩⟩⟩
  ·exfalso;omega
  ·refine qJd (v:=s.snap) (gm7.st.ld 6 rfl rfl) ⟨_,gm7.st.ld 6 rfl rfl,?_⟩;refine s76 hh gm7.mem hb.1 (by omega) fun v w18 f18 hv=>?_;obtain⟨gm18,x18⟩:=gm7.call f18;have nr18:=nr7.yw x18;refine⟨gm18.st.ld 6 rfl rfl,?_⟩;have hsn:=nr18.snap;rw[ok.snap h0]at hsn;exact s61 hh hsn hv ⟨_,rfl,qJ0 ⟨b,rfl,gm18,nr18,(x4.trans x7).trans x18⟩⟩
  ·exact⟨b,rfl,gm7,nr7,x4.trans x7⟩
 ·obtain⟨b,rfl,gm1,nr1,x1⟩:=h;exact go78_1 (k78 hh gm1 nr1 ok hS hl fun q' w' gm' x'=>hK q' w' gm' (x1.trans x'))
def becG(x:Gr)(i:Nat)(n:Nd)(ms:List Msg):Gr:=knG {x with ns:=x.ns.set i n,bag:=uJl x.bag ms} n
theorem s33 {i:Nat}{out:AV}{ms:List Msg}(hh:HK hk)(gm:GM w0 w g x q M)(hi:i<x.ns.length)(nr:NR (fz TA (ids (gL q g x M))) w n s)(hx:(rL rM).rd (fz TA (ids (gL q g x M))) w [out] ms)(hsz:x.bag.length+ms.length≤1000)(ok:KnO x n)(hS:x.S.length≤100000)(hl:n.log.length≤100000)(hK:∀q' w',GM w0 w' g (becG x i n ms) q' M→Xw (ids (gL q g x M)) w (ids (gL q' g (becG x i n ms) M)) w'→K (.bool true) w'):Cl Tryz.prog hk 33 [.ptr g 0,.int .i64 (i:Int),.agg (ndC n s),out,.int .i64 0] w K:=by
 refine in33 (hh.no _ _ _ (by decide) (by decide)) ?_;unfold yQa;refine gd_t nr.ok (gm.new fun b w7 gm7 x7=>qJ0 ?_);have nr7:=nr.yw x7;have hx7:=hx.y x7;refine qJd (gm7.st.ld 0 rfl rfl) (qJd (gm7.st.ldN 6 rfl rfl rfl) (gm7.atN hi (gd_t nr.ok (gd_t rfl (gm7.setN hi nr7 fun q1 w15 gm15 x15=>?_)))));refine s77 hh gm15 (hx7.y x15) hsz fun q2 w17 gm17 x17=>⟨rfl,qJd (gm17.st.ldN 6 rfl rfl rfl) ?_⟩;have nr17:=(nr7.yw x15).yw x17;refine s78 hh gm17 nr17 ⟨ok.right,ok.base,ok.snap,ok.same,ok.lds⟩ hS hl fun q3 w20 gm20 x20=>⟨_,rfl,?_⟩;obtain⟨gm21,x21⟩:=gm20.drop;exact hK q3 w20 gm21 ((((x7.trans x15).trans x17).trans x20).trans x21)
end
end Go.Proofs.YtghoifolghelnaaGreat
/-
 What holds of a group,and what each call makes of it.
 No condition beyond those that each theorem names.
-/
open Go.Sx
namespace Go.Proofs.YtghoifolghelnaaGreat
def ndf(l:List Nd):Nat→Nd:=fun k=>l.getD k (newN 0 0 0)
structure GInv(N M:Nat)(x:Gr)(G:Gh):Prop where
 inv:INV G N M (ndf x.ns) x.bag
 S:G.S=x.S
 rd:RDI N (ndf x.ns) x.bag x.ask
 ld:∀t:Nat,t<400→x.lds.getD t 0≠0→x.lds.getD t 0=G.ld t
 len:x.ns.length=N
 bag:x.bag.length≤80
 size:N≤5
 al:x.ask.length≤M
section
variable {G G':Gh}{N M M' i j k:Nat}{P Q:List Ent}{n n' n1 n2:Nd}{nd:Nat→Nd}{bag bag1 out:List Msg}{m:Msg}{t t' dr:Int}{d:Byts}{x x':Gr}
theorem jJh {l:List Nd}(hi:i<l.length):ndf l i=l[i]:=by
 unfold ndf;rw[yQj,yQn hi];rfl
theorem fJy {l:List Nd}(hi:i<l.length):ndf (l.set i n')=fu (ndf l) i n':=by
 funext k;unfold ndf fu;rw[yQj,gQo];by_cases e:i=k
 ·rw[if_pos e,if_pos e.symm,if_pos hi];rfl
 ·rw[if_neg e,if_neg (Ne.symm e),←yQj]
theorem tJ3 {b o:List Msg}(h:m∈uJl b o):m∈b++o:=by
 unfold uJl at h;split at h
 ·exact List.mem_of_mem_drop h
 ·exact h
theorem jQa {b o:List Msg}:(uJl b o).length≤80:=by
 unfold uJl;split
 ·rw[yQ3];omega
 ·omega
theorem kn_knS(a:NI G N i n)(hS:G.S=kn P (G.H i) n.commit.toNat)(hp:P<+:G.S)(hb:n.base.toNat≤P.length):knS P n n.commit.toNat=G.S:=by
 have hcom:=a.com;by_cases hc:n.commit.toNat≤P.length
 ·rw[gJr hc,hS,aJq hc]
 ·have e:G.S=(G.H i).take n.commit.toNat:=by rw[hS];unfold kn;rw[if_neg hc]
  rw[e]at hp ⊢;have e2:P=(G.H i).take P.length:=by
   have:=yJe (hp.trans (gQu _ _));exact this
  unfold knS;rw[a.log,gQs,show n.base.toNat+(P.length - n.base.toNat)=P.length by omega]
  conv=>lhs;lhs;rw[e2]
  rw[←List.take_add];congr 1;omega
theorem GInv.step0 {ask':List Int}(h:GInv N M x G)(r:R1 G N M' (ndf x.ns) x.bag i n' out)(hi:i<N)(hrd:RDI N (fu (ndf x.ns) i n') (x.bag++out) ask')(hal:ask'.length≤M')(hsub:∀m∈bag1,m∈x.bag):
  KnO x n'∧n'.log.length≤M'∧∃G',GInv N M' (becG {x with bag:=bag1,ask:=ask'} i n' out) G':=by
 obtain⟨G',e,inv',eS,hbase⟩:=r;have a:=inv'.ni i hi;rw[qJ8]at a;have hHl:=inv'.Hlen hi;rw[h.S]at eS hbase;have hSp:x.S<+:G'.S:=by rw[←h.S];exact e.S
 have hkn:=kn_knS a eS hSp hbase;have hcom:=a.com;have hb0:=a.right.base;have hli:i<x.ns.length:=by rw[h.len];exact hi
 have hlds:n'.role=3→n'.term<400→(x.lds.getD n'.term.toNat 0=0∨x.lds.getD n'.term.toNat 0=n'.id)∧(G'.ld n'.term:Int)=n'.id:=fun h3 h4=>by
  have h5:=(a.lead h3).1;have ht0:=a.right.term;have e1:((n'.term.toNat:Nat):Int)=n'.term:=by omega
  have hid:=a.id;refine⟨?_,by omega⟩;by_cases hz:x.lds.getD n'.term.toNat 0=0
  ·exact .inl hz
  ·right;have h6:=h.ld n'.term.toNat (by omega) hz;rw[e1]at h6;have h7:=(e.ld n'.term (by omega)).1;omega
 refine⟨⟨a.right,hbase,a.snap,fun j y h1 h2 h3 h4=>?_,fun h3 h4=>(hlds h3 h4).1⟩,?_,G',⟨?_,?_,?_,fun t ht4 hne=>?_,?_,jQa,h.size,hal⟩⟩
 ·have h5:(G'.H i)[j]? =some y:=by
   rw[a.log,gQj]at h4;rw[←h4];congr 1;omega
  have h6:((G'.H i).take n'.commit.toNat)[j]? =some y:=by rw[List.getElem?_take,if_pos h2];exact h5
  obtain⟨R,hR⟩:=a.st;have h7:G'.S[j]? =some y:=by
   rw[←hR,gQa (by rw[yQ9];omega)];exact h6
  obtain⟨R2,hR2⟩:=hSp;rw[←hR2,gQa h3]at h7;exact h7
 ·rw[a.log,yQ3];omega
 ·show INV G' N M' (ndf (x.ns.set i n')) (uJl bag1 out);rw[fJy hli];refine inv'.sub fun m hm=>?_;rcases yQ1.1 (tJ3 hm)with hm | hm
  ·exact List.mem_append_left _ (hsub m hm)
  ·exact List.mem_append_right _ hm
 ·exact hkn.symm
 ·show RDI N (ndf (x.ns.set i n')) (uJl bag1 out) ask';rw[fJy hli];refine hrd.sub fun m hm=>?_;rcases yQ1.1 (tJ3 hm)with hm | hm
  ·exact List.mem_append_left _ (hsub m hm)
  ·exact List.mem_append_right _ hm
 ·have hne:(knL x.lds n').getD t 0≠0:=hne;show(knL x.lds n').getD t 0=G'.ld t;have old:x.lds.getD t 0≠0→x.lds.getD t 0=G'.ld t:=fun h1=>by
   have h2:=h.ld t ht4 h1;rw[(e.ld t (by omega)).1];exact h2
  unfold knL at hne ⊢;split at hne
  ·rename_i hc;rw[if_pos hc];rw[yQj,gQo]at hne ⊢;by_cases e1:n'.term.toNat=t
   ·rw[if_pos e1]at hne ⊢;split at hne
    ·rename_i hl;rw[if_pos hl];have:=(hlds hc.1 hc.2).2;have ht0:=a.right.term;rw[←e1,Int.toNat_of_nonneg ht0.1];exact this.symm
    ·exact absurd rfl hne
   ·rw[if_neg e1]at hne ⊢;rw[←yQj]at hne ⊢;exact old hne
  ·rename_i hc;rw[if_neg hc];exact old hne
 ·show(x.ns.set i n').length=N;rw[yQ0];exact h.len
theorem GInv.step(h:GInv N M x G)(r:R1 G N M' (ndf x.ns) x.bag i n' out)(hi:i<N)(own:OwnR (ndf x.ns i) n' i x.bag)(ht:(ndf x.ns i).term≤n'.term)(hout:∀m∈out,m.src=i+1∧(m.kind=4→m.term=n'.term))(hsub:∀m∈bag1,m∈x.bag)(hMM:M≤M':=by omega):
  KnO x n'∧n'.log.length≤M'∧∃G',GInv N M' (becG {x with bag:=bag1} i n' out) G':=h.step0 (ask':=x.ask) r hi (h.rd.step hi own ht hout) (gQt h.al hMM) hsub
theorem rJo:∀{l:List Rdg} {a b:Int} (k:Nat),rdsP a b l→rdsP a b (l.drop k)
  | l,a,b,0,h=>by rw[List.drop_zero];exact h
  | [],a,b,k+1,h=>by rw[List.drop_nil];exact h
  | r::l,a,b,k+1,⟨h1,h2⟩=>by
    rw[List.drop_succ_cons];have:=rJo k h2;generalize l.drop k=l' at this
    cases l' with
    | nil=>exact gQy (Int.le_of_lt h1) this
    | cons y l'=>exact⟨Int.lt_trans h1 this.1,this.2⟩
theorem iJj(h:qJl n):qJl (mJh n):=by
 obtain⟨a1,a2,a3,a4,a5,a6,a7,a8,a9,a10,a11,a12,a13,a14,a15,a16,a17,a18,a19⟩:=h;have hd:(n.reads.drop (sureK n)).length≤n.reads.length:=by rw[yQ3];omega
 refine⟨a1,a2,a3,a4,a5,a6,a7,a8,a9,a10,a11,a12,a13,a14,a15,a16,a17,⟨rJo _ a18.1,gQt hd a18.2⟩,?_⟩;rcases a19 with⟨h1,⟨b1,b2,b3,b4,b5⟩,h3⟩ | ⟨h1,⟨b1,b2,b3,b4,b5⟩,h3⟩ | ⟨h1,h2⟩
 ·exact .inl ⟨h1,⟨b1,b2,b3,b4,by show(n.reads.drop (sureK n)).length=0;omega⟩,h3⟩
 ·exact .inr (.inl ⟨h1,⟨b1,b2,b3,b4,by show(n.reads.drop (sureK n)).length=0;omega⟩,h3⟩)
 ·exact .inr (.inr ⟨h1,h2⟩)
theorem GInv.ni(h:GInv N M x G)(hi:i<N):NI G N i (ndf x.ns i):=h.inv.ni i hi
theorem GInv.tick(h:GInv N M x G)(hi:i<N)(hM:M<100000):KnO x (wJ3 (ndf x.ns i) dr)∧(wJ3 (ndf x.ns i) dr).log.length≤M+1∧∃G',GInv N (M+1) (becG x i (wJ3 (ndf x.ns i) dr) (uJa (ndf x.ns i) dr)) G':=by
 have a:=h.ni hi;exact h.step (bag1:=x.bag) (h.inv.tick hi (by unfold G40;omega)) hi jQe (iJh a.right).term (fun m hm=>by
  have:=jQh m hm;rw[a.id]at this;exact⟨this.1,fun e=>absurd e this.2⟩) fun m hm=>hm
theorem GInv.take(h:GInv N M x G)(hm:m∈x.bag)(hM:M<100000)(hsub:∀m∈bag1,m∈x.bag):∃i,i<N∧m.dst=i+1∧MsgP (ndf x.ns i) m∧m.ents.length≤M∧KnO x (gJf (ndf x.ns i) m dr)∧(gJf (ndf x.ns i) m dr).log.length≤M+1∧∃G',GInv N (M+1) (becG {x with bag:=bag1} i (gJf (ndf x.ns i) m dr) (fJa (ndf x.ns i) m dr)) G':=by
 obtain⟨ok,⟨s0,_,_,_,_,_,k3,_⟩,⟨i,hi,hd⟩,_,sh⟩:=h.inv.mi m hm;have a:=h.ni hi;have P:=ok (ndf x.ns i) (by rw[a.id,hd]) a.size;have hel:m.ents.length≤M:=by
  by_cases e:m.kind=3
  ·have:=(k3 e).2.1;have:=h.inv.len m.term;omega
  ·rw[sh e];exact yQz _
 refine⟨i,hi,hd,P,hel,h.step (h.inv.take hi hm hd (by unfold G40;omega)) hi (jQf hm P.srcR.1) (iJi a.right P).term (fun m' hm'=>?_) hsub⟩;have:=jQi m' hm';rw[a.id]at this;exact this
theorem GInv.put(h:GInv N M x G)(hi:i<N)(hr:(ndf x.ns i).role=3)(hd:d.length≤60000)(hM:M<100000):KnO x (putN (ndf x.ns i) d)∧(putN (ndf x.ns i) d).log.length≤M+1∧∃G',GInv N (M+1) (becG x i (putN (ndf x.ns i) d) (xJt (putN (ndf x.ns i) d) (ndf x.ns i).size.toNat)) G':=by
 have a:=h.ni hi;exact h.step (bag1:=x.bag) (h.inv.propose hi hr hd (by unfold G40;omega)) hi (.same rfl rfl rfl rfl) (yQo _) (fun m hm=>by
  have:=fJu m hm;have e:(putN (ndf x.ns i) d).id=i+1:=a.id;rw[e]at this;exact⟨this.1,fun e=>absurd e this.2⟩) fun m hm=>hm
theorem GInv.comp(h:GInv N M x G)(hi:i<N)(hlt:(ndf x.ns i).base<(ndf x.ns i).commit)(hM:M<100000):KnO x (bJ3 (ndf x.ns i) (ndf x.ns i).commit (uJc (ndf x.ns i).commit))∧(bJ3 (ndf x.ns i) (ndf x.ns i).commit (uJc (ndf x.ns i).commit)).log.length≤M∧∃G',GInv N M (becG x i (bJ3 (ndf x.ns i) (ndf x.ns i).commit (uJc (ndf x.ns i).commit)) []) G':=
 h.step (bag1:=x.bag) (h.inv.comp hi hlt (by unfold G40;omega)) hi (.same rfl rfl rfl rfl) (yQo _) (fun m hm=>by cases hm) fun m hm=>hm
theorem GInv.anew(h:GInv N M x G)(hi:i<N):KnO x (gJ3 (ndf x.ns i) dr)∧(gJ3 (ndf x.ns i) dr).log.length≤M∧∃G',GInv N M (becG x i (gJ3 (ndf x.ns i) dr) []) G':=
 h.step (bag1:=x.bag) (h.inv.anew hi (iJm (h.ni hi).right)) hi (.inl rfl) (yQo _) (fun m hm=>by cases hm) fun m hm=>hm
theorem GInv.read(h:GInv N M x G)(hi:i<N)(hr:(ndf x.ns i).role=3)(hc:(termAt (ndf x.ns i).base (ndf x.ns i).bt ((ndf x.ns i).log.map (·.1)) (ndf x.ns i).commit).1=(ndf x.ns i).term)(h64:(ndf x.ns i).reads.length<64)(hrd:(ndf x.ns i).round≠G40)(hM:M<100000):
  KnO x (kJa (ndf x.ns i) x.ask.length)∧(kJa (ndf x.ns i) x.ask.length).log.length≤M+1∧∃G',GInv N (M+1) (becG {x with ask:=x.ask++[(x.S.length:Int)]} i (kJa (ndf x.ns i) x.ask.length) (xJt (kJa (ndf x.ns i) x.ask.length) (ndf x.ns i).size.toNat)) G':=by
 have a:=h.ni hi;have hli:i<x.ns.length:=by rw[h.len];exact hi
 have hout:∀m∈xJt (kJa (ndf x.ns i) x.ask.length) (ndf x.ns i).size.toNat,m.src=i+1∧m.kind≠4:=fun m hm=>by
  have:=fJu m hm;have e:(kJa (ndf x.ns i) x.ask.length).id=i+1:=a.id;rw[e]at this;exact this
 have hrdi:=h.rd.read h.inv hi hr hc hout;rw[h.S]at hrdi;exact h.step0 (bag1:=x.bag) ((h.inv.read (id:=(x.ask.length:Int)) hi hr h64 hrd (by unfold G40;omega)).up (Nat.le_succ _)) hi hrdi (by rw[yQs,gQv];have:=h.al;omega) fun m hm=>hm
theorem GInv.sure(h:GInv N M x G)(hi:i<N):(∀r∈(ndf x.ns i).reads.take (sureK (ndf x.ns i)),0≤r.1∧r.1<x.ask.length∧x.ask.getD r.1.toNat 0≤r.2.1)∧GInv N M {x with ns:=x.ns.set i (mJh (ndf x.ns i))} G:=by
 have a:=h.ni hi;have hli:i<x.ns.length:=by rw[h.len];exact hi
 have hR:qJl (mJh (ndf x.ns i)):=by
  have h0:=a.right;have hk:=iJj h0;exact hk
 refine⟨h.rd.sure h.inv hi,⟨?_,h.S,?_,h.ld,by show(x.ns.set i _).length=N;rw[yQ0];exact h.len,h.bag,h.size,h.al⟩⟩
 ·show INV G N M (ndf (x.ns.set i _)) x.bag;rw[fJy hli];exact h.inv.keep hi (a.soft hR rfl rfl rfl rfl rfl rfl rfl rfl rfl (.inr ⟨rfl,rfl,rfl⟩)) rfl rfl (yQo _)
 ·show RDI N (ndf (x.ns.set i _)) x.bag x.ask;rw[fJy hli];have:=h.rd.step (out:=[]) hi (jQg (bag:=x.bag) (i:=i) (n:=ndf x.ns i)) (yQo _) fun m hm=>by cases hm
  rw[gQc]at this;exact this
theorem GInv.match(h:GInv N M x G)(hi:i<N)(hj:j<N){k:Nat}{e e':Ent}(h1:(ndf x.ns i).base.toNat≤k)(h2:(ndf x.ns j).base.toNat≤k)(he:(ndf x.ns i).log[k - (ndf x.ns i).base.toNat]? =some e)(he':(ndf x.ns j).log[k - (ndf x.ns j).base.toNat]? =some e')(ht:e.1=e'.1):e=e':=by
 have a:=h.ni hi;have a':=h.ni hj;rw[a.log,gQj,show(ndf x.ns i).base.toNat+(k - (ndf x.ns i).base.toNat)=k by omega]at he;rw[a'.log,gQj,show(ndf x.ns j).base.toNat+(k - (ndf x.ns j).base.toNat)=k by omega]at he';have l1:=(yQt.1 he).1;have l2:=(yQt.1 he').1;have hp:=pJ4 (k:=k+1) (h.inv.gi.log i hi).1 (h.inv.gi.log j hj).1 (by omega) (by omega) (by rw[tJq he,tJq he'];exact ht);have:=congrArg (·[k]?) hp;rw[List.getElem?_take,if_pos (by omega),List.getElem?_take,if_pos (by omega),he,he']at this;exact gQb this
/-! ### How it begins -/
def gh0:Gh:=⟨fun _=>[],fun _=>[],fun _=>0,fun _ _=>false,fun _ _=>0,fun _ _=>[],fun _ _=>0,fun _=>0,fun _=>[],[]⟩
def ns0(N:Nat)(k:Nat):List Nd:=(List.range k).map fun i:Nat=>newN ((i:Int)+1) N ((i:Int)+1)
def gr0(N k:Nat):Gr:=⟨ns0 N k,[],[],List.replicate 400 0,[],0⟩
theorem eJ1 {id size:Int}(h1:1≤size∧size≤9)(h2:1≤id∧id≤size):qJl (newN id size dr):=by
 refine⟨h1,h2,⟨yQo 0,by show(0:Int)≤size;omega⟩,⟨yQo 0,by show(0:Int)≤size;omega⟩,z0,z0,z0,z0,eJi,yQo 0,yQo 0,⟨yQo _,yQo 0⟩,by simp[newN,hJ1],?_,?_,?_,?_,⟨yQo _,by simp[newN,hJ1]⟩,.inl ⟨rfl,⟨vJ5,vJ5,vJ5,rfl,rfl⟩,rJl⟩⟩
 all_goals
  simp only[newN,hJ1,gQ0];omega
theorem vQt(hi:i<k):ndf (ns0 N k) i=newN ((i:Int)+1) N ((i:Int)+1):=by
 unfold ndf ns0;rw[yQj,gQn,List.getElem?_range hi];rfl
theorem GInv.begin(h1:1≤N)(h5:N≤5):GInv N 0 (gr0 N N) gh0:=by
 have hgi:GI gh0 N fun i=>(ndf (ns0 N N) i).term:=by
  refine⟨fun t _=>⟨rfl,fun _=>rfl,rfl⟩,fun _=>yQz _,fun t h=>absurd rfl h,fun t h=>absurd rfl h,fun t i _ _ h=>absurd rfl h,fun i hi t k hk=> .inl ?_,fun t i _=>⟨yQm _,fun h=>absurd rfl h⟩,fun t i h=>by have h:(0:Nat)=i+1:=h;omega,fun t i _ h=>absurd rfl h,fun t h=>absurd rfl h,fun i _=>⟨Gh.Pre.nil,fun e he=>by cases he⟩,.inl rfl,fun t k c _ h=>by have h:(0:Nat)=c+1:=h;omega⟩;show([]:List Ent).take k<+:[];rw[List.take_nil];exact gQf
 refine⟨⟨hgi,fun i hi=>?_,fun m hm=>(by cases hm),fun t=>yQm _⟩,rfl,fun i hi hr=>?_,fun t ht hne=>?_,by show(ns0 N N).length=N;unfold ns0;rw[yQr,List.length_range],yQz _,h5,yQz _⟩
 ·show NI gh0 N i (ndf (ns0 N N) i);rw[vQt hi];refine⟨eJ1 (by omega) (by omega),rfl,rfl,yQm _,rfl,rfl,rfl,fun _ _=>rfl,fun e=>by have e:(1:Int)=3:=e;omega,fun e=>by have e:(1:Int)=2:=e;omega,fun e=>by have e:(1:Int)=2:=e;omega,.inl rfl,gQf,fun h=>by have h:(0:Int)<0:=h;omega⟩
 ·have hr:(ndf (ns0 N N) i).role=3:=hr;rw[vQt hi]at hr;have hr:(1:Int)=3:=hr;omega
 ·have hne:(List.replicate 400 (0:Int)).getD t 0≠0:=hne;rw[yQj,List.getElem?_replicate,if_pos ht]at hne;exact absurd rfl hne
end
end Go.Proofs.YtghoifolghelnaaGreat
/-
 A message comes; a node begins anew; something is asked.
 No condition beyond those that each theorem names.
-/
open Go.Sx
namespace Go.Proofs.YtghoifolghelnaaGreat
section
variable {hk:Hook}{A A' B:Nat→Prop}{w0 w w':AW}{K:AV→AW→Prop}{n n':Nd}{s s':Sl}{v v' e sv:AV}{g:Nat}{x x':Gr}{q q':GO}{M M':Obs}{L:Obs}{b N m i:Nat}{G:Gh}{mm:Msg}{dr:Int}{bag1:List Msg}
theorem pJl(hs:n.size≤9):(yJ3 n mm dr).length≤9:=by
 unfold yJ3;split
 ·exact yQk rfl
 ·split
  ·unfold pJh;split
   ·exact pJu hs
   ·exact yQz _
  ·split
   ·unfold kJf;split
    ·exact yQk rfl
    ·split
     ·exact yQz _
     ·unfold appM;split<;>exact yQk rfl
   ·split
    ·unfold nJs telM;split
     ·split
      ·exact yQk rfl
      ·split
       ·split
        ·exact yQk rfl
        ·exact yQz _
       ·exact yQz _
     ·exact yQz _
    ·unfold xJ2;split
     ·exact yQk rfl
     ·split
      ·exact yQz _
      ·exact yQk rfl
theorem rJu(hs:n.size≤9):(fJa n mm dr).length≤9:=by
 unfold fJa;split
 ·refine pJl ?_;have:(followN n mm.term dr).size=n.size:=by unfold followN;split<;>rfl
  omega
 ·exact pJl hs
theorem rJt(hs:n.size≤9):(uJa n dr).length≤9:=by
 have ha:∀y:Nd,(xJt y n.size.toNat).length≤9:=fun y=>by
  have:=kJg y n.size.toNat;omega
 unfold uJa;split
 ·split
  ·exact ha _
  ·exact yQz _
 ·split
  ·unfold xJq;split
   ·exact yQz _
   ·split
    ·exact pJu hs
    ·have:=fJv n.id (askN (zJg {n with elapsed:=n.elapsed+1} dr)) n.size.toNat;show(othM n.id (askN (zJg {n with elapsed:=n.elapsed+1} dr)) n.size.toNat).length≤9;omega
  ·exact yQz _
abbrev zC:List AV:=[.int .i64 0,.int .i64 0,.int .u8 0,.int .i64 0,.int .i64 0,.int .i64 0,.int .i64 0,.int .i64 0,.nilslice,.nilslice,.int .i64 0,.nilslice,.nilslice,.nilslice,.nilslice,.int .i64 0,.int .i64 0,.int .i64 0,.nilslice]
def GoOn(N m:Nat)(w0:AW)(g:Nat)(M:Obs)(K:AV→AW→Prop):Prop:=∀x' G' q' w',GInv N (m+1) x' G'→GM w0 w' g x' q' M→K (.bool true) w'
theorem GInv.up(h:GInv N m x G){m':Nat}(hm:m≤m'):GInv N m' x G:=⟨h.inv.up hm,h.S,h.rd,h.ld,h.len,h.bag,h.size,gQt h.al hm⟩
theorem GInv.Slen(h:GInv N m x G):x.S.length≤m:=by
 rcases h.inv.gi.set with e | ⟨t,_,h2⟩
 ·rw[←h.S,e];exact yQz _
 ·have:=h2.length_le;rw[yQ9,h.S]at this;have:=h.inv.len t;omega
theorem GInv.log(h:GInv N m x G)(hi:i<N):(ndf x.ns i).log.length≤m:=by
 have a:=h.ni hi;have:=h.inv.Hlen hi;rw[a.log,yQ3];omega
theorem s74(hh:HK hk)(gi:GInv N m x G)(hm:m≤1000)(gm:GM w0 w g {x with bag:=bag1} q M)(hmm:mm∈x.bag)(hsub:∀m∈bag1,m∈x.bag)(hbl:bag1.length≤80)(he:(rL rE).rd (fz TA (ids (gL q g {x with bag:=bag1} M))) w [e] mm.ents)(hs:(rL rU).rd (fz TA (ids (gL q g {x with bag:=bag1} M))) w [sv] mm.snap)(hK:GoOn N m w0 g M K):Cl Tryz.prog hk 74 [.ptr g 0,.agg (mC mm e sv),.int .i64 dr] w K:=by
 obtain⟨i,hi,hd,P,hel,ok,hl',G',gi'⟩:=gi.take (dr:=dr) hmm (by omega) hsub;have a:=gi.ni hi;have hR:=a.right;have hli:i<x.ns.length:=by rw[gi.len];exact hi
 have hSl:=gi.Slen;have hlg:=gi.log hi;have hout:=rJu (n:=ndf x.ns i) (mm:=mm) (dr:=dr) (by have:=hR.size;omega);refine in74 (hh.no _ _ _ (by decide) (by decide)) ?_;unfold wQ8;refine gd_t (okM he hs) (gm.new fun b14 w15 gm15 x15=>qJd (gm15.st.ld 0 rfl rfl) ⟨_,gm15.st.ld 6 rfl rfl,?_⟩);have hk5:=P.kind;rw[jJh hli]at hR hlg hout ok hl' gi' P;have hw:wi (mm.dst - 1)=(i:Int):=by rw[qJq (by have:=gi.size;omega) (by have:=gi.size;omega)];omega
 rw[hw];obtain⟨s1,nr15,tk⟩:=gm15.node (i:=i) hli;have nr15:NR _ w15 x.ns[i] s1:=nr15;have tk:qJz q.cN (i * 19) 19=some (ndC x.ns[i] s1):=tk;refine gm15.atN hli (qJd (gm15.ldNd tk) ⟨_,_,_,_,_,_,_,_,_,_,_,_,gm15.st.ldN 6 rfl rfl rfl,gm15.new fun b35 w36 gm36 x36=>⟨gm36.st.ldN 7 rfl rfl rfl,gm36.ldNd tk,gm36.st.ld 7 rfl rfl,gm36.st.ld 0 rfl rfl,?_⟩⟩);have nr36:=nr15.yw x36;refine s10 hh gm36.mem gm36.pos nr36 (hR.sm2 (by omega)) (by omega) ((he.y x15).y x36) ((hs.y x15).y x36) ⟨by omega,by omega⟩ (by omega) fun r w38 f38 hr=>?_;rcases hr with⟨hno,_⟩ | ⟨_,s2,o2,rfl,nr38,ho38⟩
 ·exact absurd ⟨hR,P⟩ hno
 obtain⟨gm38,x38⟩:=gm36.call f38;have nr38':=nr38.inn gm36.st;have ho38':=bJa ho38 gm36.st;refine⟨_,_,_,rfl,gd_t nr38'.ok (gd_t rfl (gm38.put (yQk rfl) fun w43 gm43 x43=>⟨_,gm43.st.ld 7 rfl rfl,qJd (gm43.st.ldN 6 rfl rfl rfl) ?_⟩))⟩;show Cl Tryz.prog hk 33 [.ptr g 0,.int .i64 (wi (mm.dst - 1)),_,o2,.int .i64 0] w43 _;rw[hw];refine s33 hh gm43 hli (nr38'.yw x43) (ho38'.y x43) (by show bag1.length+_≤_;omega) ⟨ok.right,ok.base,ok.snap,ok.same,ok.lds⟩ (by show x.S.length≤_;omega) (by omega) fun q3 w47 gm47 x47=>⟨_,rfl,?_⟩;obtain⟨gm48,_⟩:=gm47.drop;obtain⟨gm49,_⟩:=gm48.drop;exact hK _ _ _ _ gi' gm49
end
end Go.Proofs.YtghoifolghelnaaGreat
/-
 A node begins anew; something is asked.
 No condition beyond those that each theorem names.
-/
open Go.Sx
namespace Go.Proofs.YtghoifolghelnaaGreat
section
variable {hk:Hook}{A A' B:Nat→Prop}{w0 w w':AW}{K:AV→AW→Prop}{n n':Nd}{s s':Sl}{v v' e sv:AV}{g:Nat}{x x':Gr}{q q':GO}{M M':Obs}{L:Obs}{b N m i:Nat}{G:Gh}{mm:Msg}{dr:Int}{bag1:List Msg}
theorem NR.inN {w1:AW}(h:NR (Nw w1) w' n s)(st:Ow (Nw w) [] w w1 L):NR (fz (Nw w) (ids L)) w' n s:=h.xa ⟨fun c f all a b d=>⟨⟨gQt st.size a,fun hc=>Nat.not_le_of_lt (st.ids_lt hc) a⟩,⟨gQt st.size b,fun hc=>Nat.not_le_of_lt (st.ids_lt hc) b⟩,d⟩⟩
set_option maxRecDepth 20000 in
theorem s75(hh:HK hk)(hm:Mem w)(hpos:0<w.size)(hR:qJl n)(nr:NR A w n s)(hK:∀s2 w',Fr w.size w w'→NR (Nw w) w' (newN n.id n.size dr) s2→K (.tup [.agg (ndC (gJ3 n dr) ⟨s.snap,s.log,s2.votes,s2.next,s2.mtch,s2.seen,s2.reads⟩),.bool true]) w'):Cl Tryz.prog hk 75 [.agg (ndC n s),.int .i64 dr] w K:=by
 refine in75 (hh.no _ _ _ (by decide) (by decide)) ?_;unfold wQ7;have pv:Pv (Nw w) w:=⟨hm,hpos,fun _ h=>h⟩;refine gd_t nr.ok (pv.st.new' fun b3 w4 st4 x4=>st4.new' fun b5 w6 st6 x6=>⟨_,st6.ld 1 rfl rfl,_,st6.ld 1 rfl rfl,?_⟩);refine s25 hh st6.mem st6.P0.pos fun r w10 f10 hr=>?_;have h0:newE n.id n.size=0:=by
  have:=hR.size;have:=hR.id;unfold newE;rw[if_neg (by omega),if_neg (by omega),if_neg (by omega),if_neg (by omega)]
 rcases hr with⟨hne,_⟩ | ⟨_,s2,rfl,nr10⟩
 ·exact absurd h0 hne
 have nr10:=nr10.inN st6;obtain⟨st10,x10⟩:=st6.call f10;refine⟨_,_,rfl,st10.new' fun b13 w14 st14 x14=>gd_t nr10.ok (gd_t rfl (st14.put 0 rfl (yQk rfl) fun w16 st16 x16=>?_))⟩;have st16:Ow (Nw w) [] w w16 [(b13,.row (ndC (newN n.id n.size dr) s2)),(b5,.row zC),(b3,.row (ndC n s))]:=st16;refine⟨_,st16.ld 2 rfl rfl,_,st16.ld 2 rfl rfl,st16.put 0 rfl (yQk rfl) fun w19 st19 x19=>?_⟩;have st19:Ow (Nw w) [] w w19 [(b13,Ob.row (ndC {newN n.id n.size dr with term:=n.term} s2)),(b5,.row zC),(b3,.row (ndC n s))]:=st19;refine⟨st19.ld 2 rfl rfl,st19.put 0 rfl (yQk rfl) fun w20 st20 x20=>?_⟩;have st20:Ow (Nw w) [] w w20 [(b13,Ob.row (ndC {newN n.id n.size dr with term:=n.term,vote:=n.vote} s2)),(b5,.row zC),(b3,.row (ndC n s))]:=st20;refine⟨_,st20.ld 2 rfl rfl,_,st20.ld 2 rfl rfl,qJd (v:=s.snap) (st20.ld 2 rfl rfl) (st20.put 0 rfl (yQk rfl) fun w24 st24 x24=>?_)⟩;have st24:Ow (Nw w) [] w w24 [(b13,Ob.row (ndC {newN n.id n.size dr with term:=n.term,vote:=n.vote,base:=n.base} s2)),(b5,.row zC),(b3,.row (ndC n s))]:=st24;refine⟨st24.ld 2 rfl rfl,st24.ld 2 rfl rfl,st24.put 0 rfl (yQk rfl) fun w25 st25 x25=>?_⟩;have st25:Ow (Nw w) [] w w25 [(b13,Ob.row (ndC {newN n.id n.size dr with term:=n.term,vote:=n.vote,base:=n.base,bt:=n.bt} s2)),(b5,.row zC),(b3,.row (ndC n s))]:=st25;refine⟨st25.ld 2 rfl rfl,gd_t nr.snap.ok1 (st25.put 0 rfl (yQk rfl) fun w26 st26 x26=>?_)⟩;have st26:Ow (Nw w) [] w w26 [(b13,Ob.row (ndC {newN n.id n.size dr with term:=n.term,vote:=n.vote,base:=n.base,bt:=n.bt,snap:=n.snap} {s2 with snap:=s.snap})),(b5,.row zC),(b3,.row (ndC n s))]:=st26;refine qJd (v:=s.log) (st26.ld 2 rfl rfl) (gd_t nr.log.ok1 (st26.put 0 rfl (yQk rfl) fun w28 st28 x28=>?_));have st28:Ow (Nw w) [] w w28 [(b13,Ob.row (ndC {newN n.id n.size dr with term:=n.term,vote:=n.vote,base:=n.base,bt:=n.bt,snap:=n.snap,log:=n.log} {s2 with snap:=s.snap,log:=s.log})),(b5,.row zC),(b3,.row (ndC n s))]:=st28;refine⟨_,st28.ld 2 rfl rfl,st28.put 0 rfl (yQk rfl) fun w30 st30 x30=>?_⟩;have st30:Ow (Nw w) [] w w30 [(b13,.row (ndC (gJ3 n dr) ⟨s.snap,s.log,s2.votes,s2.next,s2.mtch,s2.seen,s2.reads⟩)),(b5,.row zC),(b3,.row (ndC n s))]:=st30;have hok:(ndC (gJ3 n dr) ⟨s.snap,s.log,s2.votes,s2.next,s2.mtch,s2.seen,s2.reads⟩).all qJc=true:=by
  simp only[List.all_cons,nr.snap.ok1,nr.log.ok1,nr10.votes.ok1,nr10.next.ok1,nr10.mtch.ok1,nr10.seen.ok1,nr10.reads.ok1];rfl
 refine qJd (st30.ldN 0 rfl rfl rfl) (gd_t hok (gd_t rfl (st30.put 1 rfl (yQk rfl) fun w33 st33 x33=>?_)));have st33:Ow (Nw w) [] w w33 [(b13,.row (ndC (gJ3 n dr) ⟨s.snap,s.log,s2.votes,s2.next,s2.mtch,s2.seen,s2.reads⟩)),(b5,.row (ndC (gJ3 n dr) ⟨s.snap,s.log,s2.votes,s2.next,s2.mtch,s2.seen,s2.reads⟩)),(b3,.row (ndC n s))]:=st33;refine qJd (st33.ldN 1 rfl rfl rfl) ?_;have xx:Xt (ids [(b5,Ob.row zC),(b3,.row (ndC n s))]) w10 (b13::ids [(b5,Ob.row zC),(b3,.row (ndC n s))]) w33:=(((((((((x14.trans x16).trans x19).trans x20).trans x24).trans x25).trans x26).trans x28).trans x30).trans x33);have nr33:NR (fz (Nw w) (b13::ids [(b5,Ob.row zC),(b3,.row (ndC n s))])) w33 _ _:=nr10.xa xx.xw.xa;exact hK s2 w33 st33.fr nr33.outs
theorem wrap8(y:Int):∃u:UInt8,IntKind.wrap .u8 y=(u.toNat:Int):=by
 refine⟨UInt8.ofNat (y % 256).toNat,?_⟩;rw[UInt8.toNat_ofNat'];show y % 256=_;omega
theorem GM.setD(gm:GM w0 w g x q M){d:Int}{K:AW→Prop}(hK:∀w',GM w0 w' g {x with data:=d} q M→Xw (ids (gL q g x M)) w (ids (gL q g {x with data:=d} M)) w'→K w'):onM (w.putCells g (0+5) [.int .i64 d]) K:=
 gm.st.put 0 rfl (yQk rfl) fun w' st' x'=>hK w' ⟨st',gm.lN,gm.wN,gm.cN.xa x'.xw.xa,gm.sB,gm.cB.xa x'.xw.xa,gm.sS,gm.cS.xa x'.xw.xa,gm.sA,gm.ll⟩ x'.xw
theorem GInv.data(h:GInv N m x G){d:Int}:GInv N m {x with data:=d} G:=⟨h.inv,h.S,h.rd,h.ld,h.len,h.bag,h.size,h.al⟩
theorem KnO.of {y:Gr}(h:KnO x n)(e1:y.S=x.S)(e2:y.lds=x.lds):KnO y n:=⟨h.right,by rw[e1];exact h.base,h.snap,by rw[e1];exact h.same,by rw[e2];exact h.lds⟩
set_option maxRecDepth 20000 in
theorem s35p(hh:HK hk)(gi:GInv N m x G)(hm:m≤1000)(gm:GM w0 w g x q M)(hi:i<N)(hK:GoOn N m w0 g M K):Cl Tryz.prog hk 35 [.ptr g 0,.int .i64 (i:Int),.bool false] w K:=by
 have a:=gi.ni hi;have hR:=a.right;have hli:i<x.ns.length:=by rw[gi.len];exact hi
 have hSl:=gi.Slen;have hlg:=gi.log hi;have hb:=hR.base;unfold G40 at hb;refine in35 (hh.no _ _ _ (by decide) (by decide)) ?_;unfold vQb;simp only[onP];obtain⟨s1,nr1,tk⟩:=gm.node (i:=i) hli;rw[jJh hli]at hR hlg hb;refine qJd (gm.st.ld 0 rfl rfl) (gm.atN hli (qJd (gm.ldNd tk) (gm.new fun b9 w10 gm10 x10=>?_)));have nr10:=nr1.yw x10;refine gd_t nr10.ok (gd_t rfl (gm10.put (yQk rfl) fun w12 gm12 x12=>qJ3 ⟨_,gm12.st.ld 0 rfl rfl,gm12.setD fun w18 gm18 x18=>?_⟩));have nr18:=(nr10.yw x12).yw x18;refine qJd (gm18.st.ldN 6 rfl rfl rfl) ⟨_,gm18.st.ld 0 rfl rfl,?_⟩;unfold be;refine⟨_,gm18.st.ld 0 rfl rfl,new_of gm18.mem fun w28 f28 b28 z28=>?_⟩;obtain⟨u1,e1⟩:=wrap8 (shrI .i64 (wi (x.data+1)) 8);obtain⟨u2,e2⟩:=wrap8 (wi (x.data+1));obtain⟨gm28,x28⟩:=gm18.call f28;have hd28:=Box.sl (r:=rU) (l:=[u1,u2]) (A:=fz TA (ids (gL q g {x with data:=wi (x.data+1)} ((b9,.row (qJg zC 0 (ndC x.ns[i] s1)))::M)))) (n:=2) (cap:=2) (ex:=none) b28 ⟨trivial,fun hx=>gQx _ (gm18.st.ids_lt hx)⟩ rfl (Chk.bytes.2 (by rw[e1,e2];rfl));refine gm28.new fun b29 w30 gm30 x30=>⟨gm30.st.ld 0 rfl rfl,gm30.st.ld 0 rfl rfl,gm30.st.ldN 7 rfl rfl rfl,?_⟩;have nr30:=(nr18.yw x28).yw x30;refine s13 hh gm30.mem gm30.pos nr30 (hR.sm2 (by omega)) (hd28.y x30) fun r w32 f32 hr=>?_;obtain⟨gm32,x32⟩:=gm30.call f32;have gi':GInv N m {x with data:=wi (x.data+1)} G:=gi.data;rcases hr with⟨hne,rfl⟩ | ⟨_,hz,s2,o2,rfl,nr32,ho32⟩
 ·have hr3:x.ns[i].role≠3∧proE x.ns[i] [u1,u2]=220:=by
   unfold proE at hne ⊢;rw[if_neg (not_not_intro hR)]at hne ⊢;by_cases h3:x.ns[i].role≠3
   ·rw[if_pos h3];exact⟨h3,rfl⟩
   ·rw[if_neg h3,if_neg (by show ¬ 60000<2;decide),if_neg (by omega)]at hne;exact absurd rfl hne
  rw[hr3.2];refine⟨_,_,_,_,rfl,gd_t rfl (gd_t rfl (gm32.put (yQk rfl) fun w38 gm38 x38=>qJ3 (qJ3 ⟨_,gm38.st.ld 7 rfl rfl,?_⟩)))⟩;rw[decide_eq_false hr3.1];obtain⟨gm39,_⟩:=gm38.drop;obtain⟨gm40,_⟩:=gm39.drop;exact hK _ _ _ _ (gi'.up (Nat.le_succ _)) gm40
 ·have hr3:x.ns[i].role=3:=by
   unfold proE at hz;rw[if_neg (not_not_intro hR)]at hz;by_cases h3:x.ns[i].role≠3
   ·rw[if_pos h3]at hz;cases hz
   ·exact Classical.byContradiction h3
  have nr32':=nr32.inn gm30.st;have ho32':=bJa ho32 gm30.st;obtain⟨ok,hl',G',gi2⟩:=gi'.put (i:=i) (d:=[u1,u2]) hi (by show(ndf x.ns i).role=3;rw[jJh hli];exact hr3) (yQk rfl) (by omega);have ok:KnO {x with data:=wi (x.data+1)} (putN (ndf x.ns i) [u1,u2]):=ok;have hl':(putN (ndf x.ns i) [u1,u2]).log.length≤m+1:=hl';have gi2:GInv N (m+1) (becG {x with data:=wi (x.data+1)} i (putN (ndf x.ns i) [u1,u2]) (xJt (putN (ndf x.ns i) [u1,u2]) (ndf x.ns i).size.toNat)) G':=gi2;rw[jJh hli]at ok hl' gi2;refine⟨_,_,_,_,rfl,gd_t nr32'.ok (gd_t rfl (gm32.put (yQk rfl) fun w38 gm38 x38=>qJ0 (qJd (gm38.st.ldN 6 rfl rfl rfl) ?_)))⟩;have nr38:=nr32'.yw x38;have hb0:0≤(putN x.ns[i] [u1,u2]).base∧(putN x.ns[i] [u1,u2]).base<2^41:=by
   show 0≤x.ns[i].base∧x.ns[i].base<2^41;omega
  refine s36 hh gm38.mem nr38 hb0.1 hb0.2 (by omega) fun w42 f42=>⟨_,rfl,?_⟩;obtain⟨gm42,x42⟩:=gm38.call f42;rw[decide_eq_true rfl];refine qJ3 (qJd (gm42.st.ldN 6 rfl rfl rfl) ?_);have hao:=kJg (putN x.ns[i] [u1,u2]) x.ns[i].size.toNat;have hsz:=hR.size;have hbg:=gi.bag;refine s33 hh gm42 hli (nr38.yw x42) ((ho32'.y x38).y x42) (by show x.bag.length+_≤_;omega) ok (by show x.S.length≤_;omega) (by omega) fun q3 w46 gm46 x46=>⟨_,rfl,?_⟩;obtain⟨gm47,_⟩:=gm46.drop;obtain⟨gm48,_⟩:=gm47.drop;exact hK _ _ _ _ gi2 gm48
set_option maxRecDepth 20000 in
theorem s35r(hh:HK hk)(gi:GInv N m x G)(hm:m≤1000)(gm:GM w0 w g x q M)(hi:i<N)(hK:GoOn N m w0 g M K):Cl Tryz.prog hk 35 [.ptr g 0,.int .i64 (i:Int),.bool true] w K:=by
 have a:=gi.ni hi;have hR:=a.right;have hli:i<x.ns.length:=by rw[gi.len];exact hi
 have hSl:=gi.Slen;have hlg:=gi.log hi;have ha:=gi.al;refine in35 (hh.no _ _ _ (by decide) (by decide)) ?_;unfold vQb;simp only[onP];obtain⟨s1,nr1,tk⟩:=gm.node (i:=i) hli;rw[jJh hli]at hR hlg;refine qJd (gm.st.ld 0 rfl rfl) (gm.atN hli (qJd (gm.ldNd tk) (gm.new fun b9 w10 gm10 x10=>?_)));have nr10:=nr1.yw x10;refine gd_t nr10.ok (gd_t rfl (gm10.put (yQk rfl) fun w12 gm12 x12=>qJ0 (qJd (gm12.st.ldN 6 rfl rfl rfl) (qJd (v:=q.vA) (gm12.st.ld 0 rfl rfl) ⟨_,gm12.rsA.len,?_⟩))));refine gm12.new fun b53 w54 gm54 x54=>⟨gm54.st.ld 0 rfl rfl,gm54.st.ldN 7 rfl rfl rfl,?_⟩;have nr54:=(nr10.yw x12).yw x54;refine s14 hh gm54.mem gm54.pos nr54 (hR.sm2 (by omega)) (by omega) fun r w56 f56 hr=>?_;obtain⟨gm56,x56⟩:=gm54.call f56;rcases hr with⟨hne,rfl⟩ | ⟨_,hz,s2,o2,rfl,nr56,ho56⟩
 ·refine⟨_,_,_,rfl,gd_t rfl (gd_t rfl (gm56.put (yQk rfl) fun w61 gm61 x61=>vJv (fun _=>?_) fun h=>absurd h hne))⟩;obtain⟨gm62,_⟩:=gm61.drop;obtain⟨gm63,_⟩:=gm62.drop;have fin:K (.bool true) w61:=hK _ _ _ _ (gi.up (Nat.le_succ _)) gm63;refine qJh (fun _=>fin) fun h220=>?_;have h5:reaE x.ns[i]=5:=by
   unfold reaE at hne h220 ⊢;rw[if_neg (not_not_intro hR)]at hne h220 ⊢;split at h220
   ·exact absurd rfl h220
   ·rename_i h1;rw[if_neg h1]at hne ⊢;split at h220
    ·rename_i h2;rw[if_pos h2]
    ·rename_i h2;rw[if_neg h2]at hne ⊢;split at hne
     ·rename_i h3;rw[if_pos h3]
     ·exact absurd rfl hne
  rw[h5];exact fin
 ·have hz2:x.ns[i].role=3∧(termAt x.ns[i].base x.ns[i].bt (x.ns[i].log.map (·.1)) x.ns[i].commit).1=x.ns[i].term∧x.ns[i].reads.length<64∧x.ns[i].round≠G40:=by
   unfold reaE at hz;rw[if_neg (not_not_intro hR)]at hz;split at hz
   ·cases hz
   ·rename_i h1;split at hz
    ·cases hz
    ·rename_i h2;split at hz
     ·cases hz
     ·rename_i h3;unfold rJ1 at h1;refine⟨Classical.byContradiction fun h=>h1 (.inl h),Classical.byContradiction fun h=>h1 (.inr h),by omega,h3⟩
  obtain⟨z1,z2,z3,z4⟩:=hz2;have nr56':=nr56.inn gm54.st;have ho56':=bJa ho56 gm54.st;obtain⟨ok,hl',G',gi2⟩:=gi.read (i:=i) hi (by rw[jJh hli];exact z1) (by rw[jJh hli];exact z2) (by rw[jJh hli];exact z3) (by rw[jJh hli];exact z4) (by omega);rw[jJh hli]at ok hl' gi2;refine⟨_,_,_,rfl,gd_t nr56'.ok (gd_t rfl (gm56.put (yQk rfl) fun w61 gm61 x61=>qJ0 (qJd (v:=q.vA) (gm61.st.ld 0 rfl rfl) (qJd (v:=q.vS) (gm61.st.ld 0 rfl rfl) ⟨_,gm61.rdS.len',new_of gm61.mem fun w70 f70 b70 z70=>?_⟩))))⟩;obtain⟨gm70,x70⟩:=gm61.call f70;refine⟨gm70.st.ld 0 rfl rfl,gm70.st.ld 0 rfl rfl,?_⟩;have hsrc:Rs w70 1 [(x.S.length:Int)].length (.slice w61.size 0 1 1 none) ([(x.S.length:Int)].map (AV.int .i64)):= .inr ⟨w61.size,0,1,none,_,rfl,b70.cells,by simp,by simp⟩;refine gm70.appA hsrc (by show x.ask.length+1≤_;omega) fun q2 w75 gm75 x75=>qJd (gm75.st.ldN 6 rfl rfl rfl) ?_;have xx:=(x61.trans x70).trans x75;have hao:=kJg (kJa x.ns[i] x.ask.length) x.ns[i].size.toNat;have hsz:=hR.size;have hbg:=gi.bag;refine s33 hh gm75 hli (nr56'.yw xx) (ho56'.y xx) (by show x.bag.length+_≤_;omega) (ok.of rfl rfl) (by show x.S.length≤_;omega) (by omega) fun q3 w78 gm78 x78=>⟨_,rfl,?_⟩;obtain⟨gm79,_⟩:=gm78.drop;obtain⟨gm80,_⟩:=gm79.drop;exact hK _ _ _ _ gi2 gm80
end
end Go.Proofs.YtghoifolghelnaaGreat
/-
 One move.
 No condition beyond those that each theorem names.
-/
open Go.Sx
namespace Go.Proofs.YtghoifolghelnaaGreat
section
variable {hk:Hook}{A A' B:Nat→Prop}{w0 w w':AW}{K:AV→AW→Prop}{n n':Nd}{s s':Sl}{v v' e sv:AV}{g:Nat}{x x':Gr}{q q':GO}{M M':Obs}{L:Obs}{b N m i k:Nat}{G:Gh}{mm:Msg}{dr:Int}{bag1:List Msg}
theorem GM.msg(gm:GM w0 w g x q M)(hk:k<x.bag.length):∃b o e s,idxS 12 q.vB (.int .i64 (k:Int))=some (.ptr b o)∧ldN 12 w b o=some (.agg (mC x.bag[k] e s))∧(rL rE).rd (fz TA (ids (gL q g x M))) w [e] x.bag[k].ents∧(rL rU).rd (fz TA (ids (gL q g x M))) w [s] x.bag[k].snap:=by
 obtain⟨e,s,h1,h2,h3⟩:=gm.cB.get k hk;have h1:(q.cB.drop (k * 12)).take 12=mC x.bag[k] e s:=h1;have hl:=gm.lcB;rcases gm.sB with⟨_,h⟩ | ⟨b,off,n,ex,all,ho,hv,hn,hc,_⟩
 ·rw[h,gQw]at hl;omega
 ·have hl2:=hl;rw[hc,yQ3]at hl2;have hn2:n=x.bag.length:=by omega
  refine⟨b,off+k * 12,e,s,?_,aJp (gm.st.wcells (i:=2) rfl (.inl ho)) ?_,h2,h3⟩
  ·rw[hv];show(asN (.int .i64 (Int.ofNat k))).bind _=_;have hb:Nat.blt k n=true:=by rw[gQm];omega
   simp only[asN,Option.bind_some,hb,qJf,cond_true]
  ·rw[qJ6 (by omega),←h1,hc,gQs]
theorem perm4 {α:Type}{a b c d:α}{r:List α}:(a::b::c::d::r).Perm (d::b::c::a::r):=((List.perm_middle (l₁:=[a,b,c])).trans ((List.perm_middle (l₁:=[b,c]) (l₂:=r) (a:=a)).symm.cons d))
theorem GM.cutAt(gm:GM w0 w g x q M)(hk:k<x.bag.length)(hbl:x.bag.length≤1000){K:AW→Prop}(hK:∀q' w',GM w0 w' g {x with bag:=x.bag.take k++x.bag.drop (k+1)} q' M→Xw (ids (gL q g x M)) w (ids (gL q' g {x with bag:=x.bag.take k++x.bag.drop (k+1)} M)) w'→K w'):
  onM (slS 12 q.vB none (some (.int .i64 (k:Int))) none) fun x117=>onE (Go.Sx.appS 12 136 w .nilslice x117) fun rest w119=>onM (Sx.ld w119 g (0+1)) fun x122=>onM (slS 12 x122 (some (.int .i64 ((k+1:Nat):Int))) none none) fun x123=>onE (Go.Sx.appS 12 136 w119 rest x123) fun x124 w125=>gd (qJc x124) (onM (AW.putCells w125 g (0+1) [x124]) K):=by
 have hl:=gm.lcB;obtain⟨v1,e1,rs1⟩:=gm.st.sdTake (i:=2) rfl gm.sB (by decide) gm.lcB (Nat.le_of_lt hk);refine qJd e1 (gm.st.room.accApp 0 rfl Sv.nil (by decide) rs1 (by simp;omega) (by simp;omega) fun v' f' o' w2 st2 x2 s2=>?_);rw[List.nil_append]at s2;have st2:Ow TA [] w0 w2 ((f',o')::gL q g x M):=st2;have x2:Xt (ids (gL q g x M)) w (ids ((f',o')::gL q g x M)) w2:=x2;refine qJd (v:=q.vB) (st2.ld 1 rfl rfl) ?_;obtain⟨v3,e3,s3⟩:=gm.sB.cut (by decide) gm.lcB (show k+1≤x.bag.length from hk);have rs3:Rs w2 12 (x.bag.length - (k+1)) v3 (q.cB.drop ((k+1) * 12)):=st2.sd (i:=3) rfl s3 (by decide) (by rw[yQ3,hl,Nat.sub_mul]);have hlt:(q.cB.take (k * 12)).length=k * 12:=by rw[yQ9];omega
 have hdv:(q.cB.take (k * 12)).length / 12=k:=by rw[hlt];omega
 refine qJd e3 (st2.accApp 0 rfl s2 (by decide) rs3 (by rw[hdv];omega) (by rw[hdv];omega) fun v4 f4 o4 w4 st4 x4 s4=>?_);have st4:Ow TA [] w0 w4 ((f4,o4)::gL q g x M):=st4;have x4:Xt (ids ((f',o')::gL q g x M)) w2 (ids ((f4,o4)::gL q g x M)) w4:=x4;refine gd_t s4.ok (st4.put 1 rfl (yQk rfl) fun w5 st5 x5=>?_);have st5:Ow TA [] w0 w5 ((f4,o4)::(g,.row [.slice q.bN 0 q.nN q.nN q.ex,v4,q.vS,.slice q.bL 0 400 400 none,q.vA,.int .i64 x.data])::(q.fN,q.oN)::(q.fB,q.oB)::(q.fS,q.oS)::(q.bL,.row (x.lds.map (AV.int .i64)))::(q.fA,q.oA)::M):=st5;obtain⟨st6,x6⟩:=st5.perm perm4;obtain⟨st7,x7⟩:=st6.forget;have xw:Xw (ids (gL q g x M)) w (ids (gL {q with vB:=v4,fB:=f4,oB:=o4,cB:=q.cB.take (k * 12)++q.cB.drop ((k+1) * 12)} g {x with bag:=x.bag.take k++x.bag.drop (k+1)} M)) w5:=(((x2.xw.trans x4.xw).trans x5.xw).trans x6.xw).trans x7.xw;refine hK {q with vB:=v4,fB:=f4,oB:=o4,cB:=q.cB.take (k * 12)++q.cB.drop ((k+1) * 12)} w5 ⟨st7,gm.lN,gm.wN,gm.cN.xa xw.xa,s4.sd,?_,gm.sS,gm.cS.xa xw.xa,gm.sA,gm.ll⟩ xw;exact((gm.cB.xa xw.xa).take k).app ((gm.cB.xa xw.xa).drop (k+1))
theorem GInv.lose(h:GInv N m x G)(hsub:∀m∈bag1,m∈x.bag)(hbl:bag1.length≤80):GInv N m {x with bag:=bag1} G:=⟨h.inv.sub hsub,h.S,h.rd.sub hsub,h.ld,h.len,hbl,h.size,h.al⟩
set_option maxRecDepth 20000 in
set_option maxHeartbeats 1000000 in
theorem s29 {kd on nn:Int}(hh:HK hk)(gi:GInv N m x G)(hm:m≤1000)(hN:1≤N)(gm:GM w0 w g x q M)(hK:GoOn N m w0 g M K):Cl Tryz.prog hk 29 [.ptr g 0, .agg [.int .i64 kd, .int .i64 on, .int .i64 nn, .int .i64 dr]] w K:=by
  have hSl:=gi.Slen;have hbg:=gi.bag;have hN5:=gi.size;have hlen:=gi.len;refine in29 (hh.no _ _ _ (by decide) (by decide)) ?_;unfold yQd;simp only[onP];refine gm.new fun b5 w6 gm6 x6=>⟨_,gm6.st.ld 6 rfl rfl,qJd (gm6.st.ld 0 rfl rfl) ⟨_,gm6.lenN,s28 hh (by omega) fun i hi1 _=>⟨_,rfl,_,gm6.st.ld 6 rfl rfl,qJd (v:=q.vB) (gm6.st.ld 0 rfl rfl) ⟨_,gm6.rdB.len',s28 hh (by omega) fun k hk1 hk2=>⟨_,rfl,_,gm6.st.ld 6 rfl rfl,?_⟩⟩⟩⟩⟩;have hi:i<N:=by have:=hi1 (by omega);omega
  have hli:i<x.ns.length:=by omega
  have a:=gi.ni hi;have hR:=a.right;have hlg:=gi.log hi;rw[jJh hli]at hR hlg;have hsz:=hR.size;obtain⟨s1,nr6,tk⟩:=gm6.node (i:=i) hli;have stay:∀{w':AW} {q':GO},GM w0 w' g x q' ((b5, .row [.int .i64 kd, .int .i64 on, .int .i64 nn, .int .i64 dr])::M)→K (.bool true) w':=fun {w' q'} gm'=>by
    obtain⟨gm2,_⟩:=gm'.drop;exact hK _ _ _ _ (gi.up (Nat.le_succ _)) gm2
  have fin:GoOn N m w0 g ((b5, .row [.int .i64 kd, .int .i64 on, .int .i64 nn, .int .i64 dr])::M) K:=fun x' G' q' w' gi' gm'=>by
    obtain⟨gm2,_⟩:=gm'.drop;exact hK _ _ _ _ gi' gm2
  refine zJm (fun l w'=>∃c:Bool,l=[.ptr g 0, .ptr b5 0, .int .i64 (i:Int), .int .i64 (k:Int), .int .i64 kd, .bool c]∧w'=w6) ?_ fun J hJ=>?_
  · rintro l w' ⟨c,rfl,rfl⟩
    refine⟨_,_,_,_,_,_,_,rfl,fun _=>?_⟩
    cases c with
    | true=>
      -- a tick
      refine qJ3 (qJd (gm6.st.ld 0 rfl rfl) (gm6.atN hli (qJd (gm6.ldNd tk) ⟨_,gm6.st.ld 6 rfl rfl,gm6.new fun b41 w42 gm42 x42=>⟨gm42.st.ld 7 rfl rfl,gm42.ldNd tk,gm42.st.ld 0 rfl rfl,?_⟩⟩)));refine s12 hh gm42.mem gm42.pos (nr6.yw x42) (hR.sm2 (by omega)) (by omega) fun r w44 f44 hr=>?_;rcases hr with⟨hno,_⟩ | ⟨_,s2,o2,rfl,nr44,ho44⟩
      · exact absurd hR hno
      obtain⟨gm44,x44⟩:=gm42.call f44;have nr44':=nr44.inn gm42.st;have ho44':=bJa ho44 gm42.st;obtain⟨ok,hl',G',gi2⟩:=gi.tick (dr:=dr) hi (by omega);rw[jJh hli]at ok hl' gi2;refine⟨_,_,_,rfl,gd_t nr44'.ok (gd_t rfl (gm44.put (yQk rfl) fun w49 gm49 x49=>qJd (gm49.st.ldN 6 rfl rfl rfl) ?_))⟩;have hout:=rJt (n:=x.ns[i]) (dr:=dr) hsz.2;refine s33 hh gm49 hli (nr44'.yw x49) (ho44'.y x49) (by omega) ok (by omega) (by omega) fun q3 w52 gm52 x52=>⟨_,rfl,?_⟩;obtain⟨gm53,_⟩:=gm52.drop;exact fin _ _ _ _ gi2 gm53
    | false=>
    refine qJ0 (zJm (fun l w''=>∃c:Bool,l=[.ptr g 0, .ptr b5 0, .int .i64 (i:Int), .int .i64 (k:Int), .int .i64 kd, .bool c]∧w''=w') ?_ fun J hJ=>?_)
    · rintro l w'' ⟨c,rfl,rfl⟩
      refine⟨_,_,_,_,_,_,_,rfl,fun _=>?_⟩
      cases c with
      | true=>
        -- a message
        refine qJ3 (qJd (v:=q.vB) (gm6.st.ld 0 rfl rfl) ⟨_,gm6.rdB.len',qJh (fun h0=>stay gm6) fun h0=>qJd (v:=q.vB) (gm6.st.ld 0 rfl rfl) ?_⟩);have hkb:k<x.bag.length:=by have:=hk1 (by omega);omega
        obtain⟨bm,om,e1,sv1,hidx,hld,he,hs⟩:=gm6.msg hkb;rw[hidx];refine⟨_,_,_,_,_,_,_,_,_,_,_,_,hld,gm6.new fun b85 w86 gm86 x86=>gd_t (okM he hs) (gm86.put (yQk rfl) fun w87 gm87 x87=>?_)⟩;have he87:=(he.y x86).y x87;have hs87:=(hs.y x86).y x87;have hmem:x.bag[k]∈x.bag:=gQp hkb;refine zJm (fun l w89=>∃(bag1:List Msg) (q9:GO),l=[.ptr g 0, .ptr b5 0, .ptr b85 0]∧(∀m∈bag1,m∈x.bag)∧bag1.length≤80∧GM w0 w89 g {x with bag:=bag1} q9 ((b85, .row (mC x.bag[k] e1 sv1))::(b5, .row [.int .i64 kd, .int .i64 on, .int .i64 nn, .int .i64 dr])::M)∧(rL rE).rd (fz TA (ids (gL q9 g {x with bag:=bag1} ((b85, .row (mC x.bag[k] e1 sv1))::(b5, .row [.int .i64 kd, .int .i64 on, .int .i64 nn, .int .i64 dr])::M)))) w89 [e1] x.bag[k].ents∧(rL rU).rd (fz TA (ids (gL q9 g {x with bag:=bag1} ((b85, .row (mC x.bag[k] e1 sv1))::(b5, .row [.int .i64 kd, .int .i64 on, .int .i64 nn, .int .i64 dr])::M)))) w89 [sv1] x.bag[k].snap) ?_ fun J hJ=>?_
        · rintro l w89 ⟨bag1,q9,rfl,hsub,hbl,gm89,he89,hs89⟩
          refine⟨_,_,_,_,_,rfl,fun _=>⟨_,gm89.st.ld 7 rfl rfl,qJh (fun _=>?_) fun _=>?_⟩⟩
          · obtain⟨gm90,_⟩:=gm89.drop
            exact fin _ _ _ _ ((gi.lose hsub hbl).up (Nat.le_succ _)) gm90
          · refine⟨_,_,_,_,_,_,_,_,_,_,_,_,gm89.st.ldN 6 rfl rfl rfl,_,gm89.st.ld 7 rfl rfl,?_⟩
            refine s74 hh gi hm gm89 hmem hsub hbl he89 hs89 fun x' G' q' w' gi' gm'=>⟨_,rfl,?_⟩;obtain⟨gm90,_⟩:=gm'.drop;exact fin _ _ _ _ gi' gm90
        · refine⟨_,gm87.st.ld 7 rfl rfl,vJv (fun _=>?_) fun _=>hJ _ _ ⟨x.bag,q,rfl,fun m hm=>hm,hbg,gm87,he87,hs87⟩⟩
          refine qJd (v:=q.vB) (gm87.st.ld 0 rfl rfl) ?_;have hwi:wi ((k:Int)+1)=((k+1:Nat):Int):=by rw[qJq (by omega) (by omega)];omega
          rw[hwi];refine gm87.cutAt hkb (by omega) fun q9 w9 gm9 x9=>hJ _ _ ⟨_,q9,rfl,fun m hm=>?_,?_,gm9,he87.y x9,hs87.y x9⟩
          · rcases yQ1.1 hm with h | h
            · exact gQz h
            · exact List.mem_of_mem_drop h
          · rw[yQs,yQ9,yQ3];omega
      | false=>
      refine qJ0 (zJm (fun l w3=>∃c:Bool,l=[.ptr g 0, .ptr b5 0, .int .i64 (i:Int), .int .i64 kd, .bool c]∧w3=w'') ?_ fun J hJ=>?_)
      · rintro l w3 ⟨c,rfl,rfl⟩
        refine⟨_,_,_,_,_,_,rfl,fun _=>?_⟩
        cases c with
        | true=>
          -- something is asked
          refine qJ3 ⟨_,gm6.st.ld 6 rfl rfl,?_⟩;cases decide (kd=12)with
          | true=>exact s35r hh gi hm gm6 hi fun x' G' q' w' gi' gm'=>⟨_,rfl,fin _ _ _ _ gi' gm'⟩
          | false=>exact s35p hh gi hm gm6 hi fun x' G' q' w' gi' gm'=>⟨_,rfl,fin _ _ _ _ gi' gm'⟩
        | false=>
        refine qJ0 (qJh (fun _=>?_) fun _=>qJh (fun _=>?_) fun _=>stay gm6)
        · -- anew
          refine qJd (gm6.st.ld 0 rfl rfl) (gm6.atN hli (qJd (gm6.ldNd tk) ⟨_,gm6.st.ld 6 rfl rfl,gm6.new fun b149 w150 gm150 x150=>⟨gm150.st.ld 7 rfl rfl,gm150.ldNd tk,gm150.st.ld 0 rfl rfl,?_⟩⟩));have nr150:=nr6.yw x150;refine s75 hh gm150.mem gm150.pos hR nr150 fun s2 w152 f152 nr152=>⟨_,_,rfl,?_⟩;obtain⟨gm152,x152⟩:=gm150.call f152;have nw152:=nr152.inn gm150.st;have no152:=nr150.yw x152;have nn152:NR (fz TA (ids (gL q g x ((b149, .row zC)::(b5, .row [.int .i64 kd, .int .i64 on, .int .i64 nn, .int .i64 dr])::M)))) w152 (gJ3 x.ns[i] dr) ⟨s1.snap,s1.log,s2.votes,s2.next,s2.mtch,s2.seen,s2.reads⟩:=⟨no152.snap,no152.log,nw152.votes,nw152.next,nw152.mtch,nw152.seen,nw152.reads⟩;obtain⟨ok,hl',G',gi2⟩:=gi.anew (dr:=dr) hi;rw[jJh hli]at ok hl' gi2;refine gd_t nn152.ok (gd_t rfl (gm152.put (yQk rfl) fun w156 gm156 x156=>qJ3 (qJd (gm156.st.ldN 6 rfl rfl rfl) ?_)));refine s33 hh gm156 hli (nn152.yw x156) Rp.rd.nil (by show x.bag.length+0≤_;omega) ok (by omega) (by omega) fun q3 w159 gm159 x159=>⟨_,rfl,?_⟩;obtain⟨gm160,_⟩:=gm159.drop;exact fin _ _ _ _ (gi2.up (Nat.le_succ _)) gm160
        · -- its log is made shorter
          refine qJd (gm6.st.ld 0 rfl rfl) (gm6.atN hli (qJd (gm6.ldNd tk) (gm6.new fun b167 w168 gm168 x168=>?_)));have nr168:=nr6.yw x168;have hcr:=hR.commit;have hbr:=hR.base;have hcom:=a.com;have hHl:=gi.inv.Hlen hi;rw[jJh hli]at hcom;refine gd_t nr168.ok (gd_t rfl (gm168.put (yQk rfl) fun w170 gm170 x170=>⟨_,gm170.st.ld 6 rfl rfl,_,gm170.st.ld 6 rfl rfl,qJh (fun _=>?_) fun hne=>?_⟩))
          · obtain⟨gm171,_⟩:=gm170.drop
            exact stay gm171
          · refine qJd (gm170.st.ldN 6 rfl rfl rfl) ⟨_,gm170.st.ld 6 rfl rfl,_,gm170.st.ld 6 rfl rfl,gm170.new fun b176 w177 gm177 x177=>⟨gm177.st.ld 7 rfl rfl,gm177.st.ld 7 rfl rfl,gm177.st.ldN 7 rfl rfl rfl,?_⟩⟩
            have nr177:=(nr168.yw x170).yw x177;refine s76 hh gm177.mem (by omega) (by omega) fun v w179 f179 hv=>?_;obtain⟨gm179,x179⟩:=gm177.call f179;have hv':=bJa hv gm177.st;refine⟨gm179.st.ld 7 rfl rfl,gm179.st.ldN 7 rfl rfl rfl,?_⟩;have nr179:=nr177.yw x179;refine s15 hh gm179.mem gm179.pos nr179 (hR.sm2 (by omega)) (by omega) hv' fun r w181 f181 hr=>?_;have hz:comE x.ns[i] x.ns[i].commit (uJc x.ns[i].commit)=0:=by
              unfold comE;rw[if_neg (not_not_intro hR),if_neg (by omega),if_neg (by omega),if_neg (by unfold G40;omega),if_neg (by show ¬ 60000<2;decide)]
            rcases hr with⟨hn0,_⟩ | ⟨_,_,s2,rfl,nr181⟩
            · exact absurd hz hn0
            obtain⟨gm181,x181⟩:=gm179.call f181;have nr181':=nr181.inn gm179.st;obtain⟨ok,hl',G',gi2⟩:=gi.comp hi (by rw[jJh hli];omega) (by omega);rw[jJh hli]at ok hl' gi2;refine⟨_,_,rfl,gd_t nr181'.ok (gd_t rfl (gm181.put (yQk rfl) fun w185 gm185 x185=>qJd (gm185.st.ldN 6 rfl rfl rfl) ?_))⟩;refine s33 hh gm185 hli (nr181'.yw x185) Rp.rd.nil (by show x.bag.length+0≤_;omega) ok (by omega) (by omega) fun q3 w188 gm188 x188=>⟨_,rfl,?_⟩;obtain⟨gm189,_⟩:=gm188.drop;obtain⟨gm190,_⟩:=gm189.drop;exact fin _ _ _ _ (gi2.up (Nat.le_succ _)) gm190
      · exact qJh (fun _=>hJ _ _ ⟨_,rfl,rfl⟩) fun _=>qJh (fun _=>hJ _ _ ⟨_,rfl,rfl⟩) fun _=>hJ _ _ ⟨_,rfl,rfl⟩
    · exact qJh (fun _=>hJ _ _ ⟨_,rfl,rfl⟩) fun _=>qJh (fun _=>hJ _ _ ⟨_,rfl,rfl⟩) fun _=>qJh (fun _=>hJ _ _ ⟨_,rfl,rfl⟩) fun _=>qJh (fun _=>hJ _ _ ⟨_,rfl,rfl⟩) fun _=>qJh (fun _=>hJ _ _ ⟨_,rfl,rfl⟩) fun _=>qJh (fun _=>hJ _ _ ⟨_,rfl,rfl⟩) fun _=>hJ _ _ ⟨_,rfl,rfl⟩
  · exact qJh (fun _=>hJ _ _ ⟨_,rfl,rfl⟩) fun _=>qJh (fun _=>hJ _ _ ⟨_,rfl,rfl⟩) fun _=>hJ _ _ ⟨_,rfl,rfl⟩
end
end Go.Proofs.YtghoifolghelnaaGreat
/-
 What is sure; do logs match?
 No condition beyond those that each theorem names.
-/
open Go.Sx
namespace Go.Proofs.YtghoifolghelnaaGreat
section
variable {hk:Hook}{A A' B:Nat→Prop}{w0 w w':AW}{K:AV→AW→Prop}{n n':Nd}{s s':Sl}{v v' e sv:AV}{g:Nat}{x x':Gr}{q q':GO}{M M':Obs}{L:Obs}{b N m i k:Nat}{G:Gh}{mm:Msg}{dr:Int}{bag1:List Msg}
theorem GM.rdA(gm:GM w0 w g x q M):(rL rI).rd TA w [q.vA] x.ask:=Ow.sdRd (r:=rI) (U:=[]) gm.st (i:=5) rfl gm.sA (by decide) (Chk.ints.2 rfl)
theorem vQo {α:Type}{r:Rp α}{U:List Nat}{l:List α}(h:(rL r).rd (fz B U) w [v] l)(hi:i<l.length):∃b o cs,idxS r.sz v (.int .i64 (i:Int))=some (.ptr b o)∧r.rd (fz B U) w cs l[i]∧∀{U':List Nat} {w':AW},Xw U w U' w'→ldN r.sz w' b o=some (.agg cs):=by
 rcases h.sl with⟨_,rfl⟩ | ⟨b,o,cap,ex,f,all,rfl,_,h2,h3,h4,h5,h6⟩
 ·exact absurd hi (Nat.not_lt_zero _)
 ·have hg:=h6.get i hi;have hle:i * r.sz+r.sz≤l.length * r.sz:=by
   have:=yQ7 r.sz (show i+1≤l.length from hi);rw[gQl,Nat.one_mul]at this;exact this
  have e:(((all.drop o).take (l.length * r.sz)).drop (i * r.sz)).take r.sz=(all.drop (o+i * r.sz)).take r.sz:=by
   rw[List.drop_take,List.take_take,gQs,Nat.min_eq_left (by omega)]
  rw[e]at hg;refine⟨b,o+i * r.sz,_,?_,hg,fun {U' w'} x=>?_⟩
  ·show(asN (.int .i64 (Int.ofNat i))).bind _=_;have hb:Nat.blt i l.length=true:=by rw[gQm];exact hi
   simp only[asN,Option.bind_some,hb,qJf,cond_true]
  ·obtain⟨_,_,hr⟩:=x.a b f all h2.2 h3.2 h4;exact aJp hr.2 (qJ6 (by omega))
set_option maxRecDepth 20000 in
theorem s30(hh:HK hk)(gi:GInv N m x G)(hm:m≤1000)(gm:GM w0 w g x q M)(hi:i<N)(hK:∀v q' w',GM w0 w' g {x with ns:=x.ns.set i (mJh (ndf x.ns i))} q' M→(rL rG).rd (fz TA (ids (gL q' g {x with ns:=x.ns.set i (mJh (ndf x.ns i))} M))) w' [v] ((ndf x.ns i).reads.take (sureK (ndf x.ns i)))→K (.tup [v,.bool true]) w'):Cl Tryz.prog hk 30 [.ptr g 0,.int .i64 (i:Int)] w K:=by
 have a:=gi.ni hi;have hR:=a.right;have hli:i<x.ns.length:=by rw[gi.len];exact hi
 have hlg:=gi.log hi;obtain⟨hs,_⟩:=gi.sure hi;have hal:=gi.al;have hrl:=hR.reads.2;refine in30 (hh.no _ _ _ (by decide) (by decide)) ?_;unfold yQc;simp only[onP];obtain⟨s1,nr1,tk⟩:=gm.node (i:=i) hli;rw[jJh hli]at hR hlg hs hrl hK;refine qJd (gm.st.ld 0 rfl rfl) (gm.atN hli (qJd (gm.ldNd tk) (s21 hh gm.mem gm.pos nr1 (hR.sm2 (by omega)) (by omega) fun r w9 f9 hr=>?_)));rcases hr with⟨hno,_⟩ | ⟨_,s2,o2,rfl,nr9,ho9⟩
 ·exact absurd hR hno
 obtain⟨gm9,x9⟩:=gm.call f9;have nr9':=nr9.inn gm.st;have ho9':=bJa ho9 gm.st;refine⟨_,_,_,rfl,gm9.new fun b13 w14 gm14 x14=>gd_t nr9'.ok (gd_t rfl (gm14.put (yQk rfl) fun w16 gm16 x16=>qJ0 ?_))⟩;have nr16:=(nr9'.yw x14).yw x16;have ho16:=(ho9'.y x14).y x16;refine qJd (gm16.st.ld 0 rfl rfl) (qJd (gm16.st.ldN 6 rfl rfl rfl) (gm16.atN hli (gd_t nr16.ok (gd_t rfl (gm16.setN hli nr16 fun q2 w24 gm24 x24=>?_)))));have ho24:=ho16.y x24;have hll:(x.ns[i].reads.take (sureK x.ns[i])).length≤64:=by rw[yQ9];omega
 generalize x.ns[i].reads.take (sureK x.ns[i])=l at hs hll ho24 hK;refine qJr (fun m lv w27=>w27=w24∧∃k:Nat,k≤l.length∧m=l.length - k∧lv=[.int .i64 (k:Int)]) ?_ ⟨rfl,0,yQz _,rfl,rfl⟩;rintro m lv w27 ⟨rfl,k,hk,rfl,rfl⟩ R ih;refine⟨_,rfl,fun _=>⟨_,ho24.len',qJh (fun hlt=>?_) fun hge=>?_⟩⟩
 ·have hkl:k<l.length:=by omega
  obtain⟨h1,h2,h3⟩:=hs _ (gQp hkl);have at':∀{K:Nat→Nat→Prop},(∀b o,(∀f,f<3→Sx.ld w27 b (o+f)=([.int .i64 l[k].1,.int .i64 l[k].2.1,.int .i64 l[k].2.2]:List AV)[f]?)→K b o)→atP (idxS 3 o2 (.int .i64 (k:Int))) K:=fun {K} hK=>ho24.at hkl fun b o cs hr hf _=>hK b o fun f hf3=>by
   have hr:cs=[.int .i64 l[k].1,.int .i64 l[k].2.1,.int .i64 l[k].2.2]:=hr;rw[hf f hf3,hr]
  refine at' fun b30 o31 hf=>⟨_,hf 0 (by decide),gd_t (by rw[decide_eq_false (by omega)];rfl) (at' fun b33 o34 hf=>⟨_,hf 0 (by decide),qJd (v:=q2.vA) (gm24.st.ld 0 rfl rfl) ⟨_,gm24.rdA.len',gd_t (show(!decide ((x.ask.length:Int)≤l[k].1))=true by rw[decide_eq_false (by omega)];rfl) (at' fun b40 o41 hf=>⟨_,hf 1 (by decide),qJd (v:=q2.vA) (gm24.st.ld 0 rfl rfl) (at' fun b46 o47 hf=>⟨_,hf 0 (by decide),at_int gm24.rdA h1 h2 fun b49 o50 hld=>⟨_,hld,qJh (fun hc=>?_) fun _=>?_⟩⟩)⟩)⟩⟩)⟩
  ·exfalso;have hc:l[k].2.1<x.ask.getD l[k].1.toNat 0:=hc;omega
  ·exact ih (l.length - (k+1)) (by omega) _ _ ⟨rfl,k+1,by omega,rfl,by rw[qJq (by omega) (by omega)];rfl⟩
 ·obtain⟨gm25,x25⟩:=gm24.drop;exact hK o2 q2 w27 gm25 (ho24.y x25)
set_option maxRecDepth 20000 in
set_option maxHeartbeats 1000000 in
theorem s31(hh:HK hk)(gi:GInv N m x G)(hm:m≤1000)(gm:GM w0 w g x q M)(hK:∀q' w',GM w0 w' g x q' M→K (.bool true) w'):Cl Tryz.prog hk 31 [.ptr g 0] w K:=by
 have hN:=gi.len;have hN5:=gi.size;refine in31 (hh.no _ _ _ (by decide) (by decide)) ?_;unfold yQb;refine qJr (fun m lv w3=>GM w0 w3 g x q M∧∃a:Nat,a≤N∧m=N - a∧lv=[.int .i64 (a:Int)]) ?_ ⟨gm,0,yQz _,rfl,rfl⟩;rintro m1 lv w3 ⟨gm3,a,ha,rfl,rfl⟩ R ih;refine⟨_,rfl,fun _=>qJd (gm3.st.ld 0 rfl rfl) ⟨_,gm3.lenN,qJh (fun hlt=>?_) fun hge=>hK q w3 gm3⟩⟩;have haN:a<N:=by omega
 have hla:a<x.ns.length:=by omega
 refine qJr (fun m lv w11=>GM w0 w11 g x q M∧∃c:Nat,c≤a∧m=a - c∧lv=[.int .i64 (c:Int)]) ?_ ⟨gm3,0,yQz _,rfl,rfl⟩;rintro m2 lv w11 ⟨gm11,c,hc,rfl,rfl⟩ R9 ih9;refine⟨_,rfl,fun _=>qJh (fun hlt2=>?_) fun hge=>ih (N - (a+1)) (by omega) _ _ ⟨gm11,a+1,by omega,rfl,by rw[qJq (by omega) (by omega)];rfl⟩⟩;have hcN:c<N:=by omega
 have hlc:c<x.ns.length:=by omega
 have na:=gi.ni haN;have nc:=gi.ni hcN;have Ra:=na.right;have Rc:=nc.right;have lga:=gi.log haN;have lgc:=gi.log hcN;have hmt:=fun {k e e'}=>gi.match (k:=k) (e:=e) (e':=e') haN hcN;rw[jJh hla]at Ra lga;rw[jJh hlc]at Rc lgc;rw[jJh hla,jJh hlc]at hmt;obtain⟨sa,nra,tka⟩:=gm11.node (i:=a) hla;obtain⟨sc,nrc,tkc⟩:=gm11.node (i:=c) hlc;generalize hya:x.ns[a]=ya at Ra lga hmt nra tka;generalize hyc:x.ns[c]=yc at Rc lgc hmt nrc tkc;refine qJd (gm11.st.ld 0 rfl rfl) (gm11.atN hla (qJd (gm11.ldNd tka) (qJd (gm11.st.ld 0 rfl rfl) (gm11.atN hlc (qJd (gm11.ldNd tkc) (gm11.new fun b25 w26 gm26 x26=>gm26.new fun b27 w28 gm28 x28=>⟨gm28.ldNd tkc,gm28.st.ld 0 rfl rfl,gm28.ldNd tka,gm28.st.ld 0 rfl rfl,?_⟩))))));refine gd_t nra.ok (gd_t rfl (gm28.putI 1 rfl (yQk rfl) fun w30 gm30 x30=>⟨gm30.ldNd tkc,gm30.st.ld 0 rfl rfl,gd_t nrc.ok (gd_t rfl (gm30.putI 0 rfl (yQk rfl) fun w32 gm32 x32=>?_))⟩));have gm32:GM w0 w32 g x q ((b27,.row (ndC yc sc))::(b25,.row (ndC ya sa))::M):=gm32;have x1132:Xw (ids (gL q g x M)) w11 (ids (gL q g x ((b27,.row (ndC yc sc))::(b25,.row (ndC ya sa))::M))) w32:=((x26.trans x28).trans x30).trans x32;have nra:=nra.yw x1132;have nrc:=nrc.yw x1132;have ba:=Ra.base;have bc:=Rc.base;unfold G40 at ba bc;have la:qJi ya=ya.base+ya.log.length:=rfl;have lc:qJi yc=yc.base+yc.log.length:=rfl;refine⟨_,gm32.st.ld 7 rfl rfl,_,gm32.st.ld 6 rfl rfl,?_⟩;have hmx:ya.base≤imax ya.base yc.base∧yc.base≤imax ya.base yc.base∧imax ya.base yc.base<2^42:=by
  rcases sJ3 ya.base yc.base with h | ⟨h,h2⟩
  ·unfold imax at *;split at h<;>split<;>omega
  ·omega
 refine qJr (fun m lv w37=>∃j:Nat,imax ya.base yc.base≤j∧(j:Int)≤imax ya.base yc.base+300000∧m=600000+(imax ya.base yc.base).toNat - j∧lv=[.int .i64 ((j:Int)+1)]∧GM w0 w37 g x q ((b27,.row (ndC yc sc))::(b25,.row (ndC ya sa))::M)∧Xw (ids (gL q g x ((b27,.row (ndC yc sc))::(b25,.row (ndC ya sa))::M))) w32 (ids (gL q g x ((b27,.row (ndC yc sc))::(b25,.row (ndC ya sa))::M))) w37) ?_
  ⟨(imax ya.base yc.base).toNat,by omega,by omega,rfl,by rw[qJq (by omega) (by omega),Int.toNat_of_nonneg (by omega)],gm32,Xw.refl⟩
 rintro m3 lv w37 ⟨j,hj1,hj2,rfl,rfl,gm37,x37⟩ R35 ih35;have nra37:=nra.yw x37;have nrc37:=nrc.yw x37;refine⟨_,rfl,fun _=>qJd (gm37.st.ldN 7 rfl rfl rfl) (qJd (gm37.st.ldN 6 rfl rfl rfl) (s36 hh gm37.mem nra37 ba.1 (by omega) (by omega) fun w42 f42=>⟨_,rfl,?_⟩))⟩;obtain⟨gm42,x42⟩:=gm37.call f42;refine⟨gm42.st.ldN 6 rfl rfl rfl,s36 hh gm42.mem (nrc37.yw x42) bc.1 (by omega) (by omega) fun w45 f45=>⟨_,rfl,?_⟩⟩;obtain⟨gm45,x45⟩:=gm42.call f45;have nra45:=(nra37.yw x42).yw x45;have nrc45:=(nrc37.yw x42).yw x45;refine qJh (fun hle=>?_) fun hgt=>?_
 ·have hle1:(j:Int)+1≤qJi ya∧(j:Int)+1≤qJi yc:=by
   have:=vQ1 (a:=qJi ya) (b:=qJi yc);have:=aJ0 (a:=qJi ya) (b:=qJi yc);omega
  have hja:j - ya.base.toNat<ya.log.length:=by omega
  have hjc:j - yc.base.toNat<yc.log.length:=by omega
  have ida:wi (wi ((j:Int)+1 - ya.base) - 1)=((j - ya.base.toNat:Nat):Int):=by
   rw[qJq (x:=(j:Int)+1 - ya.base) (by omega) (by omega),qJq (by omega) (by omega)];omega
  have idc:wi (wi ((j:Int)+1 - yc.base) - 1)=((j - yc.base.toNat:Nat):Int):=by
   rw[qJq (x:=(j:Int)+1 - yc.base) (by omega) (by omega),qJq (by omega) (by omega)];omega
  obtain⟨ba1,oa1,csa,ixa,⟨ua,rfl,hua⟩,fa⟩:=vQo nra45.log hja;obtain⟨bc1,oc1,csc,ixc,⟨uc,rfl,huc⟩,fc⟩:=vQo nrc45.log hjc;refine qJd (v:=sa.log) (gm45.st.ld 7 rfl rfl) ⟨_,gm45.st.ld 7 rfl rfl,?_⟩;rw[ida];refine vJg.2 ⟨ba1,oa1,ixa,_,_,fa Xw.refl,qJd (v:=sc.log) (gm45.st.ld 6 rfl rfl) ⟨_,gm45.st.ld 6 rfl rfl,?_⟩⟩;rw[idc];refine vJg.2 ⟨bc1,oc1,ixc,_,_,fc Xw.refl,gm45.new fun b59 w60 gm60 x60=>gm60.new fun b61 w62 gm62 x62=>?_⟩;have x4562:=x60.trans x62;refine⟨fc x4562,gm62.st.ld 8 rfl rfl,gm62.st.ld 8 rfl rfl,fa x4562,gm62.st.ld 9 rfl rfl,gm62.st.ld 9 rfl rfl,gd_t (by simp only[List.all_cons,hua.ok1];rfl) (gm62.putI 1 rfl (yQk rfl) fun w63 gm63 x63=>?_)⟩;have x4563:=x4562.trans x63;refine⟨fc x4563,gm63.st.ld 8 rfl rfl,gm63.st.ld 8 rfl rfl,gd_t (by simp only[List.all_cons,huc.ok1];rfl) (gm63.putI 0 rfl (yQk rfl) fun w64 gm64 x64=>?_)⟩;have gm64:GM w0 w64 g x q ((b61,.row [.int .i64 yc.log[j - yc.base.toNat].1,uc])::(b59,.row [.int .i64 ya.log[j - ya.base.toNat].1,ua])::(b27,.row (ndC yc sc))::(b25,.row (ndC ya sa))::M):=gm64;have x4564:Xw (ids (gL q g x ((b27,.row (ndC yc sc))::(b25,.row (ndC ya sa))::M))) w45 (ids (gL q g x ((b61,.row [.int .i64 yc.log[j - yc.base.toNat].1,uc])::(b59,.row [.int .i64 ya.log[j - ya.base.toNat].1,ua])::(b27,.row (ndC yc sc))::(b25,.row (ndC ya sa))::M))) w64:=x4563.trans x64;obtain⟨gm65,x65⟩:=gm64.drop;obtain⟨gm66,x66⟩:=gm65.drop;have go:R35 [.int .i64 (wi ((j:Int)+1+1))] w64:=ih35 (600000+(imax ya.base yc.base).toNat - (j+1)) (by omega) _ _ ⟨j+1,by omega,by omega,rfl,by rw[qJq (by omega) (by omega)];rfl,gm66,((((x37.trans x42).trans x45).trans x4564).trans x65).trans x66⟩;refine⟨_,gm64.st.ld 7 rfl rfl,_,gm64.st.ld 6 rfl rfl,qJh (fun heq=>?_) fun _=>go⟩;have hee:=hmt (k:=j) (by omega) (by omega) (yQn hja) (yQn hjc) heq;have hua2:=hua.y x4564;have huc2:=huc.y x4564;rw[hee]at hua2;exact qJd (v:=ua) (gm64.st.ld 7 rfl rfl) (qJd (v:=uc) (gm64.st.ld 6 rfl rfl) (s61 hh hua2 huc2 ⟨_,rfl,qJ0 go⟩))
 ·obtain⟨gm46,x46⟩:=gm45.drop;obtain⟨gm47,x47⟩:=gm46.drop;exact ih9 (a - (c+1)) (by omega) _ _ ⟨gm47,c+1,by omega,rfl,by rw[qJq (by omega) (by omega)];rfl⟩
end
end Go.Proofs.YtghoifolghelnaaGreat
/-
 A group is made; RaftSafe.
 No condition beyond those that each theorem names.
-/
open Go.Sx
namespace Go.Proofs.YtghoifolghelnaaGreat
abbrev rMv:Rp (Int×Int×Int×Int):=⟨4,fun _ _ cs x=>cs=[.int .i64 x.1,.int .i64 x.2.1,.int .i64 x.2.2.1,.int .i64 x.2.2.2],fun h=>by rw[h];rfl,fun h=>by rw[h];rfl,fun _ h=>h⟩
section
variable {hk:Hook}{A A' B:Nat→Prop}{w0 w w':AW}{K:AV→AW→Prop}{n n':Nd}{s s':Sl}{v v' e sv:AV}{g:Nat}{x x':Gr}{q q':GO}{M M':Obs}{L:Obs}{b N m i k:Nat}{G:Gh}{mm:Msg}{dr:Int}{bag1:List Msg}
theorem jQq:ns0 N (k+1)=ns0 N k++[newN ((k:Int)+1) N ((k:Int)+1)]:=by
 unfold ns0;rw[List.range_succ,List.map_append];rfl
theorem aJe:(ns0 N k).length=k:=by unfold ns0;rw[yQr,List.length_range]
set_option maxRecDepth 20000 in
theorem s27(hh:HK hk)(pv:Pv TA w)(h1:1≤N)(h5:N≤5)(hK:∀g q w',GM w w' g (gr0 N N) q []→K (.tup [.ptr g 0,.bool true]) w'):Cl Tryz.prog hk 27 [.int .i64 (N:Int)] w K:=by
 refine in27 (hh.no _ _ _ (by decide) (by decide)) ?_;unfold yQf;have hrep:repl 400 [AV.int .i64 0]=(List.replicate 400 (0:Int)).map (AV.int .i64):=pJ6 400;rw[hrep];refine gd_t rfl (pv.st.room.new' fun b1 w2 st2 x2=>st2.room.room.room.new' fun b3 w4 st4 x4=>?_);refine qJr (fun m lv w7=>∃(k:Nat) (vN:AV) (fN:Nat) (oN:Ob) (cN:List AV),k≤N∧m=N - k∧lv=[.int .i64 ((k:Int)+1)]∧Ow TA [] w w7 [(b3,.row [vN,.nilslice,.nilslice,.slice b1 0 400 400 none,.nilslice,.int .i64 0]),(fN,oN),(0,.none),(0,.none),(b1,.row ((List.replicate 400 (0:Int)).map (AV.int .i64))),(0,.none)]∧Sv 19 oN vN cN∧Chk rN (fz TA (ids [(b3,Ob.row [vN,.nilslice,.nilslice,.slice b1 0 400 400 none,.nilslice,.int .i64 0]),(fN,oN),(0,.none),(0,.none),(b1,.row ((List.replicate 400 (0:Int)).map (AV.int .i64))),(0,.none)])) w7 cN (ns0 N k)) ?_
  ⟨0,.nilslice,0,.none,[],yQz _,rfl,rfl,st4,Sv.nil,rfl⟩
 rintro m lv w7 ⟨k,vN,fN,oN,cN,hk,rfl,rfl,st7,sv7,ck7⟩ R ih;have hcl:=ck7.len;rw[aJe]at hcl;have hcl:cN.length=k * 19:=hcl;refine⟨_,rfl,fun _=>qJh (fun hle=>?_) fun hgt=>?_⟩
 ·have hkN:k<N:=by omega
  refine s25 hh st7.mem st7.P0.pos fun r w10 f10 hr=>?_;have hz:newE ((k:Int)+1) (N:Int)=0:=by
   unfold newE;rw[if_neg (by omega),if_neg (by omega),if_neg (by omega),if_neg (by omega)]
  rcases hr with⟨hne,_⟩ | ⟨_,s2,rfl,nr10⟩
  ·exact absurd hz hne
  have nr10':=nr10.inn st7;obtain⟨st10,x10⟩:=st7.call f10;refine⟨_,_,rfl,st10.new' fun b13 w14 st14 x14=>gd_t nr10'.ok (gd_t rfl (st14.put 0 rfl (yQk rfl) fun w16 st16 x16=>qJ0 ?_))⟩;refine qJd (v:=vN) (st16.ld 1 rfl rfl) (qJd (st16.ldN 0 rfl rfl rfl) (gd_t nr10'.ok (gd_t rfl (new_of st16.mem fun w21 f21 b21 z21=>?_))));obtain⟨st21,x21⟩:=st16.call f21;refine⟨st21.ldN 0 rfl rfl rfl,st21.ld 1 rfl rfl,?_⟩;have hsrc:Rs w21 19 1 (.slice w16.size 0 1 1 none) (ndC (newN ((k:Int)+1) N ((k:Int)+1)) s2):= .inr ⟨w16.size,0,1,none,_,rfl,b21.cells,(yQk rfl),rfl⟩;have hd:cN.length / 19=k:=by omega
  refine st21.accApp 2 rfl sv7 (by decide) hsrc (by rw[hd];omega) (by rw[hd];omega) fun v' f' o' w23 st23 x23 s23=>?_;refine gd_t s23.ok (st23.put 1 rfl (yQk rfl) fun w24 st24 x24=>?_);have st24:Ow TA [] w w24 ((b13,.row (ndC (newN ((k:Int)+1) N ((k:Int)+1)) s2))::[(b3,.row [v',.nilslice,.nilslice,.slice b1 0 400 400 none,.nilslice,.int .i64 0]),(f',o'),(0,.none),(0,.none),(b1,.row ((List.replicate 400 (0:Int)).map (AV.int .i64))),(0,.none)]):=st24;obtain⟨st25,x25⟩:=st24.forget;have xx:Xw (ids [(b3,Ob.row [vN,.nilslice,.nilslice,.slice b1 0 400 400 none,.nilslice,.int .i64 0]),(fN,oN),(0,.none),(0,.none),(b1,.row ((List.replicate 400 (0:Int)).map (AV.int .i64))),(0,.none)]) w10 (ids [(b3,Ob.row [v',.nilslice,.nilslice,.slice b1 0 400 400 none,.nilslice,.int .i64 0]),(f',o'),(0,.none),(0,.none),(b1,.row ((List.replicate 400 (0:Int)).map (AV.int .i64))),(0,.none)]) w24:=(((((x14.xw.trans x16.xw).trans x21.xw).trans x23.xw).trans x24.xw).trans x25.xw);refine ih (N - (k+1)) (by omega) _ _ ⟨k+1,v',f',o',_,by omega,rfl,by rw[qJq (by omega) (by omega)];rfl,st25,s23,?_⟩;rw[jQq];exact(ck7.xa (x10.xw.trans xx).xa).app (Chk.one (r:=rN) ⟨s2,rfl,nr10'.yw xx⟩)
 ·have hkN:k=N:=by omega
  subst hkN;rcases sv7 with⟨_,h⟩ | ⟨bN,nN,ex,ho,rfl,hn,hex⟩
  ·rw[h,gQw]at hcl;omega
  have hnk:nN=k:=by omega
  subst hnk;exact hK b3 ⟨bN,nN,ex,fN,oN,cN,.nilslice,0,.none,[],.nilslice,0,.none,[],b1,.nilslice,0,.none⟩ w7 ⟨st7,aJe,.inl ho,ck7,Sd.nil,rfl,Sd.nil,rfl,Sd.nil,gQ0⟩
set_option maxRecDepth 20000 in
theorem s5 {size:Int}{mv:AV}{ms:List (Int×Int×Int×Int)}(hh:HK hk)(pv:Pv TA w)(hms:(rL rMv).rd TA w [mv] ms):Cl Tryz.prog hk 5 [.int .i64 size,mv] w fun r _=>r= .bool true:=by
 refine in5 (hh.no _ _ _ (by decide) (by decide)) (fun vs w1=>∃(N m g:Nat) (x:Gr) (G:Gh) (q:GO),vs=[.ptr g 0]∧GInv N m x G∧m≤1000∧GM w w1 g x q []) ?_ fun vs w1 h=>?_
 ·unfold F5_0;refine s28 hh (by decide) fun r hr _=>⟨_,rfl,?_⟩;have hr5:=hr (by decide);have hN:wi (1+(r:Int))=((r+1:Nat):Int):=by rw[qJq (by omega) (by omega)];omega
  rw[hN];refine s27 hh pv (by omega) (by omega) fun g q w6 gm6=>⟨_,_,rfl,qJ0 ?_⟩;refine qJr (fun m lv w11=>∃(k:Nat) (x:Gr) (G:Gh) (q:GO),k≤250∧k≤ms.length∧m=250 - k∧lv=[.int .i64 (k:Int)]∧GInv (r+1) k x G∧GM w w11 g x q []) ?_ ⟨0,_,_,q,yQz _,yQz _,rfl,rfl,GInv.begin (by omega) (by omega),gm6⟩;rintro m lv w11 ⟨k,x,G,q,hk,hkl,rfl,rfl,gi,gm⟩ R ih;refine⟨_,rfl,fun _=>⟨_,hms.len',qJh (fun hlt=>qJh (fun hlt2=>?_) fun _=>⟨_,k,g,x,G,q,rfl,gi,by omega,gm⟩) fun _=>⟨_,k,g,x,G,q,rfl,gi,by omega,gm⟩⟩⟩;have hkm:k<ms.length:=by omega
  have hms11:=gm.st.arg pv.mem hms;refine hms11.at hkm fun b14 o15 cs hr hf hn=>?_;have hr:cs=[.int .i64 ms[k].1,.int .i64 ms[k].2.1,.int .i64 ms[k].2.2.1,.int .i64 ms[k].2.2.2]:=hr;subst hr;refine⟨_,_,_,_,hn,s29 hh gi (by omega) (by omega) gm fun x' G' q' w21 gi' gm'=>⟨_,rfl,qJ0 ?_⟩⟩;have hms21:=gm'.st.arg pv.mem hms;refine hms21.at hkm fun b23 o24 cs hr hf hn=>?_;have hr:cs=[.int .i64 ms[k].1,.int .i64 ms[k].2.1,.int .i64 ms[k].2.2.1,.int .i64 ms[k].2.2.2]:=hr;subst hr;have hlen:=gi'.len;refine⟨_,hf 1 (by decide),qJd (gm'.st.ld 0 rfl rfl) ⟨_,gm'.lenN,s28 hh (by omega) fun i hi1 _=>⟨_,rfl,?_⟩⟩⟩;have hi:i<r+1:=by have:=hi1 (by omega);omega
  refine s30 hh gi' (by omega) gm' hi fun v q2 w34 gm34 _=>⟨_,_,rfl,qJ0 ?_⟩;exact ih (250 - (k+1)) (by omega) _ _ ⟨k+1,_,G',q2,by omega,by omega,rfl,by rw[qJq (by omega) (by omega)];rfl,(gi'.sure hi).2,gm34⟩
 ·obtain⟨N,m,g,x,G,q,rfl,gi,hm,gm⟩:=h;refine go5_1 ?_;unfold F5_1;exact s31 hh gi hm gm fun q' w' _=>⟨_,rfl,qJ3 (tJn (hh.awake _) ⟨_,rfl,rfl⟩)⟩
end
end Go.Proofs.YtghoifolghelnaaGreat
/-
 The chapter's first example comes out as written,by evaluation; numbers are sorted in their place.
 No condition beyond those that each theorem names.
-/
namespace Go.Proofs
open Go.RowKit Go.Maps Go.Sort Go.Shelf
shelf_lay_g SlLaysM.n5 Slgm 5 at Tryz 122 as Tryz.sorthk0
theorem Tryz.sortPhk0:Go.Sx.SortP Tryz.prog 122:=
 ⟨fun blk off cap ss W h1 h2 h3=>AnyM.slices_Sort_int Tryz.sorthk0 blk off cap ss W h1 h2 h3,fun p cap W=>AnyM.slices_Sort_int_none Tryz.sorthk0 p cap W⟩
end Go.Proofs
namespace Go.Proofs.YtghoifolghelnaaGreat.raftSafe
open Go.Sx
noncomputable def vQ3:List HR:=[]
theorem aJ2:∀h∈vQ3,HRok Tryz.prog h:=by
 intro h hh;cases hh
set_option maxRecDepth 100000 in
theorem apart9:kN Tryz.prog (wJe vQ3) 100000 (.call 9 [] ⟨1,.nil⟩) (says (.bool true))=true:=by kernel_rfl
end Go.Proofs.YtghoifolghelnaaGreat.raftSafe
