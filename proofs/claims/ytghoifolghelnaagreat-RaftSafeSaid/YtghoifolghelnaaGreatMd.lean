/-
 A node at work stands for election; Tick.
 No condition beyond those that each theorem names.
-/
import Derived.Test.YtghoifolghelnaaGreatMc
set_option linter.unusedSimpArgs false
set_option linter.unusedVariables false
open Go.Sx
namespace Go.Proofs.YtghoifolghelnaaGreat
section
variable {hk:Hook}{T A A' B:Nat→Prop}{I:List Nat}{w0 w w':AW}{K:AV→AW→Prop}{n:Nd}{s:Sl}{v out:AV}{W bs bm bn bv:Nat}{ms:List Msg}{dr:Int}{L:Obs}{U U':List Nat}
theorem tJo(wk:Wk T I w0 w W bs bm bn bv n s out ms dr L){cs:List AV}{K:Nat→AW→Prop}(hK:∀b w',Wk T I w0 w' W bs bm bn bv n s out ms dr ((b,.row cs)::L)→Xt (W::bs::bm::bn::bv::ids L) w (W::bs::bm::bn::bv::b::ids L) w'→K b w'):Sx.new w cs K:=
 wk.st.new' fun b w' st x=>by
  obtain⟨st2,x2⟩:=st.perm (L':=wkL W bs bm bn bv n s out dr ((b,.row cs)::L)) (List.perm_middle (a:=(b,Ob.row cs)) (l₁:=[_,_,_,_,_]) (l₂:=L)).symm;have x3:Xt (W::bs::bm::bn::bv::ids L) w (W::bs::bm::bn::bv::b::ids L) w':=x.trans x2;exact hK b w' ⟨st2,wk.wr.x x3,wk.we⟩ x3
theorem zJt {b:Nat}{cs:List AV}(wk:Wk T I w0 w W bs bm bn bv n s out ms dr ((b,.row cs)::L)):Wk T I w0 w W bs bm bn bv n s out ms dr L∧Xt (W::bs::bm::bn::bv::b::ids L) w (W::bs::bm::bn::bv::ids L) w:=by
 obtain⟨st1,x1⟩:=wk.st.perm (L':=(b,.row cs)::wkL W bs bm bn bv n s out dr L) (List.perm_middle (a:=(b,Ob.row cs)) (l₁:=[_,_,_,_,_]) (l₂:=L));obtain⟨st2,x2,_⟩:=st1.drop;have x3:Xt (W::bs::bm::bn::bv::b::ids L) w (W::bs::bm::bn::bv::ids L) w:=x1.trans x2;exact⟨⟨st2,wk.wr.x x3,wk.we⟩,x3⟩
theorem wk_wr {b o:Nat}{cs vs:List AV}(wk:Wk T I w0 w W bs bm bn bv n s out ms dr ((b,.row cs)::L))(hl:o+vs.length≤cs.length){K:AW→Prop}(hK:∀w',Wk T I w0 w' W bs bm bn bv n s out ms dr ((b,.row (qJg cs o vs))::L)→Xt (W::bs::bm::bn::bv::b::ids L) w (W::bs::bm::bn::bv::b::ids L) w'→K w'):onM (w.putCells b o vs) K:=
 wk.st.put 5 rfl hl fun w' st x=>hK w' ⟨st,wk.wr.x x,wk.we⟩ x
theorem kJp {o:Nat}{u:AV}{n':Nd}(wk:Wk T I w0 w W bs bm bn bv n s out ms dr L)(hl:Nat.ble (o+1) 21=true)(he:qJg [.int .i64 n.id,.int .i64 n.size,.int .u8 n.role,.int .i64 n.term,.int .i64 n.vote,.int .i64 n.leads,.int .i64 n.base,.int .i64 n.bt,s.snap,s.log,.int .i64 n.commit,s.votes,s.next,s.mtch,s.seen,.int .i64 n.round,.int .i64 n.elapsed,.int .i64 n.timeout,s.reads,out,.int .i64 dr] o [u]=[.int .i64 n'.id,.int .i64 n'.size,.int .u8 n'.role,.int .i64 n'.term,.int .i64 n'.vote,.int .i64 n'.leads,.int .i64 n'.base,.int .i64 n'.bt,s.snap,s.log,.int .i64 n'.commit,s.votes,s.next,s.mtch,s.seen,.int .i64 n'.round,.int .i64 n'.elapsed,.int .i64 n'.timeout,s.reads,out,.int .i64 dr])
  (e:n'.seen=n.seen∧n'.mtch=n.mtch∧n'.next=n.next∧n'.votes=n.votes∧n'.snap=n.snap∧n'.log=n.log∧n'.reads=n.reads)
  {K:AW→Prop} (hK:∀w',Wk T I w0 w' W bs bm bn bv n' s out ms dr L→Xt (W::bs::bm::bn::bv::ids L) w (W::bs::bm::bn::bv::ids L) w'→K w'):onM (w.putCells W o [u]) K:=by
 obtain⟨e1,e2,e3,e4,e5,e6,e7⟩:=e;refine wk.st.put 0 rfl (yQk hl) fun w' st x=>?_;have st:Ow T I w0 w' (wkL W bs bm bn bv n' s out dr L):=by
  unfold wkL;rw[←he,e1,e2,e3,e4];exact st
 have wr:=wk.wr.x x;exact hK w' ⟨st,⟨by rw[e5];exact wr.snap,by rw[e6];exact wr.log,by rw[e7];exact wr.reads,wr.out⟩,⟨by rw[e1];exact wk.we.seen,by rw[e2];exact wk.we.mtch,by rw[e3];exact wk.we.next,by rw[e4];exact wk.we.votes⟩⟩ x
def othM(id:Int)(f:Nat→Msg):Nat→List Msg
 | 0=>[]
 | k+1=>othM id f k++(if((k+1:Nat):Int)=id then []else [f (k+1)])
theorem fJv(id:Int)(f:Nat→Msg):∀k,(othM id f k).length≤k
  | 0=>yQm _
  | k+1=>by
    have:=fJv id f k;unfold othM;rw[yQs];split<;>simp<;>omega
theorem s49g {dv:AV}{f:Nat→Msg}(hh:HK hk)(wk:Wk T I w0 w W bs bm bn bv n s out ms dr L)(hsz:n.size≤9)(hl:ms.length<2^19)
  (hd:∀(to:Nat) (out1:AV) (ms1:List Msg) (w1:AW) (G:AV→AW→Prop),Wk T I w0 w1 W bs bm bn bv n s out1 ms1 dr L→1≤to→(to:Int)≤n.size→ms1.length<2^20→(∀out2 w2,Wk T I w0 w2 W bs bm bn bv n s out2 (ms1++[f to]) dr L→Xt (W::bs::bm::bn::bv::ids L) w1 (W::bs::bm::bn::bv::ids L) w2→G (.tup []) w2)→Cv Tryz.prog hk dv [.int .i64 (to:Int)] w1 G)
  (hK:∀out' w',Wk T I w0 w' W bs bm bn bv n s out' (ms++othM n.id f n.size.toNat) dr L→Xt (W::bs::bm::bn::bv::ids L) w (W::bs::bm::bn::bv::ids L) w'→K (.tup []) w'):Cl Tryz.prog hk 49 [.ptr W 0,dv] w K:=by
 refine in49 (hh.no _ _ _ (by decide) (by decide)) ?_;unfold F49;refine qJr (fun m lv w4=>∃(k:Nat) (out':AV),m=n.size.toNat - k∧k≤n.size.toNat∧lv=[.int .i64 ((k+1:Nat):Int)]∧Wk T I w0 w4 W bs bm bn bv n s out' (ms++othM n.id f k) dr L∧Xt (W::bs::bm::bn::bv::ids L) w (W::bs::bm::bn::bv::ids L) w4) ?_ ⟨0,out,rfl,yQz _,rfl,by rw[othM,gQc];exact wk,Xt.refl⟩;rintro m lv w4 ⟨k,out',rfl,hk',rfl,wk4,x4⟩ R ih;refine⟨_,rfl,fun _=>?_⟩;simp only[onP];have hol:=fJv n.id f k;refine⟨_,wk4.st.ld 0 rfl rfl,qJh (fun hc=>?_) fun hc=>hK _ _ (by rw[show n.size.toNat=k by omega];exact wk4) x4⟩;refine⟨_,wk4.st.ld 0 rfl rfl,?_⟩;rw[qJq (by omega) (by omega)];refine vJv (fun hid=>hd (k+1) out' _ w4 _ wk4 (by omega) hc (by rw[yQs];omega) fun out2 w5 wk5 x5=>⟨rfl,ih (n.size.toNat - (k+1)) (by omega) _ _ ⟨k+1,out2,rfl,by omega,rfl,?_,x4.trans x5⟩⟩) fun hid=>ih (n.size.toNat - (k+1)) (by omega) _ _ ⟨k+1,out',rfl,by omega,rfl,?_,x4⟩
 ·rw[othM,if_neg hid,←yQy];exact wk5
 ·rw[othM,if_pos hid,gQc];exact wk4
set_option maxRecDepth 20000 in
theorem s94 {b1 b6 b3:Nat}{t:Int}{to:Int}(hh:HK hk)(wk:Wk T I w0 w W bs bm bn bv n s out ms dr ((b3,.row [.int .i64 t])::(b6,.row [.ptr W 0])::(b1,.row [.ptr W 0])::L))(hb:0≤n.base)(hb2:n.base<2^41)(hs:n.log.length<2^40)(hl:ms.length<2^20)
  (hK:∀out2 w2,Wk T I w0 w2 W bs bm bn bv n s out2 (ms++[⟨[],1,n.id,to,n.term,qJi n,t,0,0,false,[],[]⟩]) dr ((b3,.row [.int .i64 t])::(b6,.row [.ptr W 0])::(b1,.row [.ptr W 0])::L)→Xt (W::bs::bm::bn::bv::b3::b6::b1::ids L) w (W::bs::bm::bn::bv::b3::b6::b1::ids L) w2→K (.tup []) w2):Cl Tryz.prog hk 94 [.int .i64 to,.ptr b1 0,.ptr b6 0,.ptr b3 0] w K:=by
 refine in94 (hh.no _ _ _ (by decide) (by decide)) ?_;unfold F94;simp only[onP];refine qJd (v:= .ptr W 0) (wk.st.ld 7 rfl rfl) (qJd (v:= .ptr W 0) (wk.st.ld 6 rfl rfl) ?_);simp only[onP];refine⟨_,_,_,_,_,_,_,_,_,_,_,_,_,_,_,_,_,_,_,wk.st.ldN 0 rfl rfl rfl,_,wk.st.ld 5 rfl rfl,?_⟩;refine s36 hh wk.st.mem wk.nr hb hb2 hs fun w1 f1=>⟨_,rfl,?_⟩;obtain⟨st1,x1⟩:=wk.st.call f1;have wk1:Wk T I w0 w1 W bs bm bn bv n s out ms dr ((b3,.row [.int .i64 t])::(b6,.row [.ptr W 0])::(b1,.row [.ptr W 0])::L):=⟨st1,wk.wr.x x1,wk.we⟩;refine⟨st1.ld 5 rfl rfl,st1.ld 7 rfl rfl,?_⟩;exact s92 (m:=⟨[],1,0,0,0,qJi n,t,0,0,false,[],[]⟩) hh wk1 Rp.rd.nil Rp.rd.nil hl fun out' w2 wk2 x2=>⟨rfl,hK out' w2 wk2 (Xt.trans x1 x2)⟩
def zJg(n:Nd)(dr:Int):Nd:={clearN n with role:=2,leads:=0,vote:=n.id,timeout:=toF dr,term:=n.term+1,elapsed:=0,votes:=(List.replicate n.votes.length false).set (n.id - 1).toNat true}
noncomputable def jJ7(n:Nd)(dr:Int):Nd:=if n.term=G40 then {n with elapsed:=0}else zJ2 (zJg n dr)
def lastT(n:Nd):Int:=(termAt n.base n.bt (n.log.map (·.1)) (qJi n)).1
def askN(n:Nd)(to:Nat):Msg:=⟨[],1,n.id,to,n.term,qJi n,lastT n,0,0,false,[],[]⟩
noncomputable def xJq(n:Nd)(dr:Int):List Msg:=if n.term=G40 then []else if(zJg n dr).size<2 * (cntT (zJg n dr).votes:Int)then zJ3 (zJg n dr)else othM n.id (askN (zJg n dr)) n.size.toNat
theorem EC.stand(h:EC n):EC (zJg n dr):=by
 obtain⟨h1,h2,h3,h4,h5,h6,h7,⟨l1,l2,l3,l4⟩⟩:=h;exact⟨h1,h2,h3,h4,h5,h6,h7,⟨by simp[zJg];exact l1,by simp[zJg,clearN];exact l2,by simp[zJg,clearN];exact l3,by simp[zJg,clearN];exact l4⟩⟩
set_option maxRecDepth 20000 in
theorem s51(hh:HK hk)(wk:Wk T I w0 w W bs bm bn bv n s out ms dr L)(ec:EC n)(ht:0≤n.term∧n.term≤G40)(hms:ms.length<2^17)
  (hK:∀s' out' w',Wk T I w0 w' W bs bm bn bv (jJ7 n dr) s' out' (ms++xJq n dr) dr L→Xt (W::bs::bm::bn::bv::ids L) w (W::bs::bm::bn::bv::ids L) w'→K (.tup []) w'):Cl Tryz.prog hk 51 [.ptr W 0] w K:=by
 refine in51 (hh.no _ _ _ (by decide) (by decide)) ?_;unfold F51;have ht2:=ht.2;unfold G40 at ht2;refine gd_t rfl (tJo wk fun b1 w2 wk2 x2=>qJd (v:= .ptr W 0) (wk2.st.ld 5 rfl rfl) ?_);simp only[onP];refine tJo wk2 fun b6 w7 wk7 x7=>wk_wr wk7 (yQk rfl) fun w8 wk8 x8=>?_;have wk8:Wk T I w0 w8 W bs bm bn bv n s out ms dr ((b6,.row [.ptr W 0])::(b1,.row [.ptr W 0])::L):=wk8;refine qJd (v:= .ptr W 0) (wk8.st.ld 5 rfl rfl) ?_;simp only[onP];refine kJp (n':={n with elapsed:=0}) wk8 rfl rfl ⟨rfl,rfl,rfl,rfl,rfl,rfl,rfl⟩ fun w12 wk12 x12=>qJd (v:= .ptr W 0) (wk12.st.ld 5 rfl rfl) ?_;simp only[onP];have x012:Xt (W::bs::bm::bn::bv::ids L) w (W::bs::bm::bn::bv::b6::b1::ids L) w12:=((x2.trans x7).trans x8).trans x12;have fin:∀{n':Nd} {s':Sl} {out':AV} {ms':List Msg} {w':AW},Wk T I w0 w' W bs bm bn bv n' s' out' ms' dr ((b6,.row [.ptr W 0])::(b1,.row [.ptr W 0])::L)→Xt (W::bs::bm::bn::bv::ids L) w (W::bs::bm::bn::bv::b6::b1::ids L) w'→Wk T I w0 w' W bs bm bn bv n' s' out' ms' dr L∧Xt (W::bs::bm::bn::bv::ids L) w (W::bs::bm::bn::bv::ids L) w':=fun wk' x'=>by
  obtain⟨wa,xa⟩:=zJt wk';obtain⟨wb,xb⟩:=zJt wa;exact⟨wb,x'.trans (Xt.trans xa xb)⟩
 refine⟨_,wk12.st.ld 0 rfl rfl,qJh (fun hg=>?_) fun hg=>?_⟩
 ·obtain⟨wa,xa⟩:=fin wk12 x012;exact hK s out w12 (by unfold jJ7 xJq;rw[if_pos hg,if_pos hg,gQc];exact wa) xa
 refine qJd (v:= .ptr W 0) (wk12.st.ld 6 rfl rfl) (s86 hh wk12 fun w19 wk19 x19=>⟨rfl,?_⟩);refine qJd (v:= .ptr W 0) (wk19.st.ld 5 rfl rfl) (qJd (v:= .ptr W 0) (wk19.st.ld 5 rfl rfl) (qJd (v:= .ptr W 0) (wk19.st.ld 5 rfl rfl) (qJd (v:= .ptr W 0) (wk19.st.ld 5 rfl rfl) (qJd (v:= .ptr W 0) (wk19.st.ld 5 rfl rfl) ?_))));simp only[onP];refine⟨_,wk19.st.ld 0 rfl rfl,qJd (v:= .ptr W 0) (wk19.st.ld 6 rfl rfl) ?_⟩;simp only[onP];refine⟨_,wk19.st.ld 0 rfl rfl,s71 hh ⟨_,rfl,wk19.st.ld 0 rfl rfl,wk19.st.ld 5 rfl rfl,wk19.st.ld 5 rfl rfl,wk19.st.ld 5 rfl rfl,wk19.st.ld 5 rfl rfl,wk19.st.ld 5 rfl rfl,?_⟩⟩;refine kJp (n':={clearN {n with elapsed:=0}with role:=2}) wk19 rfl rfl ⟨rfl,rfl,rfl,rfl,rfl,rfl,rfl⟩ fun w37 wk37 x37=>⟨wk37.st.ld 5 rfl rfl,wk37.st.ld 5 rfl rfl,wk37.st.ld 5 rfl rfl,?_⟩;refine kJp (n':={clearN {n with elapsed:=0}with role:=2,leads:=0}) wk37 rfl rfl ⟨rfl,rfl,rfl,rfl,rfl,rfl,rfl⟩ fun w40 wk40 x40=>⟨wk40.st.ld 5 rfl rfl,wk40.st.ld 5 rfl rfl,?_⟩;refine kJp (n':={clearN {n with elapsed:=0}with role:=2,leads:=0,vote:=n.id}) wk40 rfl rfl ⟨rfl,rfl,rfl,rfl,rfl,rfl,rfl⟩ fun w43 wk43 x43=>⟨wk43.st.ld 5 rfl rfl,?_⟩;refine kJp (n':={clearN {n with elapsed:=0}with role:=2,leads:=0,vote:=n.id,timeout:=toF dr}) wk43 rfl rfl ⟨rfl,rfl,rfl,rfl,rfl,rfl,rfl⟩ fun w46 wk46 x46=>qJd (v:= .ptr W 0) (wk46.st.ld 5 rfl rfl) ?_;simp only[onP];refine⟨n.term,wk46.st.ld 0 rfl rfl,?_⟩;rw[qJq (x:=n.term+1) (by omega) (by omega)];refine kJp (n':={clearN {n with elapsed:=0}with role:=2,leads:=0,vote:=n.id,timeout:=toF dr,term:=n.term+1}) wk46 rfl rfl ⟨rfl,rfl,rfl,rfl,rfl,rfl,rfl⟩ fun w53 wk53 x53=>qJd (v:= .ptr W 0) (wk53.st.ld 5 rfl rfl) ?_;simp only[onP];refine qJd (v:=s.votes) (wk53.st.ld 0 rfl rfl) (qJd (v:= .ptr W 0) (wk53.st.ld 5 rfl rfl) ?_);simp only[onP];refine⟨n.id,wk53.st.ld 0 rfl rfl,?_⟩;have hid:=ec.id;have hsz:=ec.size;have hvl:=ec.ln.votes;have evv:=wk53.we.votes;have evl:(clearN {n with elapsed:=0}).votes.length=n.votes.length:=by simp[clearN]
 obtain⟨k,hkk⟩:∃k:Nat,n.id - 1=(k:Int):=yQ8 (by omega);have ek:k=(n.id - 1).toNat:=by omega
 simp only[evl]at evv;rw[evv,qJq (x:=n.id - 1) (by omega) (by omega),hkk];refine idx0 (by omega) (wk53.st.put 4 rfl (by rw[yQr];simp[clearN];omega) fun w64 st64 x64=>?_);have wr64:=wk53.wr.x x64;have st64:=st64;simp only[stN]at st64;rw[vJ2 (by rw[evl];omega)]at st64;have wk64:Wk T I w0 w64 W bs bm bn bv (zJg n dr) {s with reads:= .nilslice} out ms dr ((b6,.row [.ptr W 0])::(b1,.row [.ptr W 0])::L):=by
  subst ek;refine⟨st64,⟨wr64.snap,wr64.log,wr64.reads,wr64.out⟩,⟨wk53.we.seen,wk53.we.mtch,wk53.we.next,?_⟩⟩;have:(zJg n dr).votes.length=n.votes.length:=by simp[zJg]
  rw[this];exact evv
 have x064:Xt (W::bs::bm::bn::bv::ids L) w (W::bs::bm::bn::bv::b6::b1::ids L) w64:=(((((((x012.trans x19).trans x37).trans x40).trans x43).trans x46).trans x53).trans x64);refine qJd (v:= .ptr W 0) (wk64.st.ld 6 rfl rfl) (s93 hh wk64 ec.stand (by omega) fun s2 out2 w67 wk67 x67=>⟨_,rfl,qJh (fun hy=>?_) fun hy=>?_⟩)
 ·obtain⟨wa,xa⟩:=fin wk67 (x064.trans x67);exact hK s2 out2 w67 (by unfold jJ7 xJq;rw[if_neg hg,if_neg hg,if_pos hy];exact wa) xa
 have en:zJ2 (zJg n dr)=zJg n dr:=by unfold zJ2;rw[if_neg hy]
 have em:zJ3 (zJg n dr)=[]:=by unfold zJ3;rw[if_neg hy]
 rw[en,em,gQc]at wk67;have c3:=ec.base;have c32:=c3.2;unfold G40 at c32;refine qJd (v:= .ptr W 0) (wk67.st.ld 5 rfl rfl) ?_;simp only[onP];refine⟨_,_,_,_,_,_,_,_,_,_,_,_,_,_,_,_,_,_,_,wk67.st.ldN 0 rfl rfl rfl,qJd (v:= .ptr W 0) (wk67.st.ld 5 rfl rfl) ?_⟩;simp only[onP];refine⟨_,_,_,_,_,_,_,_,_,_,_,_,_,_,_,_,_,_,_,wk67.st.ldN 0 rfl rfl rfl,tJo wk67 fun b3 w114 wk114 x114=>⟨wk114.st.ldN 0 rfl rfl rfl,wk114.st.ld 6 rfl rfl,wk114.st.ldN 0 rfl rfl rfl,wk114.st.ld 6 rfl rfl,?_⟩⟩;refine s36 hh wk114.st.mem wk114.nr c3.1 (by show n.base<_;omega) (by have:=ec.log;show n.log.length<_;omega) fun w116 f116=>⟨_,rfl,?_⟩;obtain⟨st116,x116⟩:=wk114.st.call f116;have wk116:Wk T I w0 w116 W bs bm bn bv (zJg n dr) s2 out2 ms dr ((b3,.row [.int .i64 0])::(b6,.row [.ptr W 0])::(b1,.row [.ptr W 0])::L):=⟨st116,wk114.wr.x x116,wk114.we⟩;refine⟨st116.ldN 0 rfl rfl rfl,st116.ld 6 rfl rfl,s53 hh st116.mem wk116.nr c3.1 (by show n.base<_;omega) (by have:=ec.log;show n.log.length<_;omega) fun w119 f119=>⟨_,_,rfl,?_⟩⟩;obtain⟨st119,x119⟩:=st116.call f119;have wk119:Wk T I w0 w119 W bs bm bn bv (zJg n dr) s2 out2 ms dr ((b3,.row [.int .i64 0])::(b6,.row [.ptr W 0])::(b1,.row [.ptr W 0])::L):=⟨st119,wk116.wr.x x119,wk116.we⟩;refine wk_wr wk119 (yQk rfl) fun w122 wk122 x122=>qJd (v:= .ptr W 0) (wk122.st.ld 7 rfl rfl) ?_;refine s49g (f:=askN (zJg n dr)) hh wk122 (by show n.size≤9;exact hsz) (by omega) (fun to out1 ms1 w1 G wk1 h1 h2 hl1 hG=>?_) fun out3 w125 wk125 x125=>⟨rfl,?_⟩
 ·show Cl Tryz.prog hk 94 [.int .i64 (to:Int),.ptr b1 0,.ptr b6 0,.ptr b3 0] w1 G;exact s94 hh wk1 c3.1 (by show n.base<_;omega) (by have:=ec.log;show n.log.length<_;omega) hl1 fun out4 w2 wk2 x2=>hG out4 w2 wk2 x2
 ·obtain⟨wd,xd⟩:=zJt wk125;have xx:Xt (W::bs::bm::bn::bv::ids L) w (W::bs::bm::bn::bv::b6::b1::ids L) w125:=((((((x064.trans x67).trans x114).trans x116).trans x119).trans x122).trans x125).trans xd;obtain⟨wa,xa⟩:=fin wd xx;exact hK s2 out3 w125 (by unfold jJ7 xJq;rw[if_neg hg,en,if_neg hg,if_neg hy];exact wa) xa
noncomputable def wJ3(n:Nd)(dr:Int):Nd:=
 if n.role=3 then(if 2≤n.elapsed+1 then {n with elapsed:=0}else {n with elapsed:=n.elapsed+1})
 else(if n.timeout≤n.elapsed+1 then jJ7 {n with elapsed:=n.elapsed+1} dr else {n with elapsed:=n.elapsed+1})
noncomputable def uJa(n:Nd)(dr:Int):List Msg:=
 if n.role=3 then(if 2≤n.elapsed+1 then xJt {n with elapsed:=0} n.size.toNat else [])
 else(if n.timeout≤n.elapsed+1 then xJq {n with elapsed:=n.elapsed+1} dr else [])
def TicR(T:Nat→Prop)(n:Nd)(dr:Int)(w:AW)(r:AV):Prop:=(¬ qJl n∧r= .tup [.agg (ndC zNd zSl),.nilslice,.int .i64 2])∨
 (qJl n∧∃s' out',r= .tup [.agg (ndC (wJ3 n dr) s'),out',.int .i64 0]∧NR T w (wJ3 n dr) s'∧(rL rM).rd T w [out'] (uJa n dr))
theorem qJl.ec(h:qJl n)(hl:n.log.length<2^29):EC n:=⟨h.size.2,h.id,h.base,by have:=h.commit;have:=h.base;omega,hl,vJb h.log,h.snap,⟨h.votes,h.next,h.mtch,h.seen⟩⟩
set_option maxRecDepth 20000 in
theorem s12(hh:HK hk)(hm:Mem w)(hpos:0<w.size)(h:NR A w n s)(sm:Sm n)(hlog:n.log.length<2^29)(hK:∀r w',Fr w.size w w'→TicR (Nw w) n dr w' r→K r w'):Cl Tryz.prog hk 12 [.agg (ndC n s), .int .i64 dr] w K:=by
  refine in12 (hh.no _ _ _ (by decide) (by decide)) ?_;unfold F12;have pv:Pv (Nw w) w:=⟨hm,hpos,fun _ h=>h⟩;refine gd_t h.ok (pv.st.new' fun b20 w21 st21 x21=>st21.new' fun b22 w23 st23 x23=>?_);have st23:Ow (Nw w) [] w w23 [(b22, .row (ndC zNd zSl)),(b20, .row (ndC n s))]:=st23;refine⟨_,_,_,_,_,_,_,_,_,_,_,_,_,_,_,_,_,_,_,st23.ldN 1 rfl rfl rfl,?_⟩;have nr23:=(h.arg hm st23).outs;refine s8 hh st23.mem st23.P0.pos nr23 sm fun c w5 f5 hc=>⟨_,rfl,?_⟩;obtain⟨st5,x5⟩:=st23.call f5
  cases c with
  | false=>
    have hn:¬ qJl n:=fun hr=>absurd (hc.2 hr) (by decide);refine qJ3 (st5.put 0 rfl (yQk rfl) fun w28 st28 x28=>⟨_,_,_,_,_,_,_,_,_,_,_,_,_,_,_,_,_,_,_,st28.ldN 0 rfl rfl rfl,?_⟩);exact hK _ _ st28.fr (.inl ⟨hn,rfl⟩)
  | true=>
  have hr:=hc.1 rfl;have he:=hr.elapsed;have he2:=he.2;have ht:=hr.timeout;unfold G40 at he2;refine qJ0 ⟨_,_,_,_,_,_,_,_,_,_,_,_,_,_,_,_,_,_,_,st5.ldN 1 rfl rfl rfl,?_⟩;refine s43 hh st5 (h.arg hm st5) (hr.bc hlog) fun W bs bm bn bv s1 w6 wk6 x6=>?_;simp only[onP];refine⟨_,wk6.st.ld 0 rfl rfl,?_⟩;rw[qJq (x:=n.elapsed+1) (by omega) (by omega)];refine kJp (n':={n with elapsed:=n.elapsed+1}) wk6 rfl rfl ⟨rfl,rfl,rfl,rfl,rfl,rfl,rfl⟩ fun w7 wk7 x7=>?_;refine zJm (fun l w'=>l=[]∧∃s' out',Wk (Nw w) [] w w' W bs bm bn bv (wJ3 n dr) s' out' (uJa n dr) dr [(b22, .row (ndC zNd zSl)),(b20, .row (ndC n s))]) ?_ fun J hJ=>?_
  · rintro l w8 ⟨rfl,s',out',wk8⟩
    obtain⟨st8,wr8,we8⟩:=id wk8;refine⟨rfl,fun _=>⟨_,_,_,_,_,_,_,_,_,_,_,_,_,_,_,_,_,_,_,st8.ldN 0 rfl rfl rfl,qJd (v:=out') (st8.ld 0 rfl rfl) (gd_t (wr8.okN we8) (st8.put 5 rfl (yQk rfl) fun w9 st9 x9=>⟨st9.ld 0 rfl rfl,_,_,_,_,_,_,_,_,_,_,_,_,_,_,_,_,_,_,_,st9.ldN 5 rfl rfl rfl,?_⟩))⟩⟩;have wr9:=wr8.x x9;exact hK _ _ st9.fr (.inr ⟨hr,s',out',rfl,rJ0 1 2 3 4 st9 wr9 we8 rfl rfl rfl rfl,wr9.out.out⟩)
  · refine zJm (fun l w'=>∃c:Bool,l=[.bool c]∧w'=w7∧(c=true↔n.role=3∧2≤n.elapsed+1)) ?_ fun J2 hJ2=>?_
    · rintro l w8 ⟨c,rfl,rfl,hc⟩
      refine⟨_,rfl,fun _=>?_⟩
      cases c with
      | true=>
        obtain⟨h1,h2⟩:=hc.1 rfl;refine qJ3 (kJp (n':={n with elapsed:=0}) wk7 rfl rfl ⟨rfl,rfl,rfl,rfl,rfl,rfl,rfl⟩ fun w9 wk9 x9=>?_);have sc:SC {n with elapsed:=0}:=by
          obtain⟨a,b,c,d,e,f,g⟩:=hr.sc hlog h1;exact⟨a,b,c,d,e,f,g⟩
        exact s49 hh wk9 sc (by simp) fun out' w10 wk10 x10=>⟨rfl,hJ _ _ ⟨rfl,s1,out',by unfold wJ3 uJa;rw[if_pos h1,if_pos h2,if_pos h1,if_pos h2];exact wk10⟩⟩
      | false=>
        have hne:¬ (n.role=3∧2≤n.elapsed+1):=fun h=>absurd (hc.2 h) (by decide);refine qJ0 ⟨_,wk7.st.ld 6 rfl rfl,vJv (fun h3=>?_) fun h3=>hJ _ _ ⟨rfl,s1,_,by unfold wJ3 uJa;rw[if_pos h3,if_neg (fun h=>hne ⟨h3,h⟩),if_pos h3,if_neg (fun h=>hne ⟨h3,h⟩)];exact wk7⟩⟩;refine⟨_,wk7.st.ld 0 rfl rfl,_,wk7.st.ld 6 rfl rfl,qJh (fun h4=>?_) fun h4=>hJ _ _ ⟨rfl,s1,_,by unfold wJ3 uJa;rw[if_neg h3,if_neg h4,if_neg h3,if_neg h4];exact wk7⟩⟩;have ec:EC {n with elapsed:=n.elapsed+1}:=by
          obtain⟨a,b,c,d,e,f,g,i⟩:=hr.ec hlog;exact⟨a,b,c,d,e,f,g,⟨i.votes,i.next,i.mtch,i.seen⟩⟩
        exact s51 hh wk7 ec hr.term (by simp) fun s' out' w10 wk10 x10=>⟨rfl,hJ _ _ ⟨rfl,s',out',by unfold wJ3 uJa;rw[if_neg h3,if_pos h4,if_neg h3,if_pos h4];exact wk10⟩⟩
    · refine⟨_,wk7.st.ld 6 rfl rfl,qJh (fun h3=>?_) fun h3=>hJ2 _ _ ⟨false,rfl,rfl,⟨fun h=>(by cases h),fun h=>absurd h.1 h3⟩⟩⟩
      refine⟨_,wk7.st.ld 0 rfl rfl,hJ2 _ _ ⟨_,rfl,rfl,?_⟩⟩;rw[decide_eq_true_eq];exact⟨fun h=>⟨h3,h⟩,fun h=>h.2⟩
end
end Go.Proofs.YtghoifolghelnaaGreat
/-
 Which messages may be; a vote asked for,and given; whether a leader's message counts.
 No condition beyond those that each theorem names.
-/
open Go.Sx
namespace Go.Proofs.YtghoifolghelnaaGreat
structure MsgP(n:Nd)(m:Msg):Prop where
 dst:m.dst=n.id
 src:m.src≠n.id
 srcR:1≤m.src∧m.src≤n.size
 kind:1≤m.kind∧m.kind≤5
 term:1≤m.term∧m.term≤G40
 nums:(0≤m.index∧m.index≤G40)∧(0≤m.commit∧m.commit≤G40)∧(0≤m.round∧m.round≤G40)
 lt:0≤m.lt
 ents:risP m.lt m.term m.ents
 snap:m.snap.length≤60000
theorem btw3 {low high x y z:Int}:Btw low high [x,y,z]↔(low≤x∧x≤high)∧(low≤y∧y≤high)∧(low≤z∧z≤high):=by simp[Btw]
section
variable {hk:Hook}{T A A' B:Nat→Prop}{I:List Nat}{w0 w w':AW}{K:AV→AW→Prop}{n:Nd}{m:Msg}{e sv:AV}{s:Sl}{v out:AV}{W bs bm bn bv:Nat}{ms:List Msg}{dr:Int}{L:Obs}{U U':List Nat}
theorem okM(he:(rL rE).rd A w [e] m.ents)(hs:(rL rU).rd B w' [sv] m.snap):(mC m e sv).all qJc=true:=by
 have:=he.ok1;have:=hs.ok1;simp only[List.all_cons, *];rfl
set_option maxRecDepth 20000 in
theorem s42(hh:HK hk)(hm:Mem w)(hpos:0<w.size)(h:NR A w n s)(he:(rL rE).rd A w [e] m.ents)(hs:(rL rU).rd A w [sv] m.snap)(hk8:0≤m.kind∧m.kind<256)(hel:m.ents.length<2^40)(hK:∀(b:Bool) w',Fr w.size w w'→(b=true↔MsgP n m)→K (.bool b) w'):Cl Tryz.prog hk 42 [.agg (ndC n s),.agg (mC m e sv)] w K:=by
 refine in42 (hh.no _ _ _ (by decide) (by decide)) ?_;unfold F42;have pv:Pv (Nw w) w:=⟨hm,hpos,fun _ h=>h⟩;refine gd_t h.ok (pv.st.new' fun b31 w32 st32 x32=>gd_t (okM he hs) (st32.new' fun b33 w34 st34 x34=>?_));have st34:Ow (Nw w) [] w w34 [(b33,.row (mC m e sv)),(b31,.row (ndC n s))]:=st34;have no:∀{w'},Fr w.size w w'→¬ MsgP n m→K (.bool false) w':=fun f hx=>hK _ _ f ⟨(fun h=>by cases h),fun hr=>absurd hr hx⟩;refine⟨_,st34.ld 0 rfl rfl,_,st34.ld 1 rfl rfl,qJh (fun h1=>?_) fun h1=>no st34.fr fun h=>h1 h.dst⟩;refine⟨_,st34.ld 0 rfl rfl,_,st34.ld 1 rfl rfl,vJv (fun h2=>?_) fun h2=>no st34.fr fun h=>h.src h2⟩;refine⟨_,st34.ld 1 rfl rfl,_,st34.ld 0 rfl rfl,s37n (l:=[m.src]) hh st34.mem (by simp) rfl fun b41 w42 f42 hs42=>hs42 _ fun c w44 f44 hc=>⟨_,rfl,?_⟩⟩;rw[btw1]at hc;obtain⟨st44,x44⟩:=st34.call f44
 cases c with
 | false=>exact qJ0 (no st44.fr fun h=>absurd (hc.2 h.srcR) (by decide))
 | true=>
 have i1:=hc.1 rfl;clear hc;refine qJ3 ⟨_,st44.ld 0 rfl rfl,?_⟩;rw[qJq (x:=m.kind) (by omega) (by omega)];refine s37n (l:=[m.kind]) hh st44.mem (by simp) rfl fun b47 w48 f48 hs48=>hs48 _ fun c w50 f50 hc=>⟨_,rfl,?_⟩;rw[btw1]at hc;obtain⟨st50,x50⟩:=st44.call f50
 cases c with
 | false=>exact qJ0 (no st50.fr fun h=>absurd (hc.2 h.kind) (by decide))
 | true=>
 have i2:=hc.1 rfl;clear hc;refine qJ3 ⟨_,st50.ld 0 rfl rfl,?_⟩;refine s37n (l:=[m.term]) hh st50.mem (by simp) rfl fun b47 w48 f48 hs48=>hs48 _ fun c w56 f56 hc=>⟨_,rfl,?_⟩;rw[btw1]at hc;obtain⟨st56,x56⟩:=st50.call f56
 cases c with
 | false=>exact qJ0 (no st56.fr fun h=>absurd (hc.2 h.term) (by decide))
 | true=>
 have i3:=hc.1 rfl;clear hc;refine qJ3 ⟨_,st56.ld 0 rfl rfl,_,st56.ld 0 rfl rfl,_,st56.ld 0 rfl rfl,?_⟩;refine s37n (l:=[m.index,m.commit,m.round]) hh st56.mem (by simp) rfl fun b47 w48 f48 hs48=>hs48 _ fun c w64 f64 hc=>⟨_,rfl,?_⟩;rw[btw3]at hc;obtain⟨st64,x64⟩:=st56.call f64
 cases c with
 | false=>exact qJ0 (no st64.fr fun h=>absurd (hc.2 h.nums) (by decide))
 | true=>
 have i4:=hc.1 rfl;clear hc;refine qJ3 ⟨_,st64.ld 0 rfl rfl,qJh (fun i5=>?_) fun h5=>no st64.fr fun h=>h5 h.lt⟩;refine⟨_,st64.ld 0 rfl rfl,_,st64.ld 0 rfl rfl,qJd (v:=e) (st64.ld 0 rfl rfl) ?_⟩;refine s38 hh st64.mem st64.P0.pos (st64.arg hm he).out (by omega) fun c w71 f71 hc=>⟨_,rfl,?_⟩;obtain⟨st71,x71⟩:=st64.call f71
 cases c with
 | false=>exact qJ0 (no st71.fr fun h=>absurd (hc.2 h.ents) (by decide))
 | true=>
 have i6:=hc.1 rfl;clear hc;refine qJ3 (qJd (v:=sv) (st71.ld 0 rfl rfl) ⟨_,(st71.arg hm hs).len',hK _ _ st71.fr ?_⟩);rw[decide_eq_true_eq];exact⟨fun h=>⟨h1,h2,i1,i2,i3,i4,i5,i6,by omega⟩,fun h=>by have:=h.snap;omega⟩
def bJh(t i ot oi:Int):Bool:=decide (ot<t) || (decide (t=ot)&&decide (oi≤i))
theorem s124 {t i ot oi:Int}(hh:HK hk)(hK:K (.bool (bJh t i ot oi)) w):Cl Tryz.prog hk 124 [.int .i64 t,.int .i64 i,.int .i64 ot,.int .i64 oi] w K:=by
 refine in124 (hh.no _ _ _ (by decide) (by decide)) ?_;unfold F124;unfold bJh at hK;refine qJh (fun h1=>?_) fun h1=>qJh (fun h2=>?_) fun h2=>?_
 ·rw[decide_eq_true h1,Bool.true_or]at hK;exact hK
 ·rw[decide_eq_false h1,decide_eq_true h2,Bool.false_or,Bool.true_and]at hK;exact hK
 ·rw[decide_eq_false h1,decide_eq_false h2,Bool.false_or,Bool.false_and]at hK;exact hK
def yesV(t vo lt li:Int)(m:Msg):Bool:=!decide (m.term<t)&&((decide (vo=0) || decide (vo=m.src))&&bJh m.lt m.index lt li)
def voV(t vo lt li:Int)(m:Msg):Int:=if yesV t vo lt li m=true then m.src else vo
set_option maxRecDepth 20000 in
theorem s113 {t vo lt li:Int}(hh:HK hk)(hm:Mem w)(hpos:0<w.size)(he:(rL rE).rd A w [e] m.ents)(hs:(rL rU).rd A w [sv] m.snap)(hle:¬ t<m.term)(hK:∀(x:Int) w',Fr w.size w w'→K (.tup [.int .i64 x,.int .i64 (voV t vo lt li m),.bool (yesV t vo lt li m)]) w'):Cl Tryz.prog hk 113 [.int .i64 t,.int .i64 vo,.int .i64 lt,.int .i64 li,.agg (mC m e sv)] w K:=by
 refine in113 (hh.no _ _ _ (by decide) (by decide)) ?_;unfold F113;have pv:Pv (Nw w) w:=⟨hm,hpos,fun _ h=>h⟩;refine gd_t (okM he hs) (pv.st.new' fun b w1 st1 x1=>?_);have no:yesV t vo lt li m=false→∀x,K (.tup [.int .i64 x,.int .i64 vo,.bool false]) w1:=fun h x=>by
  have:=hK x w1 st1.fr;unfold voV at this;rw[h]at this;exact this
 have yes:yesV t vo lt li m=true→∀x,K (.tup [.int .i64 x,.int .i64 m.src,.bool true]) w1:=fun h x=>by
  have:=hK x w1 st1.fr;unfold voV at this;rw[h]at this;exact this
 refine zJm (fun l w'=>w'=w1∧l=[.int .i64 vo]∧¬ m.term<t) ?_ fun J hJ=>?_
 ·rintro l w2 ⟨rfl,rfl,hlt⟩;have ey:yesV t vo lt li m=((decide (vo=0) || decide (vo=m.src))&&bJh m.lt m.index lt li):=by unfold yesV;rw[decide_eq_false hlt];rfl
  refine⟨_,rfl,fun _=>qJh (fun h0=>?_) fun h0=>⟨_,st1.ld 0 rfl rfl,qJh (fun h1=>?_) fun h1=>⟨_,st1.ld 0 rfl rfl,no ?_ _⟩⟩⟩
  ·rw[decide_eq_true h0,Bool.true_or,Bool.true_and]at ey;refine⟨_,st1.ld 0 rfl rfl,_,st1.ld 0 rfl rfl,s124 hh ⟨_,rfl,?_⟩⟩
   cases c:bJh m.lt m.index lt li with
   | true=>exact qJ3 ⟨_,st1.ld 0 rfl rfl,_,st1.ld 0 rfl rfl,yes (ey.trans c) _⟩
   | false=>exact qJ0 ⟨_,st1.ld 0 rfl rfl,no (ey.trans c) _⟩
  ·rw[decide_eq_true h1,Bool.or_true,Bool.true_and]at ey;refine⟨_,st1.ld 0 rfl rfl,_,st1.ld 0 rfl rfl,s124 hh ⟨_,rfl,?_⟩⟩
   cases c:bJh m.lt m.index lt li with
   | true=>exact qJ3 ⟨_,st1.ld 0 rfl rfl,_,st1.ld 0 rfl rfl,yes (ey.trans c) _⟩
   | false=>exact qJ0 ⟨_,st1.ld 0 rfl rfl,no (ey.trans c) _⟩
  ·rw[ey,decide_eq_false h0,decide_eq_false h1];rfl
 ·refine⟨_,st1.ld 0 rfl rfl,qJh (fun h0=>no ?_ _) fun h0=>⟨_,st1.ld 0 rfl rfl,qJh (fun h1=>absurd h1 hle) fun h1=>hJ _ _ ⟨rfl,rfl,h0⟩⟩⟩;unfold yesV;rw[decide_eq_true h0];rfl
def OdN(T:Nat→Prop)(I:List Nat)(w0 w:AW)(W bs bm bn bv:Nat)(dr:Int)(L:Obs)(n':Nd)(ms':List Msg)(K:AV→AW→Prop):Prop:=
 ∀s' out' w',Wk T I w0 w' W bs bm bn bv n' s' out' ms' dr L→Xt (W::bs::bm::bn::bv::ids L) w (W::bs::bm::bn::bv::ids L) w'→K (.tup []) w'
theorem wk_m {m:Msg}{e sv:AV}(wk:Wk T I w0 w W bs bm bn bv n s out ms dr L)(he:(rL rE).rd (fz B (W::bs::bm::bn::bv::ids L)) w [e] m.ents)(hs:(rL rU).rd (fz B (W::bs::bm::bn::bv::ids L)) w [sv] m.snap){K:Nat→AW→Prop}
  (hK:∀b w',Wk T I w0 w' W bs bm bn bv n s out ms dr ((b,.row (mC m e sv))::L)→(rL rE).rd (fz B (W::bs::bm::bn::bv::b::ids L)) w' [e] m.ents→(rL rU).rd (fz B (W::bs::bm::bn::bv::b::ids L)) w' [sv] m.snap→Xt (W::bs::bm::bn::bv::ids L) w (W::bs::bm::bn::bv::b::ids L) w'→K b w'):gd ((mC m e sv).all qJc) (Sx.new w (mC m e sv) K):=
 gd_t (okM he hs) (tJo wk fun b w' wk' x'=>hK b w' wk' (he.x x') (hs.x x') x')
def vJh(n:Nd)(m:Msg):Nd:=if yesV n.term n.vote (lastT n) (qJi n) m=true then {n with vote:=m.src,elapsed:=0}else n
def kQb(n:Nd)(m:Msg):List Msg:=[⟨[],2,n.id,m.src,n.term,0,0,0,0,yesV n.term n.vote (lastT n) (qJi n) m,[],[]⟩]
set_option maxRecDepth 20000 in
theorem s87(hh:HK hk)(wk:Wk T I w0 w W bs bm bn bv n s out ms dr L)(he:(rL rE).rd (fz B (W::bs::bm::bn::bv::ids L)) w [e] m.ents)(hs:(rL rU).rd (fz B (W::bs::bm::bn::bv::ids L)) w [sv] m.snap)(ec:EC n)(hle:¬ n.term<m.term)(hl:ms.length<2^19)
    (hK:OdN T I w0 w W bs bm bn bv dr L (vJh n m) (ms++kQb n m) K):Cl Tryz.prog hk 87 [.ptr W 0, .agg (mC m e sv)] w K:=by
  refine in87 (hh.no _ _ _ (by decide) (by decide)) ?_;unfold F87;have c3:=ec.base;have c32:=c3.2;unfold G40 at c32;have c5:=ec.log;refine wk_m wk he hs fun b w1 wk1 he1 hs1 x1=>?_;simp only[onP];refine⟨_,_,_,_,_,_,_,_,_,_,_,_,_,_,_,_,_,_,_,wk1.st.ldN 0 rfl rfl rfl,_,_,_,_,_,_,_,_,_,_,_,_,_,_,_,_,_,_,_,wk1.st.ldN 0 rfl rfl rfl,?_⟩;refine s36 hh wk1.st.mem wk1.nr c3.1 (by omega) (by omega) fun w2 f2=>⟨_,rfl,?_⟩;obtain⟨st2,x2⟩:=wk1.st.call f2;have wk2:Wk T I w0 w2 W bs bm bn bv n s out ms dr ((b, .row (mC m e sv))::L):=⟨st2,wk1.wr.x x2,wk1.we⟩;refine⟨st2.ldN 0 rfl rfl rfl,s53 hh st2.mem wk2.nr c3.1 (by omega) (by omega) fun w3 f3=>⟨_,_,rfl,?_⟩⟩;obtain⟨st3,x3⟩:=st2.call f3;have wk3:Wk T I w0 w3 W bs bm bn bv n s out ms dr ((b, .row (mC m e sv))::L):=⟨st3,wk2.wr.x x3,wk2.we⟩;refine⟨_,st3.ld 0 rfl rfl,_,st3.ld 0 rfl rfl,_,_,_,_,_,_,_,_,_,_,_,_,_,_,_,_,_,_,_,st3.ldN 0 rfl rfl rfl,_,_,_,_,_,_,_,_,_,_,_,_,st3.ldN 5 rfl rfl rfl,?_⟩;refine s36 hh wk3.st.mem wk3.nr c3.1 (by omega) (by omega) fun w4 f4=>⟨_,rfl,?_⟩;obtain⟨st4,x4⟩:=st3.call f4;have wk4:Wk T I w0 w4 W bs bm bn bv n s out ms dr ((b, .row (mC m e sv))::L):=⟨st4,wk3.wr.x x4,wk3.we⟩;have x14:Xt (W::bs::bm::bn::bv::b::ids L) w1 (W::bs::bm::bn::bv::b::ids L) w4:=Xt.trans (Xt.trans x2 x3) x4;refine⟨st4.ldN 5 rfl rfl rfl,st4.ld 0 rfl rfl,st4.ld 0 rfl rfl,?_⟩;refine s113 (m:=m) hh st4.mem st4.P0.pos (he1.x x14).out (hs1.x x14).out hle fun x w5 f5=>⟨_,_,_,rfl,?_⟩;rw[show(termAt n.base n.bt (n.log.map (·.1)) (qJi n)).1=lastT n from rfl];obtain⟨st5,x5⟩:=st4.call f5;have wk5:Wk T I w0 w5 W bs bm bn bv n s out ms dr ((b, .row (mC m e sv))::L):=⟨st5,wk4.wr.x x5,wk4.we⟩;refine kJp (n':={n with vote:=voV n.term n.vote (lastT n) (qJi n) m}) wk5 rfl rfl ⟨rfl,rfl,rfl,rfl,rfl,rfl,rfl⟩ fun w6 wk6 x6=>?_;have x06:Xt (W::bs::bm::bn::bv::ids L) w (W::bs::bm::bn::bv::b::ids L) w6:=((x1.trans x14).trans x5).trans x6;refine zJm (fun l w'=>l=[]∧Wk T I w0 w' W bs bm bn bv (vJh n m) s out ms dr ((b, .row (mC m e sv))::L)∧Xt (W::bs::bm::bn::bv::ids L) w (W::bs::bm::bn::bv::b::ids L) w') ?_ fun J hJ=>?_
  · rintro l w7 ⟨rfl,wk7,x7⟩
    have e1:(vJh n m).id=n.id∧(vJh n m).term=n.term:=by unfold vJh;split<;>exact⟨rfl,rfl⟩
    refine⟨rfl,fun _=>⟨_,wk7.st.ld 5 rfl rfl,?_⟩⟩;refine s92 (m:=⟨[],2,0,0,0,0,0,0,0,yesV n.term n.vote (lastT n) (qJi n) m,[],[]⟩) hh wk7 Rp.rd.nil Rp.rd.nil (by omega) fun out' w8 wk8 x8=>⟨rfl,?_⟩;obtain⟨wk9,x9⟩:=zJt wk8;simp only[e1.1,e1.2]at wk9;exact hK _ _ _ wk9 ((x7.trans x8).trans x9)
  · unfold vJh at hJ
    cases c:yesV n.term n.vote (lastT n) (qJi n) m with
    | true=>
      have ev:voV n.term n.vote (lastT n) (qJi n) m=m.src:=by unfold voV;rw[if_pos c]
      rw[ev]at wk6;rw[if_pos c]at hJ;exact qJ3 (kJp (n':={n with vote:=m.src,elapsed:=0}) wk6 rfl rfl ⟨rfl,rfl,rfl,rfl,rfl,rfl,rfl⟩ fun w7 wk7 x7=>hJ _ _ ⟨rfl,wk7,x06.trans x7⟩)
    | false=>
      have ev:voV n.term n.vote (lastT n) (qJi n) m=n.vote:=by unfold voV;rw[if_neg (by rw[c];decide)]
      rw[ev]at wk6;rw[if_neg (by rw[c];decide)]at hJ;exact qJ0 (hJ _ _ ⟨rfl,wk6,x06⟩)
noncomputable def gJd(n:Nd)(m:Msg):Nd:=if n.role=2∧m.term=n.term∧m.ok=true then zJ2 {n with votes:=n.votes.set (m.src - 1).toNat true}else n
noncomputable def pJh(n:Nd)(m:Msg):List Msg:=if n.role=2∧m.term=n.term∧m.ok=true then zJ3 {n with votes:=n.votes.set (m.src - 1).toNat true}else []
set_option maxRecDepth 20000 in
theorem s88(hh:HK hk)(wk:Wk T I w0 w W bs bm bn bv n s out ms dr L)(he:(rL rE).rd (fz B (W::bs::bm::bn::bv::ids L)) w [e] m.ents)(hs:(rL rU).rd (fz B (W::bs::bm::bn::bv::ids L)) w [sv] m.snap)(ec:EC n)(hsrc:1≤m.src∧m.src≤n.size)(hl:ms.length<2^17)
  (hK:OdN T I w0 w W bs bm bn bv dr L (gJd n m) (ms++pJh n m) K):Cl Tryz.prog hk 88 [.ptr W 0,.agg (mC m e sv)] w K:=by
 refine in88 (hh.no _ _ _ (by decide) (by decide)) ?_;unfold F88;refine wk_m wk he hs fun b w1 wk1 he1 hs1 x1=>?_;have same:¬ (n.role=2∧m.term=n.term∧m.ok=true)→K (.tup []) w1:=fun hn=>by
  obtain⟨wk2,x2⟩:=zJt wk1;unfold gJd pJh at hK;rw[if_neg hn,if_neg hn,gQc]at hK;exact hK _ _ _ wk2 (x1.trans x2)
 simp only[onP];refine⟨_,wk1.st.ld 0 rfl rfl,qJh (fun hr=>?_) fun hr=>same fun h=>hr h.1⟩;refine⟨_,wk1.st.ld 5 rfl rfl,_,wk1.st.ld 0 rfl rfl,qJh (fun ht=>?_) fun ht=>same fun h=>ht h.2.1⟩;refine⟨_,wk1.st.ld 5 rfl rfl,?_⟩
 cases hok:m.ok with
 | false=>exact qJ0 (same fun h=>by rw[hok]at h;cases h.2.2)
 | true=>
 have hvl:=ec.ln.votes;have hsz:=ec.size;refine qJ3 (qJd (v:=s.votes) (wk1.st.ld 0 rfl rfl) ⟨_,wk1.st.ld 5 rfl rfl,?_⟩);obtain⟨k,hkk⟩:∃k:Nat,m.src - 1=(k:Int):=yQ8 (by omega);have ek:k=(m.src - 1).toNat:=by omega
 rw[wk1.we.votes,qJq (x:=m.src - 1) (by omega) (by omega),hkk];refine idx0 (by omega) (wk1.st.put 4 rfl (by rw[yQr];simp;omega) fun w2 st2 x2=>?_);have wr2:=wk1.wr.x x2;simp only[stN]at st2;rw[vJ2 (by omega)]at st2;have wk2:Wk T I w0 w2 W bs bm bn bv {n with votes:=n.votes.set k true} s out ms dr ((b,.row (mC m e sv))::L):=⟨st2,⟨wr2.snap,wr2.log,wr2.reads,wr2.out⟩,⟨wk1.we.seen,wk1.we.mtch,wk1.we.next,by rw[yQ0];exact wk1.we.votes⟩⟩;have ec2:EC {n with votes:=n.votes.set k true}:=by
  obtain⟨a,b,c,d,e,f,g,⟨l1,l2,l3,l4⟩⟩:=ec;exact⟨a,b,c,d,e,f,g,⟨by rw[yQ0];exact l1,l2,l3,l4⟩⟩
 refine s93 hh wk2 ec2 (by omega) fun s' out' w3 wk3 x3=>⟨_,rfl,?_⟩;obtain⟨wk4,x4⟩:=zJt wk3;unfold gJd pJh at hK;rw[if_pos ⟨hr,ht,hok⟩,if_pos ⟨hr,ht,hok⟩,←ek]at hK;exact hK _ _ _ wk4 ((x1.trans x2).trans (Xt.trans x3 x4))
def ledN(n:Nd)(m:Msg)(dr:Int):Nd:={followN n m.term dr with leads:=m.src,elapsed:=0}
def told(n:Nd)(m:Msg)(i r:Int)(ok:Bool):Msg:=⟨[],4,n.id,m.src,n.term,i,0,0,r,ok,[],[]⟩
set_option maxRecDepth 20000 in
theorem s114(hh:HK hk)(wk:Wk T I w0 w W bs bm bn bv n s out ms dr L)(he:(rL rE).rd (fz B (W::bs::bm::bn::bv::ids L)) w [e] m.ents)(hs:(rL rU).rd (fz B (W::bs::bm::bn::bv::ids L)) w [sv] m.snap)(hl:ms.length<2^18)
  (hK1:m.term<n.term→∀s' out' w',Wk T I w0 w' W bs bm bn bv n s' out' (ms++[told n m 0 0 false]) dr L→Xt (W::bs::bm::bn::bv::ids L) w (W::bs::bm::bn::bv::ids L) w'→K (.bool false) w')
  (hK2:¬ m.term<n.term→n.role=3→∀s' out' w',Wk T I w0 w' W bs bm bn bv n s' out' ms dr L→Xt (W::bs::bm::bn::bv::ids L) w (W::bs::bm::bn::bv::ids L) w'→K (.bool false) w')
  (hK3:¬ m.term<n.term→n.role≠3→∀s' out' w',Wk T I w0 w' W bs bm bn bv (ledN n m dr) s' out' ms dr L→Xt (W::bs::bm::bn::bv::ids L) w (W::bs::bm::bn::bv::ids L) w'→K (.bool true) w'):Cl Tryz.prog hk 114 [.ptr W 0,.agg (mC m e sv)] w K:=by
 refine in114 (hh.no _ _ _ (by decide) (by decide)) ?_;unfold F114;refine wk_m wk he hs fun b w1 wk1 he1 hs1 x1=>?_;simp only[onP];refine⟨_,wk1.st.ld 5 rfl rfl,_,wk1.st.ld 0 rfl rfl,qJh (fun hlt=>?_) fun hlt=>?_⟩
 ·refine⟨_,wk1.st.ld 5 rfl rfl,s92 (m:=⟨[],4,0,0,0,0,0,0,0,false,[],[]⟩) hh wk1 Rp.rd.nil Rp.rd.nil (by omega) fun out' w8 wk8 x8=>⟨rfl,?_⟩⟩;obtain⟨wk9,x9⟩:=zJt wk8;exact hK1 hlt _ _ _ wk9 ((x1.trans x8).trans x9)
 ·refine⟨_,wk1.st.ld 0 rfl rfl,qJh (fun hr=>?_) fun hr=>?_⟩
  ·obtain⟨wk9,x9⟩:=zJt wk1;exact hK2 hlt hr _ _ _ wk9 (x1.trans x9)
  ·refine⟨_,wk1.st.ld 5 rfl rfl,s44 hh wk1 fun s' w2 wk2 x2=>⟨rfl,_,wk2.st.ld 5 rfl rfl,?_⟩⟩;refine kJp (n':={followN n m.term dr with leads:=m.src}) wk2 rfl rfl ⟨rfl,rfl,rfl,rfl,rfl,rfl,rfl⟩ fun w3 wk3 x3=>kJp (n':={followN n m.term dr with leads:=m.src,elapsed:=0}) wk3 rfl rfl ⟨rfl,rfl,rfl,rfl,rfl,rfl,rfl⟩ fun w4 wk4 x4=>?_;obtain⟨wk9,x9⟩:=zJt wk4;exact hK3 hlt hr _ _ _ wk9 ((((x1.trans x2).trans x3).trans x4).trans x9)
end
end Go.Proofs.YtghoifolghelnaaGreat
/-
 Entries merged; where to try next.
 No condition beyond those that each theorem names.
-/
open Go.Sx
namespace Go.Proofs.YtghoifolghelnaaGreat
def zJz(l:List Ent):Nat→List Ent→List Ent
  | _,[]=>l
  | a,e::es=>match l[a]? with
    | some x=>if x.1=e.1 then zJz l (a+1) es else l.take a++e::es
    | none=>l.take a++e::es
def jJc(base bt:Int)(l:List Ent)(index term:Int)(es:List Ent):List Ent×Int×Bool:=
 if(termAt base bt (l.map (·.1)) index).2=true∧(termAt base bt (l.map (·.1)) index).1=term then(zJz l (index - base).toNat es,index+es.length,true)else(l,0,false)
def qJ5(base bt:Int)(l:List Ent)(index term:Int)(es:List Ent):List Ent×Int×Bool:=
 if index<base then(if(es.length:Int)<base - index then(l,base,true)else jJc base bt l base bt (es.drop (base - index).toNat))else jJc base bt l index term es
def cJc(base bt:Int)(ts:List Int)(t:Int):Nat→Int
 | 0=>base
 | k+1=>if(termAt base bt ts (base+(k+1:Nat))).1<t then base+(k+1:Nat)else cJc base bt ts t k
def sJ5(base bt:Int)(ts:List Int)(index:Int):Int:=
 if base+ts.length<index then base+ts.length else if index≤base then base else cJc base bt ts (termAt base bt ts index).1 (index - 1 - base).toNat
def sJm(l es:List Ent)(a i:Nat):Bool:=match l[a+i]?,es[i]? with
 | some x,some e=>!decide (x.1=e.1)
 | _,_=>true
theorem sJt {l es:List Ent}{a i:Nat}(hi:i<es.length)(hp:sJm l es a i=true):zJz l (a+i) (es.drop i)=l.take (a+i)++es.drop i:=by
  rw[gQq hi,zJz];unfold sJm at hp;rw[yQn hi]at hp
  cases h:l[a+i]? with
  | none=>rfl
  | some x=>
    rw[h]at hp;simp at hp;simp only[];rw[if_neg hp]
theorem sJu {l es:List Ent}{a i:Nat}(hi:i<es.length)(hp:sJm l es a i=false):zJz l (a+i) (es.drop i)=zJz l (a+(i+1)) (es.drop (i+1))∧a+i<l.length:=by
  rw[gQq hi,zJz];unfold sJm at hp;rw[yQn hi]at hp
  cases h:l[a+i]? with
  | none=>rw[h]at hp;cases hp
  | some x=>
    rw[h]at hp;simp at hp;simp only[];rw[if_pos hp];exact⟨rfl,(yQt.1 h).1⟩
section
variable {hk:Hook}{A A' B:Nat→Prop}{I:List Nat}{w0 w w':AW}{K:AV→AW→Prop}{v ev:AV}{l es:List Ent}{base bt index term:Int}{L:Obs}{U U':List Nat}
set_option maxRecDepth 20000 in
theorem s125(hh:HK hk)(hm:Mem w)(hpos:0<w.size)(h:(rL rE).rd A w [v] l)(hl:l.length<2^37)(hd:∀e∈l,e.2.length<2^38)(hK:∀v' w',Fr w.size w w'→(rL rE).rd (Nw w) w' [v'] l→K v' w'):Cl Tryz.prog hk 125 [v] w K:=by
 refine in125 (hh.no _ _ _ (by decide) (by decide)) ?_;unfold F125;have pv:Pv (Nw w) w:=⟨hm,hpos,fun _ h=>h⟩;refine⟨_,h.len',?_⟩;refine qJr (fun m lv w4=>∃(i:Nat) (u:AV),i≤l.length∧m=l.length - i∧lv=[u,.int .i64 i]∧Ow (Nw w) [] w w4 []∧Ga rE (fz (Nw w) []) w w4 u (l.take i)) ?_ ⟨0,.nilslice,yQz _,rfl,rfl,pv.st,Ga.nil⟩;rintro m lv w4 ⟨i,u,hi,rfl,rfl,st4,hg⟩ R ih;have h4:(rL rE).rd (fz A []) w4 [v] l:=st4.arg hm h;refine⟨_,_,rfl,fun _=>qJh (fun hc=>?_) fun hc=>?_⟩
 ·have hil:i<l.length:=by omega
  have hdl:=hd _ (gQp hil);refine lJz h4 hil fun b o x hx h0 h1 hn=>⟨_,_,hn,st4.new' fun b11 w12 st12 x12=>gd_t (by simp only[List.all_cons,hx.ok1];rfl) (st12.put 0 rfl (yQk rfl) fun w13 st13 x13=>⟨_,st13.ld 0 rfl rfl,qJd (v:=x) (st13.ld 0 rfl rfl) ?_⟩)⟩;have st13:Ow (Nw w) [] w w13 [(b11,.row [.int .i64 l[i].1,x])]:=st13;refine s55 hh st13.mem (hx.x (Xt.trans x12 x13)) hdl fun v16 w17 f17 h17=>?_;obtain⟨st17,x17⟩:=st13.call f17;have hr17:(rL rU).rd (fz (Nw w) [b11]) w17 [v16] l[i].2:=h17.rd (fun c hc=>st13.P.new c hc) Chk.flU;refine gd_t hr17.ok1 (gd_t (by simp only[List.all_cons,hr17.ok1];rfl) (st17.new' fun b18 w19 st19 x19=>⟨st19.ld 1 rfl rfl,?_⟩));obtain⟨st20,x20,hA18,hb18⟩:=st19.drop;have xx:Xt [] w4 [b11] w19:=(Xt.trans x12 x13).trans (Xt.trans x17 (Xt.trans x19 x20));have hg2:Ga rE (fz (Nw w) [b11]) w w19 u (l.take i):=Ga.x xx st4 hg;have he:rE.rd (fz (Nw w) [b11]) w19 [.int .i64 l[i].1,v16] l[i]:=⟨v16,rfl,hr17.x (Xt.trans x19 x20)⟩;refine st20.app (r:=rE) (l':=[l[i]]) hg2 (Box.rd1 hb18 hA18 he) (by decide) st20.new (by simp;omega) (by simp;omega) fun v' w' st' x' hg'=>?_;obtain⟨st21,x21,_⟩:=st'.drop;refine ih (l.length - (i+1)) (by omega) _ _ ⟨i+1,v',hil,rfl,by rw[qJq (by omega) (by omega)];rfl,st21,?_⟩;rw[List.take_succ_eq_append_getElem hil];exact Ga.x x21 st' hg'
 ·rw[yQ5 (by omega)]at hg;exact hK u w4 st4.fr (hg.rd (by decide)).out
theorem s126 {b4 b7 b20 a i:Nat}(hh:HK hk)(h:(rL rE).rd A w [v] l)(he:(rL rE).rd B w [ev] es)(h1:ld w b4 0=some (.int .i64 (a:Int)))(h2:ld w b7 0=some v)(h3:ld w b20 0=some ev)(hi:i<es.length)(ha:a<2^40)(hel:es.length<2^37)(hK:K (.bool (sJm l es a i)) w):Cl Tryz.prog hk 126 [.int .i64 (i:Int),.ptr b4 0,.ptr b7 0,.ptr b20 0] w K:=by
 refine in126 (hh.no _ _ _ (by decide) (by decide)) ?_;unfold F126;simp only[onP];have ew:wi ((a:Int)+i)=((a+i:Nat):Int):=by rw[qJq (by omega) (by omega)];rfl
 refine⟨_,h1,qJd h2 ⟨_,h.len',?_⟩⟩;rw[ew];unfold sJm at hK;rw[yQn hi]at hK;refine qJh (fun hc=>?_) fun hc=>?_
 ·rw[yQ6 (by omega)]at hK;exact hK
 ·have hil:a+i<l.length:=by omega
  rw[yQn hil]at hK;refine qJd h2 ⟨_,h1,?_⟩;rw[ew];refine lJz h hil fun b o x hx h0 _ _=>⟨_,h0,qJd h3 (lJz he hi fun b o x hx h0 _ _=>⟨_,h0,hK⟩)⟩
set_option maxRecDepth 20000 in
theorem s115(hh:HK hk)(hm:Mem w)(hpos:0<w.size)(h:(rL rE).rd A w [v] l)(he:(rL rE).rd B w [ev] es)(hb:0≤base∧base≤G40)(hi:0≤index∧index≤G40)(hl:l.length<2^36)(hel:es.length<2^36)(hd:∀e∈l,e.2.length<2^38)(hd2:∀e∈es,e.2.length<2^38)
    (hK:∀v' w',Fr w.size w w'→(rL rE).rd (Nw w) w' [v'] (qJ5 base bt l index term es).1→K (.tup [v', .int .i64 (qJ5 base bt l index term es).2.1, .bool (qJ5 base bt l index term es).2.2]) w'):Cl Tryz.prog hk 115 [.int .i64 base, .int .i64 bt,v, .int .i64 index, .int .i64 term,ev] w K:=by
  refine in115 (hh.no _ _ _ (by decide) (by decide)) ?_;unfold F115;have pv:Pv TA w:=⟨hm,hpos,fun _ _=>trivial⟩;have hb2:=hb.2;have hi2:=hi.2;unfold G40 at hb2 hi2;have h:(rL rE).rd TA w [v] l:=h.xa ⟨fun _ _ _ _ _ d=>⟨trivial,trivial,d⟩⟩;have he:(rL rE).rd TA w [ev] es:=he.xa ⟨fun _ _ _ _ _ d=>⟨trivial,trivial,d⟩⟩;refine gd_t h.ok1 (pv.st.new' fun b6 w7 st7 x7=>gd_t he.ok1 (st7.new' fun b8 w9 st9 x9=>?_));have st9:Ow TA [] w w9 [(b8, .row [ev]),(b6, .row [v])]:=st9;have out:∀{v':AV} {w1 w':AW} {l':List Ent},w.size≤w1.size→(rL rE).rd (Nw w1) w' [v'] l'→(rL rE).rd (Nw w) w' [v'] l':=fun hs hr=>hr.xa ⟨fun c f _ a b d=>⟨gQt hs a,gQt hs b,d⟩⟩
  -- behind the cut
  refine zJm (fun lv w11=>∃(ix tm:Int) (ev2:AV) (es2:List Ent),lv=[.int .i64 ix, .int .i64 tm]∧Ow TA [] w w11 [(b8, .row [ev2]),(b6, .row [v])]∧(rL rE).rd (fz TA [b8,b6]) w11 [ev2] es2∧base≤ix∧ix≤G40∧es2.length≤es.length∧(∀e∈es2,e.2.length<2^38)∧qJ5 base bt l index term es=jJc base bt l ix tm es2) ?_ fun J hJ=>?_
  · rintro lv w11 ⟨ix,tm,ev2,es2,rfl,st11,he11,hix,hix2,hel2,hd3,e⟩
    rw[e]at hK;unfold G40 at hix2;have h11:=st11.arg hm h;have rs11:RsE w11 v (l.map (·.1)):=uJz h11;refine⟨_,_,rfl,fun _=>qJd (v:=v) (st11.ld 1 rfl rfl) (s97 hh rs11 hb.1 (by omega) (by rw[yQr];omega) ⟨_,_,rfl,?_⟩)⟩;have no:¬ ((termAt base bt (l.map (·.1)) ix).2=true∧(termAt base bt (l.map (·.1)) ix).1=tm)→onM (ld w11 b6 0) fun x_20=>Cl Tryz.prog hk 125 [x_20] w11 fun r_21 w_22=>K (.tup [r_21, .int .i64 0, .bool false]) w_22:=fun hn=>by
      unfold jJc at hK;rw[if_neg hn]at hK;refine qJd (v:=v) (st11.ld 1 rfl rfl) (s125 hh st11.mem st11.P0.pos h11 (by omega) hd fun v' w' f' hv'=>?_);obtain⟨st12,x12⟩:=st11.call f';exact hK v' w' st12.fr (out st11.size hv')
    cases ht:(termAt base bt (l.map (·.1)) ix).2 with
    | false=>exact qJ3 (no fun h=>by rw[ht]at h;cases h.1)
    | true=>
    refine qJ0 (vJv (fun hne=>no fun h=>hne h.2) fun heq=>?_);have hle:ix≤base+l.length:=by
      unfold termAt at ht;rw[yQr]at ht;split at ht
      · omega
      · split at ht
        · cases ht
        · omega
    unfold jJc at hK;rw[if_pos ⟨ht,heq⟩]at hK;obtain⟨a,hae⟩:∃a:Nat,ix - base=(a:Int):=yQ8 (by omega);rw[hae,Int.toNat_natCast]at hK;rw[qJq (x:=ix - base) (by omega) (by omega),hae];refine st11.new' fun b26 w27 st27 x27=>st27.put 0 rfl (yQk rfl) fun w28 st28 x28=>?_;have st28:Ow TA [] w w28 [(b26, .row [.int .i64 (a:Int)]),(b8, .row [ev2]),(b6, .row [v])]:=st28;have h28:=st28.arg hm h;have he28:(rL rE).rd (fz TA [b26,b8,b6]) w28 [ev2] es2:=he11.x (Xt.trans x27 x28);refine qJd (v:=ev2) (st28.ld 1 rfl rfl) ⟨_,he28.len',?_⟩;refine qJr (fun m lv w33=>∃i:Nat,w28=w33∧i≤es2.length∧m=es2.length - i∧lv=[.int .i64 i]∧a+i≤l.length+0∧zJz l a es2=zJz l (a+i) (es2.drop i)) ?_ ⟨0,rfl,yQz _,rfl,rfl,by omega,rfl⟩;rintro m lv w33 ⟨i,rfl,hii,rfl,rfl,hai,hme⟩ R ih;refine⟨_,rfl,fun _=>qJh (fun hc=>?_) fun hc=>?_⟩
    · have hil:i<es2.length:=by omega
      refine s126 hh h28 he28 (st28.ld 0 rfl rfl) (st28.ld 2 rfl rfl) (st28.ld 1 rfl rfl) hil (by omega) (by omega) ⟨_,rfl,?_⟩
      cases hp:sJm l es2 a i with
      | false=>
        obtain⟨g1,g2⟩:=sJu hil hp;exact qJ0 (ih (es2.length - (i+1)) (by omega) _ _ ⟨i+1,rfl,hil,rfl,by rw[qJq (by omega) (by omega)];rfl,by omega,hme.trans g1⟩)
      | true=>
        clear ih;have g1:=sJt hil hp;rw[hme,g1]at hK;have ew:wi ((a:Int)+i)=((a+i:Nat):Int):=by rw[qJq (by omega) (by omega)];rfl
        refine qJ3 (qJd (v:=v) (st28.ld 2 rfl rfl) ⟨_,st28.ld 0 rfl rfl,?_⟩);rw[ew];obtain⟨p1,hs1,hp1⟩:=h28.cut (i:=0) (j:=a+i) (yQz _) (by omega) (.inr ⟨rfl,rfl⟩) (.inl rfl);obtain⟨p2,hs2,hp2⟩:=he28.cut (i:=i) (j:=es2.length) (by omega) (yQm _) (.inl rfl) (.inr ⟨rfl,rfl⟩);rw[List.drop_zero]at hp1;rw[gQi]at hp2;refine qJd hs1 (qJd (v:=ev2) (st28.ld 1 rfl rfl) (qJd hs2 (gd_t hp1.ok1 (gd_t hp2.ok1 (st28.new' fun b43 w44 st44 x44=>qJd (v:=ev2) (st44.ld 2 rfl rfl) ⟨_,(he28.x x44).len',st44.ld 2 rfl rfl,st44.ld 2 rfl rfl,st44.ld 1 rfl rfl,st44.ld 3 rfl rfl,?_⟩)))));obtain⟨st45,x45,_,hb43⟩:=st44.drop;have xx:=Xt.trans x44 x45;refine s95 hh st45.mem st45.P0.pos hb43 (hp1.x xx) (hp2.x xx) (by simp;omega) (by simp;omega) fun v47 w48 f48 hv47=>?_;obtain⟨st48,x48⟩:=st45.call f48;have hv48:(rL rE).rd (fz TA [b26,b8,b6]) w48 [v47] (l.take (a+i)++es2.drop i):=hv47 _ (fun b hb=>st45.P.new b hb) fun _ _ h=>h.xa Xa.refl;refine⟨st48.ld 1 rfl rfl,s125 hh st48.mem st48.P0.pos hv48 (by simp;omega) (fun e hx=>?_) fun v49 w50 f50 hv49=>?_⟩
        · rcases yQ1.1 hx with hx | hx
          · exact hd e (gQz hx)
          · exact hd3 e (List.mem_of_mem_drop hx)
        obtain⟨st50,x50⟩:=st48.call f50;refine⟨st50.ld 1 rfl rfl,?_⟩;rw[qJq (x:=ix+es2.length) (by omega) (by omega)];exact hK v49 w50 st50.fr (out st48.size hv49)
    · have ei:i=es2.length:=by omega
      subst ei;rw[List.drop_length]at hme;have hme:zJz l a es2=l:=hme;rw[hme]at hK;refine qJd (v:=v) (st28.ld 2 rfl rfl) (qJd (v:=ev2) (st28.ld 1 rfl rfl) ⟨_,he28.len',s125 hh st28.mem st28.P0.pos h28 (by omega) hd fun v' w' f' hv'=>?_⟩);obtain⟨st29,x29⟩:=st28.call f';refine⟨st29.ld 1 rfl rfl,?_⟩;rw[qJq (x:=ix+es2.length) (by omega) (by omega)];exact hK v' w' st29.fr (out st28.size hv')
  · have he9:=st9.arg hm he
    unfold qJ5 at hJ hK;refine qJh (fun hlt=>?_) fun hge=>?_
    · rw[if_pos hlt]at hJ hK
      refine qJd (v:=ev) (st9.ld 0 rfl rfl) ⟨_,he9.len',?_⟩;rw[qJq (x:=base - index) (by omega) (by omega)];refine qJh (fun hs=>?_) fun hs=>?_
      · rw[if_pos hs]at hK
        refine qJd (v:=v) (st9.ld 1 rfl rfl) (s125 hh st9.mem st9.P0.pos (st9.arg hm h) (by omega) hd fun v' w' f' hv'=>?_);obtain⟨st10,x10⟩:=st9.call f';exact hK v' w' st10.fr (out st9.size hv')
      · rw[if_neg hs]at hJ
        obtain⟨k,hkk⟩:∃k:Nat,base - index=(k:Int):=yQ8 (by omega);rw[hkk]at hs hJ ⊢;rw[Int.toNat_natCast]at hJ;obtain⟨p2,hs2,hp2⟩:=he9.cut (i:=k) (j:=es.length) (by omega) (yQm _) (.inl rfl) (.inr ⟨rfl,rfl⟩);rw[gQi]at hp2;refine qJd (v:=ev) (st9.ld 0 rfl rfl) (qJd hs2 (gd_t hp2.ok1 (st9.put 0 rfl (yQk rfl) fun w63 st63 x63=>hJ _ _ ⟨base,bt,p2,_,rfl,st63,hp2.x x63,yQo _,hb.2,by simp,fun e hx=>hd2 e (List.mem_of_mem_drop hx),rfl⟩)))
    · rw[if_neg hge]at hJ
      exact hJ _ _ ⟨index,term,ev,es,rfl,st9,he9,by omega,hi.2,yQm _,hd2,rfl⟩
theorem s116 {ts:List Int}(hh:HK hk)(hl:RsE w v ts)(hb:0≤base∧base≤G40)(hi:0≤index∧index≤G40)(hs:ts.length<2^40)(hK:K (.int .i64 (sJ5 base bt ts index)) w):Cl Tryz.prog hk 116 [.int .i64 base,.int .i64 bt,v,.int .i64 index] w K:=by
 refine in116 (hh.no _ _ _ (by decide) (by decide)) ?_;unfold F116;have hb2:=hb.2;have hi2:=hi.2;unfold G40 at hb2 hi2;unfold sJ5 at hK;refine s79 hh hl hb.1 (by omega) hs ⟨_,rfl,qJh (fun h1=>?_) fun h1=>qJh (fun h2=>?_) fun h2=>?_⟩
 ·rw[if_pos h1]at hK;exact s79 hh hl hb.1 (by omega) hs ⟨_,rfl,hK⟩
 ·rw[if_neg h1,if_pos h2]at hK;exact hK
 ·rw[if_neg h1,if_neg h2]at hK;refine s97 hh hl hb.1 (by omega) hs ⟨_,_,rfl,?_⟩;generalize(termAt base bt ts index).1=t at hK;rw[qJq (x:=index - 1) (by omega) (by omega)];refine qJr (fun m lv w'=>w=w'∧∃k:Nat,m=k∧base+k≤index - 1∧lv=[.int .i64 (base+k)]∧cJc base bt ts t (index - 1 - base).toNat=cJc base bt ts t k) ?_ ⟨rfl,(index - 1 - base).toNat,rfl,by omega,by rw[show base+((index - 1 - base).toNat:Int)=index - 1 by omega],rfl⟩;rintro m lv w' ⟨rfl,k,hmk,hk',rfl,hhe⟩ R ih;have hmk:=hmk.symm;subst hmk;refine⟨_,rfl,fun _=>qJh (fun hc=>?_) fun hc=>?_⟩
  ·obtain⟨k,rfl⟩:∃j,k=j+1:=⟨k - 1,by omega⟩;rw[cJc]at hhe;refine s97 hh hl hb.1 (by omega) hs ⟨_,_,rfl,qJh (fun h3=>?_) fun h3=>?_⟩
   ·rw[if_pos h3]at hhe;rw[hhe]at hK;exact hK
   ·rw[if_neg h3]at hhe;exact ih k (by omega) _ _ ⟨rfl,k,rfl,by omega,by rw[qJq (by omega) (by omega),show base+((k+1:Nat):Int) - 1=base+(k:Int)by omega],hhe⟩
  ·have:k=0:=by omega
   subst this;rw[hhe]at hK;exact hK
end
end Go.Proofs.YtghoifolghelnaaGreat
/-
 A node at work takes entries,a snapshot,an answer.
 No condition beyond those that each theorem names.
-/
open Go.Sx
namespace Go.Proofs.YtghoifolghelnaaGreat
theorem hJj {l:List Ent}:∀{es:List Ent} {a:Nat},(zJz l a es).length≤l.length+es.length
  | [],a=>by unfold zJz;omega
  | e::es,a=>by
    unfold zJz;split
    · split
      · have:=hJj (l:=l) (es:=es) (a:=a+1)
        rw[gQd];omega
      · simp;omega
    · simp;omega
theorem iJt {l es:List Ent}{base bt index term:Int}:(qJ5 base bt l index term es).1.length≤l.length+es.length:=by
 have g:∀(ix tm:Int) (es2:List Ent),(jJc base bt l ix tm es2).1.length≤l.length+es2.length:=fun ix tm es2=>by
  unfold jJc;split
  ·exact hJj
  ·simp
 unfold qJ5;split
 ·split
  ·simp
  ·refine gQt (g _ _ _) ?_;simp
 ·exact g _ _ _
open Classical in
noncomputable def appN(n:Nd)(m:Msg):Nd:=
 if(qJ5 n.base n.bt n.log m.index m.lt m.ents).2.2=true∧risP n.bt n.term (qJ5 n.base n.bt n.log m.index m.lt m.ents).1∧n.commit≤n.base+(qJ5 n.base n.bt n.log m.index m.lt m.ents).1.length then
  {n with log:=(qJ5 n.base n.bt n.log m.index m.lt m.ents).1,commit:=imax n.commit (imin m.commit (qJ5 n.base n.bt n.log m.index m.lt m.ents).2.1)}
 else n
open Classical in
noncomputable def appM(n:Nd)(m:Msg):List Msg:=
 if(qJ5 n.base n.bt n.log m.index m.lt m.ents).2.2=true∧risP n.bt n.term (qJ5 n.base n.bt n.log m.index m.lt m.ents).1∧n.commit≤n.base+(qJ5 n.base n.bt n.log m.index m.lt m.ents).1.length then
  [told n m (qJ5 n.base n.bt n.log m.index m.lt m.ents).2.1 m.round true]
 else [told n m (sJ5 n.base n.bt (n.log.map (·.1)) m.index) m.round false]
noncomputable def vJi(n:Nd)(m:Msg)(dr:Int):Nd:=if m.term<n.term then n else if n.role=3 then n else appN (ledN n m dr) m
noncomputable def kJf(n:Nd)(m:Msg)(dr:Int):List Msg:=if m.term<n.term then [told n m 0 0 false]else if n.role=3 then []else appM (ledN n m dr) m
def zJ0(n:Nd)(m:Msg):Nd:=
 if n.commit<m.index then {n with log:=if(termAt n.base n.bt (n.log.map (·.1)) m.index).2=true∧(termAt n.base n.bt (n.log.map (·.1)) m.index).1=m.lt then n.log.drop (m.index - n.base).toNat else [],base:=m.index,bt:=m.lt,snap:=m.snap,commit:=m.index}else n
def xJc(n:Nd)(m:Msg)(dr:Int):Nd:=if m.term<n.term then n else if n.role=3 then n else zJ0 (ledN n m dr) m
def xJ2(n:Nd)(m:Msg)(dr:Int):List Msg:=if m.term<n.term then [told n m 0 0 false]else if n.role=3 then []else [told (ledN n m dr) m (zJ0 (ledN n m dr) m).commit m.round true]
theorem oJl(n:Nd)(m:Msg)(dr:Int):(ledN n m dr).id=n.id∧(ledN n m dr).size=n.size∧(ledN n m dr).base=n.base∧(ledN n m dr).bt=n.bt∧(ledN n m dr).log=n.log∧(ledN n m dr).commit=n.commit∧(ledN n m dr).snap=n.snap:=by
 unfold ledN followN clearN;split<;>exact⟨rfl,rfl,rfl,rfl,rfl,rfl,rfl⟩
structure MB(m:Msg):Prop where
 src:1≤m.src∧m.src≤9
 index:0≤m.index∧m.index≤G40
 commit:0≤m.commit∧m.commit≤G40
 round:0≤m.round∧m.round≤G40
 len:m.ents.length<2^35
 data:∀e∈m.ents,e.2.length≤60000
 snap:m.snap.length≤60000
section
variable {hk:Hook}{T A A' B:Nat→Prop}{I:List Nat}{w0 w w':AW}{K:AV→AW→Prop}{n:Nd}{m:Msg}{e sv:AV}{s:Sl}{v out:AV}{W bs bm bn bv:Nat}{ms:List Msg}{dr:Int}{L:Obs}{U U':List Nat}
set_option maxRecDepth 20000 in
theorem s89(hh:HK hk)(wk:Wk T I w0 w W bs bm bn bv n s out ms dr L)(he:(rL rE).rd (fz B (W::bs::bm::bn::bv::ids L)) w [e] m.ents)(hs:(rL rU).rd (fz B (W::bs::bm::bn::bv::ids L)) w [sv] m.snap)(ec:EC n)(hcb:n.commit≤2^41)(mb:MB m)(hl:ms.length<2^17)
    (hK:OdN T I w0 w W bs bm bn bv dr L (vJi n m dr) (ms++kJf n m dr) K):Cl Tryz.prog hk 89 [.ptr W 0, .agg (mC m e sv)] w K:=by
  refine in89 (hh.no _ _ _ (by decide) (by decide)) ?_;unfold F89;unfold vJi kJf at hK;refine wk_m wk he hs fun b w1 wk1 he1 hs1 x1=>⟨_,_,_,_,_,_,_,_,_,_,_,_,wk1.st.ldN 5 rfl rfl rfl,?_⟩;refine s114 (m:=m) hh wk1 he1 hs1 (by omega) (fun hlt s' out' w2 wk2 x2=>⟨_,rfl,qJ3 ?_⟩) (fun hlt hr s' out' w2 wk2 x2=>⟨_,rfl,qJ3 ?_⟩) fun hlt hr s' out' w2 wk2 x2=>⟨_,rfl,qJ0 ?_⟩
  · rw[if_pos hlt,if_pos hlt]at hK
    obtain⟨wk3,x3⟩:=zJt wk2;exact hK _ _ _ wk3 ((x1.trans x2).trans x3)
  · rw[if_neg hlt,if_pos hr,if_neg hlt,if_pos hr,gQc]at hK
    obtain⟨wk3,x3⟩:=zJt wk2;exact hK _ _ _ wk3 ((x1.trans x2).trans x3)
  rw[if_neg hlt,if_neg hr,if_neg hlt,if_neg hr]at hK;obtain⟨q1,q2,q3,q4,q5,q6,q7⟩:=oJl n m dr;have c3:=ec.base;have c5:=ec.log;have c4:=ec.commit;have c6:=ec.data;rw[←q3]at c3;rw[←q5]at c5 c6;rw[←q6]at c4 hcb;clear q1 q2 q3 q4 q5 q6 q7;generalize ledN n m dr=n1 at wk2 hK c3 c4 c5 c6 hcb;have c32:=c3.2;unfold G40 at c32;have mi:=mb.index;have mi2:=mi.2;unfold G40 at mi2;have mc:=mb.commit;have mr:=mb.round;have ml:=mb.len;simp only[onP];have he2:=he1.x x2;have hml:=iJt (l:=n1.log) (es:=m.ents) (base:=n1.base) (bt:=n1.bt) (index:=m.index) (term:=m.lt);refine⟨_,wk2.st.ld 0 rfl rfl,_,wk2.st.ld 0 rfl rfl,qJd (v:=s'.log) (wk2.st.ld 0 rfl rfl) ⟨_,wk2.st.ld 5 rfl rfl,_,wk2.st.ld 5 rfl rfl,qJd (v:=e) (wk2.st.ld 5 rfl rfl) ?_⟩⟩;refine s115 hh wk2.st.mem wk2.st.P0.pos wk2.wr.log he2 c3 mi (by omega) (by omega) (fun x hx=>by have:=c6 x hx;omega) (fun x hx=>by have:=mb.data x hx;omega) fun v3 w3 f3 hv3=>⟨_,_,_,rfl,?_⟩;obtain⟨st3,x3⟩:=wk2.st.call f3;have wk3:Wk T I w0 w3 W bs bm bn bv n1 s' out' ms dr ((b, .row (mC m e sv))::L):=⟨st3,wk2.wr.x x3,wk2.we⟩;have hl3:(rL rE).rd (fz T (W::bs::bm::bn::bv::b::ids L)) w3 [v3] (qJ5 n1.base n1.bt n1.log m.index m.lt m.ents).1:=hv3.xa ⟨fun c f _ a b d=>⟨wk2.st.P.new c a,wk2.st.P.new f b,d⟩⟩;have x03:=(x1.trans x2).trans x3;unfold appN appM at hK;refine zJm (fun l w'=>∃c:Bool,l=[.bool c]∧Fr w3.size w3 w'∧(c=false↔((qJ5 n1.base n1.bt n1.log m.index m.lt m.ents).2.2=true∧risP n1.bt n1.term (qJ5 n1.base n1.bt n1.log m.index m.lt m.ents).1∧n1.commit≤n1.base+(qJ5 n1.base n1.bt n1.log m.index m.lt m.ents).1.length))) ?_ fun J hJ=>?_
  · rintro lv w4 ⟨c,rfl,f4,hc⟩
    obtain⟨st4,x4⟩:=wk3.st.call f4;have wk4:Wk T I w0 w4 W bs bm bn bv n1 s' out' ms dr ((b, .row (mC m e sv))::L):=⟨st4,wk3.wr.x x4,wk3.we⟩;refine⟨_,rfl,fun _=>?_⟩
    cases c with
    | true=>
      have hn:¬ ((qJ5 n1.base n1.bt n1.log m.index m.lt m.ents).2.2=true∧risP n1.bt n1.term (qJ5 n1.base n1.bt n1.log m.index m.lt m.ents).1∧n1.commit≤n1.base+(qJ5 n1.base n1.bt n1.log m.index m.lt m.ents).1.length):=fun h=>absurd (hc.2 h) (by decide);rw[if_neg hn,if_neg hn]at hK;refine qJ3 ⟨_,wk4.st.ld 5 rfl rfl,_,wk4.st.ld 0 rfl rfl,_,wk4.st.ld 0 rfl rfl,qJd (v:=s'.log) (wk4.st.ld 0 rfl rfl) ⟨_,wk4.st.ld 5 rfl rfl,_,wk4.st.ld 5 rfl rfl,?_⟩⟩;refine s116 hh (uJz wk4.wr.log) c3 mi (by rw[yQr];omega) ⟨_,rfl,wk4.st.ld 5 rfl rfl,wk4.st.ld 5 rfl rfl,?_⟩;have q:=@s92 hk T I w0 w4 (fun r_56 w_57=>r_56=AV.tup []∧K (AV.tup []) w_57) n1 s' out' W bs bm bn bv ms dr ((b, .row (mC m e sv))::L) ⟨[],4,0,0,0,sJ5 n1.base n1.bt (n1.log.map (·.1)) m.index,0,0,m.round,false,[],[]⟩ .nilslice .nilslice m.src hh wk4 Rp.rd.nil Rp.rd.nil (by omega);refine q fun out2 w8 wk8 x8=>⟨rfl,?_⟩;obtain⟨wk9,x9⟩:=zJt wk8;exact hK _ _ _ wk9 (((x03.trans x4).trans x8).trans x9)
    | false=>
      have hp:=hc.1 rfl;rw[if_pos hp,if_pos hp]at hK;have hl4:=hl3.x x4;refine qJ0 (gd_t hl4.ok1 (wk4.st.put 0 rfl (yQk rfl) fun w5 st5 x5=>⟨_,st5.ld 0 rfl rfl,_,st5.ld 5 rfl rfl,st5.put 0 rfl (yQk rfl) fun w6 st6 x6=>⟨_,st6.ld 5 rfl rfl,_,st6.ld 5 rfl rfl,?_⟩⟩));have x46:Xt (W::bs::bm::bn::bv::b::ids L) w4 (W::bs::bm::bn::bv::b::ids L) w6:=Xt.trans x5 x6;have wr6:=wk4.wr.x x46;have wk6:Wk T I w0 w6 W bs bm bn bv {n1 with log:=(qJ5 n1.base n1.bt n1.log m.index m.lt m.ents).1,commit:=imax n1.commit (imin m.commit (qJ5 n1.base n1.bt n1.log m.index m.lt m.ents).2.1)} {s' with log:=v3} out' ms dr ((b, .row (mC m e sv))::L):=⟨st6,⟨wr6.snap,hl4.x x46,wr6.reads,wr6.out⟩,⟨wk4.we.seen,wk4.we.mtch,wk4.we.next,wk4.we.votes⟩⟩;refine s92 (m:=⟨[],4,0,0,0,(qJ5 n1.base n1.bt n1.log m.index m.lt m.ents).2.1,0,0,m.round,true,[],[]⟩) hh wk6 Rp.rd.nil Rp.rd.nil (by omega) fun out2 w8 wk8 x8=>⟨rfl,?_⟩;obtain⟨wk9,x9⟩:=zJt wk8;exact hK _ _ _ wk9 (((x03.trans x4).trans x46).trans (Xt.trans x8 x9))
  · cases hok:(qJ5 n1.base n1.bt n1.log m.index m.lt m.ents).2.2 with
    | false=>exact qJ3 (hJ _ _ ⟨true,rfl,Fr.refl wk3.st.mem,⟨fun h=>(by cases h),fun h=>by rw[hok]at h;cases h.1⟩⟩)
    | true=>
    refine qJ0 ⟨_,wk3.st.ld 0 rfl rfl,_,wk3.st.ld 0 rfl rfl,s38 hh wk3.st.mem wk3.st.P0.pos hl3 (by omega) fun c w4 f4 hc=>⟨_,rfl,?_⟩⟩;obtain⟨st4,x4⟩:=wk3.st.call f4
    cases c with
    | false=>exact qJ3 (hJ _ _ ⟨true,rfl,f4,⟨fun h=>(by cases h),fun h=>absurd (hc.2 h.2.1) (by decide)⟩⟩)
    | true=>
    refine qJ0 ⟨_,st4.ld 0 rfl rfl,_,st4.ld 0 rfl rfl,s79 hh (uJz (hl3.x x4)) c3.1 (by omega) (by rw[yQr];omega) ⟨_,rfl,st4.ld 0 rfl rfl,hJ _ _ ⟨_,rfl,f4,?_⟩⟩⟩;rw[decide_eq_false_iff_not,yQr];exact⟨fun h=>⟨hok,hc.1 rfl,by omega⟩,fun h=>by have:=h.2.2;omega⟩
set_option maxRecDepth 20000 in
theorem s91(hh:HK hk)(wk:Wk T I w0 w W bs bm bn bv n s out ms dr L)(he:(rL rE).rd (fz B (W::bs::bm::bn::bv::ids L)) w [e] m.ents)(hs:(rL rU).rd (fz B (W::bs::bm::bn::bv::ids L)) w [sv] m.snap)(ec:EC n)(hcb:n.base≤n.commit)(mb:MB m)(hl:ms.length<2^17)
    (hK:OdN T I w0 w W bs bm bn bv dr L (xJc n m dr) (ms++xJ2 n m dr) K):Cl Tryz.prog hk 91 [.ptr W 0, .agg (mC m e sv)] w K:=by
  refine in91 (hh.no _ _ _ (by decide) (by decide)) ?_;unfold F91;unfold xJc xJ2 at hK;refine wk_m wk he hs fun b w1 wk1 he1 hs1 x1=>⟨_,_,_,_,_,_,_,_,_,_,_,_,wk1.st.ldN 5 rfl rfl rfl,?_⟩;refine s114 (m:=m) hh wk1 he1 hs1 (by omega) (fun hlt s' out' w2 wk2 x2=>⟨_,rfl,qJ3 ?_⟩) (fun hlt hr s' out' w2 wk2 x2=>⟨_,rfl,qJ3 ?_⟩) fun hlt hr s' out' w2 wk2 x2=>⟨_,rfl,qJ0 ?_⟩
  · rw[if_pos hlt,if_pos hlt]at hK
    obtain⟨wk3,x3⟩:=zJt wk2;exact hK _ _ _ wk3 ((x1.trans x2).trans x3)
  · rw[if_neg hlt,if_pos hr,if_neg hlt,if_pos hr,gQc]at hK
    obtain⟨wk3,x3⟩:=zJt wk2;exact hK _ _ _ wk3 ((x1.trans x2).trans x3)
  rw[if_neg hlt,if_neg hr,if_neg hlt,if_neg hr]at hK;obtain⟨q1,q2,q3,q4,q5,q6,q7⟩:=oJl n m dr;have c3:=ec.base;have c5:=ec.log;have c4:=ec.commit;rw[←q3]at c3;rw[←q5]at c5;rw[←q6]at c4;rw[←q6,←q3]at hcb;clear q1 q2 q3 q4 q5 q6 q7;generalize ledN n m dr=n1 at wk2 hK c3 c4 c5 hcb;have c32:=c3.2;unfold G40 at c32;have mi:=mb.index;have mi2:=mi.2;unfold G40 at mi2;have mr:=mb.round;simp only[onP];refine zJm (fun l w'=>l=[]∧∃s2,Wk T I w0 w' W bs bm bn bv (zJ0 n1 m) s2 out' ms dr ((b, .row (mC m e sv))::L)∧Xt (W::bs::bm::bn::bv::ids L) w (W::bs::bm::bn::bv::b::ids L) w') ?_ fun J hJ=>?_
  · rintro lv w7 ⟨rfl,s2,wk7,x7⟩
    have e1:(zJ0 n1 m).id=n1.id∧(zJ0 n1 m).term=n1.term:=by unfold zJ0;split<;>exact⟨rfl,rfl⟩
    refine⟨rfl,fun _=>⟨_,wk7.st.ld 5 rfl rfl,_,wk7.st.ld 0 rfl rfl,_,wk7.st.ld 5 rfl rfl,?_⟩⟩;refine s92 (m:=⟨[],4,0,0,0,(zJ0 n1 m).commit,0,0,m.round,true,[],[]⟩) hh wk7 Rp.rd.nil Rp.rd.nil (by omega) fun out2 w8 wk8 x8=>⟨rfl,?_⟩;obtain⟨wk9,x9⟩:=zJt wk8;simp only[e1.1,e1.2]at wk9;exact hK _ _ _ wk9 ((x7.trans x8).trans x9)
  · unfold zJ0 at hJ
    refine⟨_,wk2.st.ld 5 rfl rfl,_,wk2.st.ld 0 rfl rfl,qJh (fun hc=>?_) fun hc=>hJ _ _ ⟨rfl,s',by rw[if_neg hc];exact wk2,x1.trans x2⟩⟩;rw[if_pos hc]at hJ
    -- the log first
    refine zJm (fun l w'=>l=[]∧∃v2,Wk T I w0 w' W bs bm bn bv {n1 with log:=if(termAt n1.base n1.bt (n1.log.map (·.1)) m.index).2=true∧(termAt n1.base n1.bt (n1.log.map (·.1)) m.index).1=m.lt then n1.log.drop (m.index - n1.base).toNat else []} {s' with log:=v2} out' ms dr ((b, .row (mC m e sv))::L)∧Xt (W::bs::bm::bn::bv::b::ids L) w2 (W::bs::bm::bn::bv::b::ids L) w') ?_ fun J2 hJ2=>?_
    · rintro lv w3 ⟨rfl,v2,wk3,x3⟩
      refine⟨rfl,fun _=>⟨_,wk3.st.ld 5 rfl rfl,_,wk3.st.ld 5 rfl rfl,qJd (v:=sv) (wk3.st.ld 5 rfl rfl) ⟨_,wk3.st.ld 5 rfl rfl,?_⟩⟩⟩;have hs3:=(hs1.x x2).x x3;refine s55 hh wk3.st.mem hs3 (by have:=mb.snap;omega) fun v4 w4 f4 h4=>?_;obtain⟨st4,x4⟩:=wk3.st.call f4;have hr4:(rL rU).rd (fz T (W::bs::bm::bn::bv::b::ids L)) w4 [v4] m.snap:=h4.rd (fun c hc=>wk3.st.P.new c hc) Chk.flU;refine⟨st4.ld 5 rfl rfl,st4.ld 5 rfl rfl,st4.ld 5 rfl rfl,st4.put 0 rfl (yQk rfl) fun w5 st5 x5=>⟨st5.ld 5 rfl rfl,st5.ld 5 rfl rfl,st5.put 0 rfl (yQk rfl) fun w6 st6 x6=>⟨st6.ld 5 rfl rfl,gd_t hr4.ok1 (st6.put 0 rfl (yQk rfl) fun w7 st7 x7=>⟨st7.ld 5 rfl rfl,st7.put 0 rfl (yQk rfl) fun w8 st8 x8=>?_⟩)⟩⟩⟩;have x48:Xt (W::bs::bm::bn::bv::b::ids L) w4 (W::bs::bm::bn::bv::b::ids L) w8:=Xt.trans (Xt.trans x5 x6) (Xt.trans x7 x8);have wr8:=(wk3.wr.x x4).x x48;exact hJ _ _ ⟨rfl,{s' with log:=v2,snap:=v4},⟨st8,⟨hr4.x x48,wr8.log,wr8.reads,wr8.out⟩,⟨wk3.we.seen,wk3.we.mtch,wk3.we.next,wk3.we.votes⟩⟩,((x1.trans x2).trans x3).trans (Xt.trans x4 x48)⟩
    · refine⟨_,_,_,_,_,_,_,_,_,_,_,_,_,_,_,_,_,_,_,wk2.st.ldN 0 rfl rfl rfl,_,wk2.st.ld 5 rfl rfl,?_⟩
      refine s53 hh wk2.st.mem wk2.nr c3.1 (by omega) (by omega) fun w3 f3=>⟨_,_,rfl,?_⟩;obtain⟨st3,x3⟩:=wk2.st.call f3;have wk3:Wk T I w0 w3 W bs bm bn bv n1 s' out' ms dr ((b, .row (mC m e sv))::L):=⟨st3,wk2.wr.x x3,wk2.we⟩;refine zJm (fun l w'=>∃c:Bool,l=[.bool c]∧w'=w3∧(c=true↔(termAt n1.base n1.bt (n1.log.map (·.1)) m.index).2=true∧(termAt n1.base n1.bt (n1.log.map (·.1)) m.index).1=m.lt)) ?_ fun J3 hJ3=>?_
      · rintro lv w4 ⟨c,rfl,rfl,hc3⟩
        refine⟨_,rfl,fun _=>?_⟩
        cases c with
        | true=>
          have hp:=hc3.1 rfl;rw[if_pos hp]at hJ2;have hle:m.index≤n1.base+n1.log.length:=by
            have ht:=hp.1;unfold termAt at ht;rw[yQr]at ht;split at ht
            · omega
            · split at ht
              · cases ht
              · omega
          obtain⟨k,hkk⟩:∃k:Nat,m.index - n1.base=(k:Int):=yQ8 (by omega);rw[hkk,Int.toNat_natCast]at hJ2;obtain⟨p2,hs2,hp2⟩:=wk3.wr.log.cut (i:=k) (j:=n1.log.length) (by omega) (yQm _) (.inl rfl) (.inr ⟨rfl,rfl⟩);rw[gQi]at hp2;refine qJ3 (qJd (v:=s'.log) (wk3.st.ld 0 rfl rfl) ⟨_,wk3.st.ld 5 rfl rfl,_,wk3.st.ld 0 rfl rfl,?_⟩);rw[qJq (x:=m.index - n1.base) (by omega) (by omega),hkk];refine qJd hs2 (gd_t hp2.ok1 (wk3.st.put 0 rfl (yQk rfl) fun w5 st5 x5=>hJ2 _ _ ⟨rfl,p2,?_,x3.trans x5⟩));have wr5:=wk3.wr.x x5;exact⟨st5,⟨wr5.snap,hp2.x x5,wr5.reads,wr5.out⟩,⟨wk3.we.seen,wk3.we.mtch,wk3.we.next,wk3.we.votes⟩⟩
        | false=>
          have hn:¬ ((termAt n1.base n1.bt (n1.log.map (·.1)) m.index).2=true∧(termAt n1.base n1.bt (n1.log.map (·.1)) m.index).1=m.lt):=fun h=>absurd (hc3.2 h) (by decide);rw[if_neg hn]at hJ2;refine qJ0 (wk3.st.put 0 rfl (yQk rfl) fun w5 st5 x5=>hJ2 _ _ ⟨rfl, .nilslice,?_,x3.trans x5⟩);have wr5:=wk3.wr.x x5;exact⟨st5,⟨wr5.snap,Rp.rd.nil,wr5.reads,wr5.out⟩,⟨wk3.we.seen,wk3.we.mtch,wk3.we.next,wk3.we.votes⟩⟩
      · cases ht:(termAt n1.base n1.bt (n1.log.map (·.1)) m.index).2 with
        | true=>exact qJ3 ⟨_,wk3.st.ld 5 rfl rfl,hJ3 _ _ ⟨_,rfl,rfl,by rw[decide_eq_true_eq];exact⟨fun h=>⟨ht,h⟩,fun h=>h.2⟩⟩⟩
        | false=>exact qJ0 (hJ3 _ _ ⟨false,rfl,rfl,⟨fun h=>(by cases h),fun h=>by rw[ht]at h;cases h.1⟩⟩)
end
end Go.Proofs.YtghoifolghelnaaGreat
/-
 A node takes a message.
 No condition beyond those that each theorem names.
-/
open Go.Sx
namespace Go.Proofs.YtghoifolghelnaaGreat
def srcI(m:Msg):Nat:=(m.src - 1).toNat
def seenN(n:Nd)(m:Msg):Nd:=if m.round≤n.round then {n with seen:=n.seen.set (srcI m) (imax (n.seen.getD (srcI m) 0) m.round)}else n
def nJa(n:Nd)(m:Msg):Nd:={n with next:=n.next.set (srcI m) (imax (imin (n.next.getD (srcI m) 0 - 1) (m.index+1)) (n.mtch.getD (srcI m) 0+1))}
noncomputable def hasN(n:Nd)(m:Msg):Nd:=vJr {n with mtch:=n.mtch.set (srcI m) (imax (n.mtch.getD (srcI m) 0) m.index),next:=n.next.set (srcI m) (imax (n.next.getD (srcI m) 0) (imax (n.mtch.getD (srcI m) 0) m.index+1))}
noncomputable def telN(n:Nd)(m:Msg):Nd:=if m.ok=false then nJa n m else if m.index≤qJi n then hasN n m else n
noncomputable def telM(n:Nd)(m:Msg):List Msg:=if m.ok=false then [gJh (nJa n m) m.src.toNat]else if m.index≤qJi n then(if(hasN n m).next.getD (srcI m) 0≤qJi n then [gJh (hasN n m) m.src.toNat]else [])else []
noncomputable def toldN(n:Nd)(m:Msg):Nd:=if n.role=3∧m.term=n.term then telN (seenN n m) m else n
noncomputable def nJs(n:Nd)(m:Msg):List Msg:=if n.role=3∧m.term=n.term then telM (seenN n m) m else []
theorem wJd {a b c:Int}(h1:a≤c)(h2:b≤c):imax a b≤c:=by unfold imax;split<;>omega
theorem gJq {a b c:Int}(h:c≤a):c≤imax a b:=by unfold imax;split<;>omega
theorem fJ6 {a b c:Int}(h:c≤b):c≤imax a b:=by unfold imax;split<;>omega
theorem imin_le {a b c:Int}(h:a≤c):imin a b≤c:=by unfold imin;split<;>omega
theorem aJi {n:Nd}{k:Nat}{x:Int}{to:Nat}(h:k<n.next.length):xJr {n with next:=n.next.set k x} to=if to - 1=k then x else xJr n to:=by
 unfold xJr;rw[yQj,yQj,gQo];by_cases e:k=to - 1
 ·subst e;rw[if_pos rfl,if_pos h,if_pos rfl];rfl
 ·rw[if_neg e,if_neg (fun h=>e h.symm)]
theorem SC.next_set {n:Nd}{k:Nat}{x:Int}(h:SC n)(hk:k<n.next.length)(hx:1≤x∧x≤qJi n+1):SC {n with next:=n.next.set k x}:=by
 obtain⟨c1,c2,c3,c4,c5,c6,c7⟩:=h;refine⟨c1,c2,c3,c4,c5,by rw[yQ0];exact c6,fun to h1 h2=>?_⟩;rw[aJi hk];split
 ·exact hx
 ·exact c7 to h1 h2
section
variable {hk:Hook}{T A A' B:Nat→Prop}{I:List Nat}{w0 w w':AW}{K:AV→AW→Prop}{n:Nd}{m:Msg}{e sv:AV}{s:Sl}{v out:AV}{W bs bm bn bv:Nat}{ms:List Msg}{dr:Int}{L:Obs}{U U':List Nat}
structure TC(n:Nd):Prop where
 sc:SC n
 ln:Ln n
 commit:0≤n.commit
 mtch:∀x∈n.mtch,0≤x∧x≤qJi n
theorem TC.seen(h:TC n):TC (seenN n m):=by
 unfold seenN;split
 ·obtain⟨⟨a1,a2,a3,a4,a5,a6,a7⟩,⟨l1,l2,l3,l4⟩,c,d⟩:=h;exact⟨⟨a1,a2,a3,a4,a5,a6,a7⟩,⟨l1,l2,l3,by rw[yQ0];exact l4⟩,c,d⟩
 ·exact h
theorem eJz(n:Nd)(m:Msg):(seenN n m).term=n.term∧(seenN n m).size=n.size:=by
 unfold seenN;split<;>exact⟨rfl,rfl⟩
theorem aJ4 {l:List Int}{k:Nat}(h:k<l.length):l.getD k 0∈l:=dJf h
set_option maxRecDepth 20000 in
theorem s90(hh:HK hk)(wk:Wk T I w0 w W bs bm bn bv n s out ms dr L)(he:(rL rE).rd (fz B (W::bs::bm::bn::bv::ids L)) w [e] m.ents)(hs:(rL rU).rd (fz B (W::bs::bm::bn::bv::ids L)) w [sv] m.snap)(hr:n.role=3→TC n)(mb:MB m)(hsz:m.src≤n.size)(hl:ms.length<2^17)
    (hK:OdN T I w0 w W bs bm bn bv dr L (toldN n m) (ms++nJs n m) K):Cl Tryz.prog hk 90 [.ptr W 0, .agg (mC m e sv)] w K:=by
  refine in90 (hh.no _ _ _ (by decide) (by decide)) ?_;unfold F90;unfold toldN nJs at hK;refine wk_m wk he hs fun b w1 wk1 he1 hs1 x1=>?_;have same:¬ (n.role=3∧m.term=n.term)→K (.tup []) w1:=fun hn=>by
    obtain⟨wk2,x2⟩:=zJt wk1;rw[if_neg hn,if_neg hn,gQc]at hK;exact hK _ _ _ wk2 (x1.trans x2)
  simp only[onP];refine⟨_,wk1.st.ld 0 rfl rfl,vJv (fun h3=>same fun h=>h3 h.1) fun h3=>⟨_,wk1.st.ld 5 rfl rfl,_,wk1.st.ld 0 rfl rfl,vJv (fun ht=>same fun h=>ht h.2) fun ht=>?_⟩⟩;rw[if_pos ⟨h3,ht⟩,if_pos ⟨h3,ht⟩]at hK;have tc:=hr h3;have ms1:=mb.src;have mi:=mb.index;have mi2:=mi.2;unfold G40 at mi2;have mr:=mb.round;obtain⟨t,hts⟩:∃t:Nat,m.src=(t:Int):=yQ8 (by omega);have ek:srcI m=t - 1:=by unfold srcI;omega
  have ew:wi (m.src - 1)=((t - 1:Nat):Int):=by rw[qJq (by omega) (by omega)];omega
  have et:m.src.toNat=t:=by omega
  have hszt:(t:Int)≤n.size:=by omega
  refine⟨_,wk1.st.ld 5 rfl rfl,?_⟩;refine zJm (fun l w'=>l=[]∧Wk T I w0 w' W bs bm bn bv (seenN n m) s out ms dr ((b, .row (mC m e sv))::L)∧Xt (W::bs::bm::bn::bv::ids L) w (W::bs::bm::bn::bv::b::ids L) w') ?_ fun J hJ=>?_
  · rintro lv w2 ⟨rfl,wk2,x2⟩
    have tc2:TC (seenN n m):=tc.seen;obtain⟨es1,es2⟩:=eJz n m;rw[←es2]at hszt;generalize seenN n m=n2 at hK wk2 tc2 hszt es1 es2;obtain⟨sc2,ln2,cc2,mm2⟩:=tc2;have c32:=sc2.base;have c33:=c32.2;unfold G40 at c33;have c5:=sc2.log;have hsz9:=sc2.size;have hlast:qJi n2=n2.base+n2.log.length:=rfl;have hkn:t - 1<n2.next.length:=by have:=ln2.next;omega
    have hkm:t - 1<n2.mtch.length:=by have:=ln2.mtch;omega
    have hnx:=sc2.next t (by omega) hszt;have enx:xJr n2 t=n2.next.getD (t - 1) 0:=rfl;rw[enx]at hnx;have hmt:=mm2 _ (aJ4 hkm);have evn:=wk2.we.next;have evm:=wk2.we.mtch;unfold telN telM at hK;refine⟨rfl,fun _=>⟨_,wk2.st.ld 5 rfl rfl,?_⟩⟩
    cases hok:m.ok with
    | false=>
      rw[if_pos hok,if_pos hok,et]at hK;refine qJ3 (qJd (v:=s.next) (wk2.st.ld 0 rfl rfl) (qJd (v:=s.next) (wk2.st.ld 0 rfl rfl) ?_));rw[evn,ew];refine idx0 hkn ⟨_,wk2.st.ld 3 rfl (kJo hkn),_,wk2.st.ld 5 rfl rfl,qJd (v:=s.mtch) (wk2.st.ld 0 rfl rfl) ?_⟩;rw[evm];refine idx0 hkm ⟨_,wk2.st.ld 2 rfl (kJo hkm),idx0 hkn (wk2.st.put 3 rfl (by rw[yQr];simp;omega) fun w3 st3 x3=>⟨_,st3.ld 5 rfl rfl,?_⟩)⟩;rw[qJq (x:=n2.next.getD (t - 1) 0 - 1) (by omega) (by omega),qJq (x:=m.index+1) (by omega) (by omega),qJq (x:=n2.mtch.getD (t - 1) 0+1) (by omega) (by omega)]at st3;have wr3:=wk2.wr.x x3;simp only[stN]at st3;rw[vJ2 hkn]at st3;have wk3:Wk T I w0 w3 W bs bm bn bv (nJa n2 m) s out ms dr ((b, .row (mC m e sv))::L):=by
        unfold nJa;rw[ek];exact⟨st3,⟨wr3.snap,wr3.log,wr3.reads,wr3.out⟩,⟨wk2.we.seen,wk2.we.mtch,by rw[yQ0];exact wk2.we.next,wk2.we.votes⟩⟩
      have sc3:SC (nJa n2 m):=by
        unfold nJa;rw[ek];refine sc2.next_set hkn ⟨fJ6 (by omega),wJd (imin_le (by omega)) (by omega)⟩
      rw[hts];refine s50 hh wk3 sc3 (by omega) hszt (by omega) fun out4 w4 wk4 x4=>⟨rfl,?_⟩;obtain⟨wk5,x5⟩:=zJt wk4;exact hK _ _ _ wk5 ((x2.trans x3).trans (Xt.trans x4 x5))
    | true=>
      have hnk:¬ m.ok=false:=by rw[hok];decide
      rw[if_neg hnk,if_neg hnk]at hK;refine qJ0 ⟨_,wk2.st.ld 5 rfl rfl,_,_,_,_,_,_,_,_,_,_,_,_,_,_,_,_,_,_,_,wk2.st.ldN 0 rfl rfl rfl,?_⟩;refine s36 hh wk2.st.mem wk2.nr c32.1 (by omega) (by omega) fun w3 f3=>⟨_,rfl,?_⟩;obtain⟨st3,x3⟩:=wk2.st.call f3;have wk3:Wk T I w0 w3 W bs bm bn bv n2 s out ms dr ((b, .row (mC m e sv))::L):=⟨st3,wk2.wr.x x3,wk2.we⟩;refine⟨st3.ld 5 rfl rfl,qJh (fun hle=>?_) fun hle=>?_⟩
      · rw[if_pos hle,if_pos hle,et,ek]at hK
        refine qJd (v:=s.mtch) (st3.ld 0 rfl rfl) (qJd (v:=s.mtch) (st3.ld 0 rfl rfl) ?_);rw[evm,ew];refine idx0 hkm ⟨_,st3.ld 2 rfl (kJo hkm),_,st3.ld 5 rfl rfl,idx0 hkm (st3.put 2 rfl (by rw[yQr];simp;omega) fun w4 st4 x4=>?_)⟩;simp only[stN]at st4;rw[vJ2 hkm]at st4;have hkm4:t - 1<(n2.mtch.set (t - 1) (imax (n2.mtch.getD (t - 1) 0) m.index)).length:=by rw[yQ0];exact hkm
        have eg:(n2.mtch.set (t - 1) (imax (n2.mtch.getD (t - 1) 0) m.index)).getD (t - 1) 0=imax (n2.mtch.getD (t - 1) 0) m.index:=by
          rw[yQj,gQo,if_pos rfl,if_pos hkm];rfl
        have bm1:imax (n2.mtch.getD (t - 1) 0) m.index≤qJi n2:=wJd hmt.2 hle;have bm0:0≤imax (n2.mtch.getD (t - 1) 0) m.index:=gJq hmt.1;refine qJd (v:=s.next) (st4.ld 0 rfl rfl) (qJd (v:=s.next) (st4.ld 0 rfl rfl) ?_);rw[evn];refine idx0 hkn ⟨_,st4.ld 3 rfl (kJo hkn),qJd (v:=s.mtch) (st4.ld 0 rfl rfl) ?_⟩;rw[evm];refine idx0 hkm ⟨_,st4.ld 2 rfl (kJo hkm4),idx0 hkn (st4.put 3 rfl (by rw[yQr];simp;omega) fun w5 st5 x5=>?_)⟩;simp only[stN]at st5;rw[eg,qJq (by omega) (by omega),vJ2 hkn]at st5;have wr5:=(wk3.wr.x x4).x x5;have wk5:Wk T I w0 w5 W bs bm bn bv {n2 with mtch:=n2.mtch.set (t - 1) (imax (n2.mtch.getD (t - 1) 0) m.index),next:=n2.next.set (t - 1) (imax (n2.next.getD (t - 1) 0) (imax (n2.mtch.getD (t - 1) 0) m.index+1))} s out ms dr ((b, .row (mC m e sv))::L):=
          ⟨st5,⟨wr5.snap,wr5.log,wr5.reads,wr5.out⟩,⟨wk2.we.seen,by rw[yQ0];exact wk2.we.mtch,by rw[yQ0];exact wk2.we.next,wk2.we.votes⟩⟩
        refine s96 hh wk5 c32 (by show n2.log.length<_;omega) cc2 (fun x hx=>?_) (by rw[yQ0];have:=ln2.mtch;omega) fun w6 wk6 x6=>⟨rfl,?_⟩
        · rcases List.mem_or_eq_of_mem_set hx with h | h
          · have:=mm2 _ h;omega
          · omega
        have eh:vJr {n2 with mtch:=n2.mtch.set (t - 1) (imax (n2.mtch.getD (t - 1) 0) m.index),next:=n2.next.set (t - 1) (imax (n2.next.getD (t - 1) 0) (imax (n2.mtch.getD (t - 1) 0) m.index+1))}=hasN n2 m:=by unfold hasN;rw[ek]
        rw[eh]at wk6;have enn:(hasN n2 m).next=n2.next.set (t - 1) (imax (n2.next.getD (t - 1) 0) (imax (n2.mtch.getD (t - 1) 0) m.index+1)):=by rw[←eh];rfl
        have hkn6:t - 1<(hasN n2 m).next.length:=by rw[enn,yQ0];exact hkn
        have evn6:=wk6.we.next;have sc6:SC (hasN n2 m):=by
          have g:=sc2.next_set (x:=imax (n2.next.getD (t - 1) 0) (imax (n2.mtch.getD (t - 1) 0) m.index+1)) hkn ⟨gJq hnx.1,wJd hnx.2 (by omega)⟩;obtain⟨a1,a2,a3,a4,a5,a6,a7⟩:=g;rw[←eh];exact⟨a1,a2,a3,a4,a5,a6,a7⟩
        have hl6:qJi (hasN n2 m)=qJi n2:=by rw[←eh];rfl
        refine qJd (v:=s.next) (wk6.st.ld 0 rfl rfl) ?_;rw[evn6];refine idx0 hkn6 ⟨_,wk6.st.ld 3 rfl (kJo hkn6),_,_,_,_,_,_,_,_,_,_,_,_,_,_,_,_,_,_,_,wk6.st.ldN 0 rfl rfl rfl,?_⟩;refine s36 hh wk6.st.mem wk6.nr (by rw[←eh];exact c32.1) (by rw[←eh];show n2.base<_;omega) (by rw[←eh];show n2.log.length<_;omega) fun w7 f7=>⟨_,rfl,?_⟩;obtain⟨st7,x7⟩:=wk6.st.call f7;have wk7:Wk T I w0 w7 W bs bm bn bv (hasN n2 m) s out ms dr ((b, .row (mC m e sv))::L):=⟨st7,wk6.wr.x x7,wk6.we⟩;have x07:Xt (W::bs::bm::bn::bv::ids L) w (W::bs::bm::bn::bv::b::ids L) w7:=(((x2.trans x3).trans x4).trans x5).trans (Xt.trans x6 x7);refine⟨st7.ld 3 rfl (kJo hkn6),by rw[←evn6];exact st7.ld 0 rfl rfl,?_⟩;rw[hl6];refine qJh (fun hle2=>?_) fun hle2=>?_
        · rw[if_pos hle2]at hK
          refine⟨_,st7.ld 5 rfl rfl,?_⟩;rw[hts];refine s50 hh wk7 sc6 (by omega) (by rw[←eh];exact hszt) (by omega) fun out4 w8 wk8 x8=>⟨rfl,?_⟩;obtain⟨wk9,x9⟩:=zJt wk8;exact hK _ _ _ wk9 (x07.trans (Xt.trans x8 x9))
        · rw[if_neg hle2,gQc]at hK
          obtain⟨wk9,x9⟩:=zJt wk7;exact hK _ _ _ wk9 (x07.trans x9)
      · rw[if_neg hle,if_neg hle,gQc]at hK
        obtain⟨wk9,x9⟩:=zJt wk3;exact hK _ _ _ wk9 ((x2.trans x3).trans x9)
  · unfold seenN at hJ
    refine⟨_,wk1.st.ld 5 rfl rfl,_,wk1.st.ld 0 rfl rfl,qJh (fun hle=>?_) fun hle=>hJ _ _ ⟨rfl,by rw[if_neg hle];exact wk1,x1⟩⟩;rw[if_pos hle,ek]at hJ;have evs:=wk1.we.seen;have hks:t - 1<n.seen.length:=by have:=tc.ln.seen;omega
    refine qJd (v:=s.seen) (wk1.st.ld 0 rfl rfl) (qJd (v:=s.seen) (wk1.st.ld 0 rfl rfl) ?_);rw[evs,ew];refine idx0 hks ⟨_,wk1.st.ld 1 rfl (kJo hks),_,wk1.st.ld 5 rfl rfl,idx0 hks (wk1.st.put 1 rfl (by rw[yQr];simp;omega) fun w3 st3 x3=>hJ _ _ ⟨rfl,?_,x1.trans x3⟩)⟩;simp only[stN]at st3;rw[vJ2 hks]at st3;have wr3:=wk1.wr.x x3;exact⟨st3,⟨wr3.snap,wr3.log,wr3.reads,wr3.out⟩,⟨by rw[yQ0];exact wk1.we.seen,wk1.we.mtch,wk1.we.next,wk1.we.votes⟩⟩
noncomputable def wJ6(n:Nd)(m:Msg)(dr:Int):Nd:=if m.kind=1 then vJh n m else if m.kind=2 then gJd n m else if m.kind=3 then vJi n m dr else if m.kind=4 then toldN n m else xJc n m dr
noncomputable def yJ3(n:Nd)(m:Msg)(dr:Int):List Msg:=if m.kind=1 then kQb n m else if m.kind=2 then pJh n m else if m.kind=3 then kJf n m dr else if m.kind=4 then nJs n m else xJ2 n m dr
noncomputable def gJf(n:Nd)(m:Msg)(dr:Int):Nd:=wJ6 (if n.term<m.term then followN n m.term dr else n) m dr
noncomputable def fJa(n:Nd)(m:Msg)(dr:Int):List Msg:=yJ3 (if n.term<m.term then followN n m.term dr else n) m dr
def TakR(T:Nat→Prop)(n:Nd)(m:Msg)(dr:Int)(w:AW)(r:AV):Prop:=(¬ (qJl n∧MsgP n m)∧r= .tup [.agg (ndC zNd zSl),.nilslice,.int .i64 2])∨
 ((qJl n∧MsgP n m)∧∃s' out',r= .tup [.agg (ndC (gJf n m dr) s'),out',.int .i64 0]∧NR T w (gJf n m dr) s'∧(rL rM).rd T w [out'] (fJa n m dr))
theorem MsgP.mb(h:MsgP n m)(hsz:n.size≤9)(hl:m.ents.length<2^35):MB m:=⟨⟨h.srcR.1,by have:=h.srcR.2;omega⟩,h.nums.1,h.nums.2.1,h.nums.2.2,hl,vJb h.ents,h.snap⟩
theorem EC.follow {t:Int}(h:EC n):EC (followN n t dr):=by
 obtain⟨h1,h2,h3,h4,h5,h6,h7,⟨l1,l2,l3,l4⟩⟩:=h;unfold followN clearN;split
 ·exact⟨h1,h2,h3,h4,h5,h6,h7,⟨by simp;exact l1,by simp;exact l2,by simp;exact l3,by simp;exact l4⟩⟩
 ·exact⟨h1,h2,h3,h4,h5,h6,h7,⟨by simp;exact l1,by simp;exact l2,by simp;exact l3,by simp;exact l4⟩⟩
theorem xJy(n:Nd)(t dr:Int):(followN n t dr).id=n.id∧(followN n t dr).size=n.size∧(followN n t dr).base=n.base∧(followN n t dr).commit=n.commit∧(followN n t dr).role=1∧(followN n t dr).term=(if n.term<t then t else n.term)∧(followN n t dr).bt=n.bt∧(followN n t dr).log=n.log∧(followN n t dr).snap=n.snap:=by
 unfold followN clearN;split<;>exact⟨rfl,rfl,rfl,rfl,rfl,rfl,rfl,rfl,rfl⟩
theorem qJl.tc(h:qJl n)(hl:n.log.length<2^29)(hr:n.role=3):TC n:=by
 have sc:=h.sc hl hr;have pc:=h.pc hl hr;have hb:=h.base;have hc:=h.commit;exact⟨sc,⟨h.votes,h.next,h.mtch,h.seen⟩,by omega,pc.mt⟩
set_option maxRecDepth 20000 in
theorem s10(hh:HK hk)(hm:Mem w)(hpos:0<w.size)(h:NR A w n s)(sm:Sm n)(hlog:n.log.length<2^29)(he:(rL rE).rd B w [e] m.ents)(hs:(rL rU).rd B w [sv] m.snap)(hk8:0≤m.kind∧m.kind<256)(hel:m.ents.length<2^35)(hK:∀r w',Fr w.size w w'→TakR (Nw w) n m dr w' r→K r w'):Cl Tryz.prog hk 10 [.agg (ndC n s),.agg (mC m e sv),.int .i64 dr] w K:=by
 refine in10 (hh.no _ _ _ (by decide) (by decide)) ?_;unfold F10;have pv:Pv (Nw w) w:=⟨hm,hpos,fun _ h=>h⟩;refine gd_t h.ok (pv.st.new' fun b32 w33 st33 x33=>gd_t (okM he hs) (st33.new' fun b34 w35 st35 x35=>st35.new' fun b36 w37 st37 x37=>?_));have st37:Ow (Nw w) [] w w37 [(b36,.row (ndC zNd zSl)),(b34,.row (mC m e sv)),(b32,.row (ndC n s))]:=st37;refine⟨_,_,_,_,_,_,_,_,_,_,_,_,_,_,_,_,_,_,_,st37.ldN 2 rfl rfl rfl,?_⟩;have nr37:=(h.arg hm st37).outs;have no:∀{w1:AW},Ow (Nw w) [] w w1 [(b36,.row (ndC zNd zSl)),(b34,.row (mC m e sv)),(b32,.row (ndC n s))]→¬ (qJl n∧MsgP n m)→onM (AW.putCells w1 b36 0 (ndC zNd zSl)) fun w_60=>
   ∃r0 r1 r2 r3 r4 r5 r6 r7:Int,∃r8 r9:AV,∃r10:Int,∃r11 r12 r13 r14:AV,∃r15 r16 r17:Int,∃r18:AV,ldN 19 w_60 b36 0=some (.agg [.int .i64 r0,.int .i64 r1,.int .u8 r2,.int .i64 r3,.int .i64 r4,.int .i64 r5,.int .i64 r6,.int .i64 r7,r8,r9,.int .i64 r10,r11,r12,r13,r14,.int .i64 r15,.int .i64 r16,.int .i64 r17,r18])∧
   K (.tup [.agg [.int .i64 r0,.int .i64 r1,.int .u8 r2,.int .i64 r3,.int .i64 r4,.int .i64 r5,.int .i64 r6,.int .i64 r7,r8,r9,.int .i64 r10,r11,r12,r13,r14,.int .i64 r15,.int .i64 r16,.int .i64 r17,r18],.nilslice,.int .i64 2]) w_60:=fun st1 hn=>
  st1.put 0 rfl (yQk rfl) fun w28 st28 x28=>⟨_,_,_,_,_,_,_,_,_,_,_,_,_,_,_,_,_,_,_,st28.ldN 0 rfl rfl rfl,hK _ _ st28.fr (.inl ⟨hn,rfl⟩)⟩
 refine s8 hh st37.mem st37.P0.pos nr37 sm fun c w58 f58 hc=>⟨_,rfl,?_⟩;obtain⟨st58,x58⟩:=st37.call f58
 cases c with
 | false=>exact qJ3 (no st58 fun hr=>absurd (hc.2 hr.1) (by decide))
 | true=>
 have hr:=hc.1 rfl;clear hc;refine qJ0 ⟨_,_,_,_,_,_,_,_,_,_,_,_,_,_,_,_,_,_,_,st58.ldN 2 rfl rfl rfl,_,_,_,_,_,_,_,_,_,_,_,_,st58.ldN 1 rfl rfl rfl,?_⟩;refine s42 (A:=TA) (m:=m) hh st58.mem st58.P0.pos ((h.arg hm st58).xa ⟨fun _ _ _ _ _ d=>⟨trivial,trivial,d⟩⟩) ((st58.arg hm he).xa ⟨fun _ _ _ _ _ d=>⟨trivial,trivial,d⟩⟩) ((st58.arg hm hs).xa ⟨fun _ _ _ _ _ d=>⟨trivial,trivial,d⟩⟩) hk8 (by omega) fun c w112 f112 hc=>⟨_,rfl,?_⟩;obtain⟨st112,x112⟩:=st58.call f112
 cases c with
 | false=>exact qJ3 (no st112 fun hr=>absurd (hc.2 hr.2) (by decide))
 | true=>
 have hp:=hc.1 rfl;clear hc;refine qJ0 ⟨_,_,_,_,_,_,_,_,_,_,_,_,_,_,_,_,_,_,_,st112.ldN 2 rfl rfl rfl,?_⟩;have mb:=hp.mb hr.size.2 hel;refine s43 hh st112 (h.arg hm st112) (hr.bc hlog) fun W bs bm bn bv s1 w6 wk6 x6=>?_;have he6:(rL rE).rd (fz B (W::bs::bm::bn::bv::[b36,b34,b32])) w6 [e] m.ents:=(st112.arg hm he).x x6;have hs6:(rL rU).rd (fz B (W::bs::bm::bn::bv::[b36,b34,b32])) w6 [sv] m.snap:=(st112.arg hm hs).x x6;refine zJm (fun l w'=>l=[]∧∃s2,Wk (Nw w) [] w w' W bs bm bn bv (if n.term<m.term then followN n m.term dr else n) s2 .nilslice [] dr [(b36,.row (ndC zNd zSl)),(b34,.row (mC m e sv)),(b32,.row (ndC n s))]∧Xt (W::bs::bm::bn::bv::[b36,b34,b32]) w6 (W::bs::bm::bn::bv::[b36,b34,b32]) w') ?_ fun J hJ=>?_
 ·rintro lv w7 ⟨rfl,s2,wk7,x7⟩;have he7:=he6.x x7;have hs7:=hs6.x x7;have ec:EC (if n.term<m.term then followN n m.term dr else n):=by
   split
   ·exact(hr.ec hlog).follow
   ·exact hr.ec hlog
  have tc:(if n.term<m.term then followN n m.term dr else n).role=3→TC (if n.term<m.term then followN n m.term dr else n):=by
   split
   ·intro h3;rw[(xJy n m.term dr).2.2.2.2.1]at h3;cases h3
   ·exact hr.tc hlog
  have hcm:=hr.commit;have hbs:=hr.base;have hbs2:=hbs.2;unfold G40 at hbs2;unfold qJi at hcm;have e1:(if n.term<m.term then followN n m.term dr else n).size=n.size∧(if n.term<m.term then followN n m.term dr else n).commit=n.commit∧(if n.term<m.term then followN n m.term dr else n).base=n.base∧¬ (if n.term<m.term then followN n m.term dr else n).term<m.term:=by
   obtain⟨q1,q2,q3,q4,q5,q6,_⟩:=xJy n m.term dr;split
   ·rename_i hlt;rw[if_pos hlt]at q6;exact⟨q2,q4,q3,by omega⟩
   ·rename_i hlt;exact⟨rfl,rfl,rfl,hlt⟩
  have eN:gJf n m dr=wJ6 (if n.term<m.term then followN n m.term dr else n) m dr:=rfl;have eM:fJa n m dr=yJ3 (if n.term<m.term then followN n m.term dr else n) m dr:=rfl;obtain⟨e1,e2,e3,e4⟩:=e1;have hsrc:=hp.srcR;rw[←e1]at hsrc;unfold TakR at hK;rw[eN,eM]at hK;have hcb:(if n.term<m.term then followN n m.term dr else n).commit≤2^41:=by rw[e2];omega
  have hcb2:(if n.term<m.term then followN n m.term dr else n).base≤(if n.term<m.term then followN n m.term dr else n).commit:=by rw[e2,e3];omega
  generalize(if n.term<m.term then followN n m.term dr else n)=n1 at wk7 ec tc e4 hsrc hK hcb hcb2;refine⟨rfl,fun _=>⟨_,wk7.st.ld 6 rfl rfl,_,_,_,_,_,_,_,_,_,_,_,_,wk7.st.ldN 6 rfl rfl rfl,?_⟩⟩;have fin:∀{w8:AW} {s8:Sl} {o8:AV},Wk (Nw w) [] w w8 W bs bm bn bv (wJ6 n1 m dr) s8 o8 (yJ3 n1 m dr) dr [(b36,.row (ndC zNd zSl)),(b34,.row (mC m e sv)),(b32,.row (ndC n s))]→
    ∃x0 x1 x2 x3 x4 x5 x6 x7:Int,∃x8 x9:AV,∃x10:Int,∃x11 x12 x13 x14:AV,∃x15 x16 x17:Int,∃x18:AV,ldN 19 w8 W (0+0)=some (.agg [.int .i64 x0,.int .i64 x1,.int .u8 x2,.int .i64 x3,.int .i64 x4,.int .i64 x5,.int .i64 x6,.int .i64 x7,x8,x9,.int .i64 x10,x11,x12,x13,x14,.int .i64 x15,.int .i64 x16,.int .i64 x17,x18])∧
    onM (ld w8 W (0+19)) fun x_198=>gd (List.all [.int .i64 x0,.int .i64 x1,.int .u8 x2,.int .i64 x3,.int .i64 x4,.int .i64 x5,.int .i64 x6,.int .i64 x7,x8,x9,.int .i64 x10,x11,x12,x13,x14,.int .i64 x15,.int .i64 x16,.int .i64 x17,x18] qJc) (onM (AW.putCells w8 b36 0 [.int .i64 x0,.int .i64 x1,.int .u8 x2,.int .i64 x3,.int .i64 x4,.int .i64 x5,.int .i64 x6,.int .i64 x7,x8,x9,.int .i64 x10,x11,x12,x13,x14,.int .i64 x15,.int .i64 x16,.int .i64 x17,x18]) fun w_199=>
    ld w_199 W (0+19)=some x_198∧∃r0 r1 r2 r3 r4 r5 r6 r7:Int,∃r8 r9:AV,∃r10:Int,∃r11 r12 r13 r14:AV,∃r15 r16 r17:Int,∃r18:AV,ldN 19 w_199 b36 0=some (.agg [.int .i64 r0,.int .i64 r1,.int .u8 r2,.int .i64 r3,.int .i64 r4,.int .i64 r5,.int .i64 r6,.int .i64 r7,r8,r9,.int .i64 r10,r11,r12,r13,r14,.int .i64 r15,.int .i64 r16,.int .i64 r17,r18])∧
    K (.tup [.agg [.int .i64 r0,.int .i64 r1,.int .u8 r2,.int .i64 r3,.int .i64 r4,.int .i64 r5,.int .i64 r6,.int .i64 r7,r8,r9,.int .i64 r10,r11,r12,r13,r14,.int .i64 r15,.int .i64 r16,.int .i64 r17,r18],x_198,.int .i64 0]) w_199):=fun {w8 s8 o8} wk8=>by
   obtain⟨st8,wr8,we8⟩:=id wk8;refine⟨_,_,_,_,_,_,_,_,_,_,_,_,_,_,_,_,_,_,_,st8.ldN 0 rfl rfl rfl,qJd (v:=o8) (st8.ld 0 rfl rfl) (gd_t (wr8.okN we8) (st8.put 5 rfl (yQk rfl) fun w9 st9 x9=>⟨st9.ld 0 rfl rfl,_,_,_,_,_,_,_,_,_,_,_,_,_,_,_,_,_,_,_,st9.ldN 5 rfl rfl rfl,?_⟩))⟩;have wr9:=wr8.x x9;exact hK _ _ st9.fr (.inr ⟨⟨hr,hp⟩,s8,o8,rfl,rJ0 1 2 3 4 st9 wr9 we8 rfl rfl rfl rfl,wr9.out.out⟩)
  have hkd:=hp.kind;have ekd:m.kind=1∨m.kind=2∨m.kind=3∨m.kind=4∨m.kind=5:=by omega
  have fst:∀(f:Nat),(bJt Tryz.prog 119 (.agg [(.func 87 [.ptr W 0] []),(.func 88 [.ptr W 0] []),(.func 89 [.ptr W 0] []),(.func 90 [.ptr W 0] []),(.func 91 [.ptr W 0] [])]) (.int .u8 (IntKind.wrap .u8 (m.kind - 1))))=some (.func f [.ptr W 0] [])→(∀G:AV→AW→Prop,OdN (Nw w) [] w w7 W bs bm bn bv dr [(b36,.row (ndC zNd zSl)),(b34,.row (mC m e sv)),(b32,.row (ndC n s))] (wJ6 n1 m dr) (yJ3 n1 m dr) G→Cl Tryz.prog hk f [.ptr W 0,.agg (mC m e sv)] w7 G)→Cl Tryz.prog hk 45 [.ptr W 0,.int .u8 m.kind] w7 fun r_171 w_172=>
    ldN 12 w_172 b34 0=some (.agg (mC m e sv))∧Cv Tryz.prog hk r_171 [.agg (mC m e sv)] w_172 fun r_173 w_174=>r_173= .tup []∧∃x0 x1 x2 x3 x4 x5 x6 x7:Int,∃x8 x9:AV,∃x10:Int,∃x11 x12 x13 x14:AV,∃x15 x16 x17:Int,∃x18:AV,ldN 19 w_174 W (0+0)=some (.agg [.int .i64 x0,.int .i64 x1,.int .u8 x2,.int .i64 x3,.int .i64 x4,.int .i64 x5,.int .i64 x6,.int .i64 x7,x8,x9,.int .i64 x10,x11,x12,x13,x14,.int .i64 x15,.int .i64 x16,.int .i64 x17,x18])∧
    onM (ld w_174 W (0+19)) fun x_198=>gd (List.all [.int .i64 x0,.int .i64 x1,.int .u8 x2,.int .i64 x3,.int .i64 x4,.int .i64 x5,.int .i64 x6,.int .i64 x7,x8,x9,.int .i64 x10,x11,x12,x13,x14,.int .i64 x15,.int .i64 x16,.int .i64 x17,x18] qJc) (onM (AW.putCells w_174 b36 0 [.int .i64 x0,.int .i64 x1,.int .u8 x2,.int .i64 x3,.int .i64 x4,.int .i64 x5,.int .i64 x6,.int .i64 x7,x8,x9,.int .i64 x10,x11,x12,x13,x14,.int .i64 x15,.int .i64 x16,.int .i64 x17,x18]) fun w_199=>
    ld w_199 W (0+19)=some x_198∧∃r0 r1 r2 r3 r4 r5 r6 r7:Int,∃r8 r9:AV,∃r10:Int,∃r11 r12 r13 r14:AV,∃r15 r16 r17:Int,∃r18:AV,ldN 19 w_199 b36 0=some (.agg [.int .i64 r0,.int .i64 r1,.int .u8 r2,.int .i64 r3,.int .i64 r4,.int .i64 r5,.int .i64 r6,.int .i64 r7,r8,r9,.int .i64 r10,r11,r12,r13,r14,.int .i64 r15,.int .i64 r16,.int .i64 r17,r18])∧
    K (.tup [.agg [.int .i64 r0,.int .i64 r1,.int .u8 r2,.int .i64 r3,.int .i64 r4,.int .i64 r5,.int .i64 r6,.int .i64 r7,r8,r9,.int .i64 r10,r11,r12,r13,r14,.int .i64 r15,.int .i64 r16,.int .i64 r17,r18],x_198,.int .i64 0]) w_199):=fun f hf hcl=>by
   refine in45 (hh.no _ _ _ (by decide) (by decide)) ?_;unfold F45;refine qJd hf ⟨wk7.st.ldN 6 rfl rfl rfl,?_⟩;exact hcl _ fun s8 o8 w8 wk8 x8=>⟨rfl,fin wk8⟩
  simp only[onP];rcases ekd with hk1 | hk1 | hk1 | hk1 | hk1
  ·refine fst 87 (by rw[hk1];kernel_rfl) fun G hG=>s87 (m:=m) hh wk7 he7 hs7 ec e4 (by simp) ?_;unfold wJ6 yJ3 at hG;rw[if_pos hk1,if_pos hk1]at hG;exact hG
  ·refine fst 88 (by rw[hk1];kernel_rfl) fun G hG=>s88 (m:=m) hh wk7 he7 hs7 ec hsrc (by simp) ?_;unfold wJ6 yJ3 at hG;rw[if_neg (by omega),if_pos hk1,if_neg (by omega),if_pos hk1]at hG;exact hG
  ·refine fst 89 (by rw[hk1];kernel_rfl) fun G hG=>s89 (m:=m) hh wk7 he7 hs7 ec hcb mb (by simp) ?_;unfold wJ6 yJ3 at hG;rw[if_neg (by omega),if_neg (by omega),if_pos hk1,if_neg (by omega),if_neg (by omega),if_pos hk1]at hG;exact hG
  ·refine fst 90 (by rw[hk1];kernel_rfl) fun G hG=>s90 (m:=m) hh wk7 he7 hs7 tc mb hsrc.2 (by simp) ?_;unfold wJ6 yJ3 at hG;rw[if_neg (by omega),if_neg (by omega),if_neg (by omega),if_pos hk1,if_neg (by omega),if_neg (by omega),if_neg (by omega),if_pos hk1]at hG;exact hG
  ·refine fst 91 (by rw[hk1];kernel_rfl) fun G hG=>s91 (m:=m) hh wk7 he7 hs7 ec hcb2 mb (by simp) ?_;unfold wJ6 yJ3 at hG;rw[if_neg (by omega),if_neg (by omega),if_neg (by omega),if_neg (by omega),if_neg (by omega),if_neg (by omega),if_neg (by omega),if_neg (by omega)]at hG;exact hG
 ·refine⟨_,wk6.st.ld 6 rfl rfl,_,wk6.st.ld 7 rfl rfl,qJh (fun hlt=>?_) fun hlt=>hJ _ _ ⟨rfl,s1,by rw[if_neg hlt];exact wk6,Xt.refl⟩⟩;rw[if_pos hlt]at hJ;exact⟨_,wk6.st.ld 6 rfl rfl,s44 hh wk6 fun s2 w7 wk7 x7=>⟨rfl,hJ _ _ ⟨rfl,s2,wk7,x7⟩⟩⟩
end
end Go.Proofs.YtghoifolghelnaaGreat
