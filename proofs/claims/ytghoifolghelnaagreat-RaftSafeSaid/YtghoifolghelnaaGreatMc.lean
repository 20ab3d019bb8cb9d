/-
 Propose,over memory.
 No condition beyond those that each theorem names.
-/
import Derived.Test.YtghoifolghelnaaGreatMb
import Derived.Test.YtghoifolghelnaaGreatSxu
import Derived.Test.YtghoifolghelnaaGreatProg
import Derived.KernelRfl
set_option linter.unusedSimpArgs false
set_option linter.unusedVariables false
open Go.Sx
namespace Go.Proofs.YtghoifolghelnaaGreat
abbrev zNd:Nd:=⟨0,0,0,0,0,0,0,0,[],[],0,[],[],[],[],0,0,0,[]⟩
abbrev zSl:Sl:=⟨.nilslice,.nilslice,.nilslice,.nilslice,.nilslice,.nilslice,.nilslice⟩
theorem vJb:∀{l:List Ent} {low high:Int},risP low high l→∀e∈l,e.2.length≤60000
  | [],_,_,_=>fun e h=>by cases h
  | x::l,_,_,⟨_,h2,h3⟩=>fun e h=>by
    rcases yQw.1 h with rfl | h
    · exact h2
    · exact vJb h3 e h
section
variable {hk:Hook}{T A A' B:Nat→Prop}{I:List Nat}{w0 w w':AW}{K:AV→AW→Prop}{n:Nd}{s:Sl}{v out:AV}{W bs bm bn bv:Nat}{ms:List Msg}{dr:Int}{L:Obs}{U U':List Nat}
theorem qJl.bc(h:qJl n)(hl:n.log.length<2^29):BC n:=⟨h.size,by omega,vJb h.log,h.snap,h.reads.2,⟨h.votes,h.next,h.mtch,h.seen⟩⟩
theorem qJl.pc(h:qJl n)(hl:n.log.length<2^29)(hr:n.role=3):PC n:=by
 have hro:=(rol3 hr).1 h.roles;exact⟨h.size.2,h.id,h.base,by have:=h.commit;have:=h.base;omega,hl,vJb h.log,h.snap,h.next,h.mtch,hro.2.2.1,hro.2.2.2.1⟩
theorem NR.arg(h:NR A w n s)(hm:Mem w)(st:Ow T [] w w' L):NR (fz A (ids L)) w' n s:=⟨st.arg hm h.snap,st.arg hm h.log,st.arg hm h.votes,st.arg hm h.next,st.arg hm h.mtch,st.arg hm h.seen,st.arg hm h.reads⟩
theorem NR.outs(h:NR (fz T U) w n s):NR T w n s:=⟨h.snap.out,h.log.out,h.votes.out,h.next.out,h.mtch.out,h.seen.out,h.reads.out⟩
open Classical in
noncomputable def proE(n:Nd)(d:Byts):Int:=if ¬ qJl n then 2 else if n.role≠3 then 220 else if 60000<d.length then 3 else if 4096≤n.log.length then 5 else 0
def ProR(T:Nat→Prop)(n:Nd)(d:Byts)(w:AW)(r:AV):Prop:=(proE n d≠0∧r= .tup [.agg (ndC zNd zSl),.int .i64 0,.nilslice,.int .i64 (proE n d)])∨
 (qJl n∧proE n d=0∧∃s' out',r= .tup [.agg (ndC (putN n d) s'),.int .i64 (qJi (putN n d)),out',.int .i64 0]∧NR T w (putN n d) s'∧(rL rM).rd T w [out'] (xJt (putN n d) n.size.toNat))
set_option maxRecDepth 20000 in
theorem s13 {d:Byts}{dv:AV}(hh:HK hk)(hm:Mem w)(hpos:0<w.size)(h:NR A w n s)(sm:Sm n)(hd:(rL rU).rd B w [dv] d)(hK:∀r w',Fr w.size w w'→ProR (Nw w) n d w' r→K r w'):Cl Tryz.prog hk 13 [.agg (ndC n s),dv] w K:=by
  refine in13 (hh.no _ _ _ (by decide) (by decide)) ?_;unfold F13;have pv:Pv (Nw w) w:=⟨hm,hpos,fun _ h=>h⟩;refine gd_t h.ok (pv.st.new' fun b20 w21 st21 x21=>st21.new' fun b22 w23 st23 x23=>?_);have st23:Ow (Nw w) [] w w23 [(b22, .row (ndC zNd zSl)),(b20, .row (ndC n s))]:=st23;refine zJm (fun l w'=>l=[.int .i64 (proE n d)]∧Ow (Nw w) [] w w' [(b22, .row (ndC zNd zSl)),(b20, .row (ndC n s))]) ?_ fun J hJ=>?_
  · rintro l w25 ⟨rfl,st25⟩
    refine⟨_,rfl,fun _=>vJv (fun h0=>?_) fun h0=>?_⟩
    · refine st25.put 0 rfl (yQk rfl) fun w28 st28 x28=>⟨_,_,_,_,_,_,_,_,_,_,_,_,_,_,_,_,_,_,_,st28.ldN 0 rfl rfl rfl,?_⟩
      exact hK _ _ st28.fr (.inl ⟨h0,rfl⟩)
    · have hall:qJl n∧n.role=3∧d.length≤60000∧n.log.length<4096:=by
        unfold proE at h0;split at h0
        · cases h0
        · rename_i h1
          split at h0
          · cases h0
          · rename_i h2
            split at h0
            · cases h0
            · rename_i h3
              split at h0
              · cases h0
              · rename_i h4
                exact⟨by simpa using h1,by simpa using h2,by omega,by omega⟩
      obtain⟨g1,g2,g3,g4⟩:=hall;have pc:=g1.pc (by omega) g2;refine⟨_,_,_,_,_,_,_,_,_,_,_,_,_,_,_,_,_,_,_,st25.ldN 1 rfl rfl rfl,?_⟩;refine s43 hh st25 (h.arg hm st25) (g1.bc (by omega)) fun W bs bm bn bv s1 w68 wk68 x68=>?_;refine s52 hh wk68 pc (wk68.st.arg hm hd).out g3 (by simp) fun s2 out2 w70 wk70 x70=>⟨rfl,?_⟩;rw[List.nil_append]at wk70;simp only[onP];obtain⟨st70,wr70,we70⟩:=id wk70;have hb:=g1.base.2;unfold G40 at hb;have hlen:(putN n d).log.length<2^40:=by show(n.log++[(n.term,d)]).length<_;simp;omega
      refine⟨_,_,_,_,_,_,_,_,_,_,_,_,_,_,_,_,_,_,_,st70.ldN 0 rfl rfl rfl,_,_,_,_,_,_,_,_,_,_,_,_,_,_,_,_,_,_,_,st70.ldN 0 rfl rfl rfl,qJd (v:=out2) (st70.ld 0 rfl rfl) ?_⟩;refine s36 hh st70.mem wk70.nr g1.base.1 (by show n.base<_;omega) hlen fun w117 f117=>⟨_,rfl,?_⟩;obtain⟨st117,x117⟩:=st70.call f117;refine⟨st117.ld 0 rfl rfl,st117.ldN 0 rfl rfl rfl,gd_t (wr70.okN we70) (st117.put 5 rfl (yQk rfl) fun w119 st119 x119=>⟨st119.ld 0 rfl rfl,_,_,_,_,_,_,_,_,_,_,_,_,_,_,_,_,_,_,_,st119.ldN 5 rfl rfl rfl,?_⟩)⟩;have wr119:=(wr70.x x117).x x119;exact hK _ _ st119.fr (.inr ⟨g1,h0,s2,out2,rfl,rJ0 1 2 3 4 st119 wr119 we70 rfl rfl rfl rfl,wr119.out.out⟩)
  · refine⟨_,_,_,_,_,_,_,_,_,_,_,_,_,_,_,_,_,_,_,st23.ldN 1 rfl rfl rfl,?_⟩
    have nr23:=(h.arg hm st23).outs;refine s8 hh st23.mem st23.P0.pos nr23 sm fun c w5 f5 hc=>⟨_,rfl,?_⟩;obtain⟨st5,x5⟩:=st23.call f5;have nr5:=(h.arg hm st5).outs
    cases c with
    | false=>
      have hn:¬ qJl n:=fun hr=>absurd (hc.2 hr) (by decide);exact qJ3 (hJ _ _ ⟨by unfold proE;rw[if_pos hn],st5⟩)
    | true=>
      have hr:=hc.1 rfl;refine qJ0 ⟨_,st5.ld 1 rfl rfl,vJv (fun h2=>hJ _ _ ⟨by unfold proE;rw[if_neg (not_not_intro hr),if_pos h2],st5⟩) fun h2=>⟨_,(st5.arg hm hd).len',qJh (fun h3=>hJ _ _ ⟨by unfold proE;rw[if_neg (not_not_intro hr),if_neg (not_not_intro h2),if_pos (by omega)],st5⟩) fun h3=>qJd (v:=s.log) (st5.ld 1 rfl rfl) ⟨_,nr5.log.len',qJh (fun h4=>hJ _ _ ⟨by unfold proE;rw[if_neg (not_not_intro hr),if_neg (not_not_intro h2),if_neg (by omega),if_pos (by omega)],st5⟩) fun h4=>hJ _ _ ⟨by unfold proE;rw[if_neg (not_not_intro hr),if_neg (not_not_intro h2),if_neg (by omega),if_neg (by omega)],st5⟩⟩⟩⟩
end
end Go.Proofs.YtghoifolghelnaaGreat
/-
 Read and Sure,over memory.
 No condition beyond those that each theorem names.
-/
open Go.Sx
namespace Go.Proofs.YtghoifolghelnaaGreat
section
variable {hk:Hook}{T A A' B:Nat→Prop}{I:List Nat}{w0 w w':AW}{K:AV→AW→Prop}{n:Nd}{s:Sl}{v out:AV}{W bs bm bn bv:Nat}{ms:List Msg}{dr:Int}{L:Obs}{U U':List Nat}
theorem qJl.sc(h:qJl n)(hl:n.log.length<2^29)(hr:n.role=3):SC n:=by
 have hro:=(rol3 hr).1 h.roles;refine⟨h.size.2,h.base,by omega,vJb h.log,h.snap,h.next,fun to h1 h2=>?_⟩;have:=h.next;exact hro.2.2.1 _ (dJf (by omega))
def kJa(n:Nd)(id:Int):Nd:={n with round:=n.round+1,seen:=n.seen.set (n.id - 1).toNat (n.round+1),reads:=n.reads++[(id,n.commit,n.round+1)]}
def rJ1(n:Nd):Prop:=n.role≠3∨(termAt n.base n.bt (n.log.map (·.1)) n.commit).1≠n.term
open Classical in
noncomputable def reaE(n:Nd):Int:=if ¬ qJl n then 2 else if rJ1 n then 220 else if 64≤n.reads.length then 5 else if n.round=G40 then 5 else 0
def ReaR(T:Nat→Prop)(n:Nd)(id:Int)(w:AW)(r:AV):Prop:=(reaE n≠0∧r= .tup [.agg (ndC zNd zSl),.nilslice,.int .i64 (reaE n)])∨
 (qJl n∧reaE n=0∧∃s' out',r= .tup [.agg (ndC (kJa n id) s'),out',.int .i64 0]∧NR T w (kJa n id) s'∧(rL rM).rd T w [out'] (xJt (kJa n id) n.size.toNat))
set_option maxRecDepth 20000 in
theorem s14 {id:Int}(hh:HK hk)(hm:Mem w)(hpos:0<w.size)(h:NR A w n s)(sm:Sm n)(hlog:n.log.length<2^29)(hK:∀r w',Fr w.size w w'→ReaR (Nw w) n id w' r→K r w'):Cl Tryz.prog hk 14 [.agg (ndC n s), .int .i64 id] w K:=by
  refine in14 (hh.no _ _ _ (by decide) (by decide)) ?_;unfold F14;have pv:Pv (Nw w) w:=⟨hm,hpos,fun _ h=>h⟩;refine gd_t h.ok (pv.st.new' fun b20 w21 st21 x21=>st21.new' fun b22 w23 st23 x23=>?_);have st23:Ow (Nw w) [] w w23 [(b22, .row (ndC zNd zSl)),(b20, .row (ndC n s))]:=st23;have nr23:=(h.arg hm st23).outs;have err:∀{w':AW} {e:Int},Ow (Nw w) [] w w' [(b22, .row (ndC zNd zSl)),(b20, .row (ndC n s))]→reaE n=e→e≠0→onM (AW.putCells w' b22 0 (ndC zNd zSl)) fun w_46=>
   ∃res_47 res_48 res_49 res_50 res_51 res_52 res_53 res_54:Int,∃res_55 res_56:AV,∃res_57:Int,∃res_58 res_59 res_60 res_61:AV,∃res_62 res_63 res_64:Int,∃res_65:AV,ldN 19 w_46 b22 0=some (.agg [(.int .i64 res_47),(.int .i64 res_48),(.int .u8 res_49),(.int .i64 res_50),(.int .i64 res_51),(.int .i64 res_52),(.int .i64 res_53),(.int .i64 res_54),res_55,res_56,(.int .i64 res_57),res_58,res_59,res_60,res_61,(.int .i64 res_62),(.int .i64 res_63),(.int .i64 res_64),res_65])∧
   K (.tup [(.agg [(.int .i64 res_47),(.int .i64 res_48),(.int .u8 res_49),(.int .i64 res_50),(.int .i64 res_51),(.int .i64 res_52),(.int .i64 res_53),(.int .i64 res_54),res_55,res_56,(.int .i64 res_57),res_58,res_59,res_60,res_61,(.int .i64 res_62),(.int .i64 res_63),(.int .i64 res_64),res_65]), .nilslice,(.int .i64 e)]) w_46:=by
    intro w' e st' he h0;refine st'.put 0 rfl (yQk rfl) fun w28 st28 x28=>⟨_,_,_,_,_,_,_,_,_,_,_,_,_,_,_,_,_,_,_,st28.ldN 0 rfl rfl rfl,?_⟩;exact hK _ _ st28.fr (.inl ⟨by rw[he];exact h0,by rw[he]⟩)
  refine⟨_,_,_,_,_,_,_,_,_,_,_,_,_,_,_,_,_,_,_,st23.ldN 1 rfl rfl rfl,?_⟩;refine s8 hh st23.mem st23.P0.pos nr23 sm fun c w5 f5 hc=>⟨_,rfl,?_⟩;obtain⟨st5,x5⟩:=st23.call f5;have nr5:=(h.arg hm st5).outs
  cases c with
  | false=>
    have hn:¬ qJl n:=fun hr=>absurd (hc.2 hr) (by decide);exact qJ3 (err st5 (by unfold reaE;rw[if_pos hn]) (by decide))
  | true=>
  have hr:=hc.1 rfl;have hb:=hr.base.2;unfold G40 at hb;refine qJ0 ⟨_,_,_,_,_,_,_,_,_,_,_,_,_,_,_,_,_,_,_,st5.ldN 1 rfl rfl rfl,_,st5.ld 1 rfl rfl,?_⟩;refine s53 hh st5.mem nr5 hr.base.1 (by omega) sm.log fun w6 f6=>⟨_,_,rfl,?_⟩;obtain⟨st6,x6⟩:=st5.call f6;refine zJm (fun l w'=>w'=w6∧∃c:Bool,l=[.bool c]∧(c=true↔rJ1 n)) ?_ fun J hJ=>?_
  · rintro l w7 ⟨rfl,c,rfl,hc7⟩
    refine⟨_,rfl,fun _=>?_⟩
    cases c with
    | true=>exact qJ3 (err st6 (by unfold reaE;rw[if_neg (not_not_intro hr),if_pos (hc7.1 rfl)]) (by decide))
    | false=>
    have hnl:¬ rJ1 n:=fun hx=>absurd (hc7.2 hx) (by decide);have hrole:n.role=3:=Decidable.byContradiction fun hx=>hnl (.inl hx);have nr7:=(h.arg hm st6).outs;refine qJ0 (qJd (v:=s.reads) (st6.ld 1 rfl rfl) ⟨_,nr7.reads.len',qJh (fun h64=>err st6 (by unfold reaE;rw[if_neg (not_not_intro hr),if_neg hnl,if_pos (by omega)]) (by decide)) fun h64=>⟨_,st6.ld 1 rfl rfl,qJh (fun hg=>err st6 (by unfold reaE;rw[if_neg (not_not_intro hr),if_neg hnl,if_neg (by omega),if_pos hg]) (by decide)) fun hg=>?_⟩⟩);have h0:reaE n=0:=by unfold reaE;rw[if_neg (not_not_intro hr),if_neg hnl,if_neg (by omega),if_neg hg]
    have hro:=hr.round;have hro2:=hro.2;unfold G40 at hro2;have hid:=hr.id;have hsz:=hr.size;have hseen:=hr.seen;have hrl:=hr.reads.2;refine⟨_,_,_,_,_,_,_,_,_,_,_,_,_,_,_,_,_,_,_,st6.ldN 1 rfl rfl rfl,?_⟩;refine s43 hh st6 (h.arg hm st6) (hr.bc hlog) fun W bs bm bn bv s1 w8 wk8 x8=>?_;obtain⟨st8,wr8,we8⟩:=wk8;simp only[onP];refine⟨_,st8.ld 0 rfl rfl,st8.put 0 rfl (yQk rfl) fun w9 st9 x9=>?_⟩;rw[qJq (x:=n.round+1) (by omega) (by omega)]at st9;refine qJd (v:=s1.seen) (st9.ld 0 rfl rfl) ⟨_,st9.ld 6 rfl rfl,_,st9.ld 0 rfl rfl,?_⟩;obtain⟨k,hkk⟩:∃k:Nat,n.id - 1=(k:Int):=yQ8 (by omega);have hk1:k<n.seen.length:=by omega
    rw[we8.seen,qJq (x:=n.id - 1) (by omega) (by omega),hkk];refine idx0 hk1 (st9.put 1 rfl (by rw[yQr];simp;omega) fun w10 st10 x10=>qJd (v:=s1.reads) (st10.ld 0 rfl rfl) ⟨_,st10.ld 6 rfl rfl,_,st10.ld 0 rfl rfl,?_⟩);have ek:k=(n.id - 1).toNat:=by omega
    subst ek;have st10:Ow (Nw w) [] w w10 (wkL W bs bm bn bv {n with round:=n.round+1,seen:=n.seen.set (n.id - 1).toNat (n.round+1)} s1 .nilslice 0 [(b22, .row (ndC zNd zSl)),(b20, .row (ndC n s))]):=by
      have:=st10;simp only[stN]at this;rw[vJ2 hk1]at this;exact this
    have wr10:=(wr8.x x9).x x10;refine st10.new' fun b201 w11 st11 x11=>gd_t wr10.reads.ok1 (st11.new' fun b203 w12 st12 x12=>⟨st12.ld 2 rfl rfl,st12.ld 8 rfl rfl,st12.ld 2 rfl rfl,?_⟩);obtain⟨st13,x13,_,hb203⟩:=st12.drop;obtain⟨st14,x14,hA201,hb201⟩:=st13.drop;have xx:Xt (W::bs::bm::bn::bv::[b22,b20]) w10 (W::bs::bm::bn::bv::[b22,b20]) w12:=(x11.trans x12).trans (x13.trans x14);have hg14:=wr10.reads.x xx;have hbx:Box w12 b201 [.int .i64 id, .int .i64 n.commit, .int .i64 (n.round+1)]:=hb201;refine s54 hh st14.mem st14.P0.pos hb203 hg14 (Box.rd1 (y:=(id,n.commit,n.round+1)) hbx hA201 rfl) (by simp) (by simp;omega) fun v15 w15 f15 hv15=>?_;obtain⟨st15,x15⟩:=st14.call f15;have hg15:(rL rG).rd (fz (Nw w) (W::bs::bm::bn::bv::[b22,b20])) w15 [v15] (n.reads++[(id,n.commit,n.round+1)]):=hv15 _ (fun b hb=>st14.P.new b hb) fun _ _ h=>h.xa Xa.refl;refine gd_t hg15.ok1 (st15.put 0 rfl (yQk rfl) fun w16 st16 x16=>?_);have wr16:=((wr10.x xx).x x15).x x16;have wk16:Wk (Nw w) [] w w16 W bs bm bn bv (kJa n id) {s1 with reads:=v15} .nilslice [] 0 [(b22, .row (ndC zNd zSl)),(b20, .row (ndC n s))]:=⟨st16,⟨wr16.snap,wr16.log,hg15.x x16,wr16.out⟩,⟨by show s1.seen= .slice bs 0 (n.seen.set _ _).length (n.seen.set _ _).length _;rw[yQ0];exact we8.seen,we8.mtch,we8.next,we8.votes⟩⟩;have sc:=hr.sc hlog hrole;refine s49 hh wk16 ⟨sc.size,sc.base,sc.log,sc.data,sc.snap,sc.len,sc.next⟩ (by simp) fun out17 w17 wk17 x17=>⟨rfl,?_⟩;rw[List.nil_append]at wk17;obtain⟨st17,wr17,we17⟩:=wk17;refine⟨_,_,_,_,_,_,_,_,_,_,_,_,_,_,_,_,_,_,_,st17.ldN 0 rfl rfl rfl,qJd (v:=out17) (st17.ld 0 rfl rfl) (gd_t (wr17.okN we17) (st17.put 5 rfl (yQk rfl) fun w18 st18 x18=>⟨st18.ld 0 rfl rfl,_,_,_,_,_,_,_,_,_,_,_,_,_,_,_,_,_,_,_,st18.ldN 5 rfl rfl rfl,?_⟩))⟩;have wr18:=wr17.x x18;exact hK _ _ st18.fr (.inr ⟨hr,h0,_,out17,rfl,rJ0 1 2 3 4 st18 wr18 we17 rfl rfl rfl rfl,wr18.out.out⟩)
  · refine⟨_,st6.ld 1 rfl rfl,vJv (fun h3=>hJ _ _ ⟨rfl,true,rfl,iff_of_true rfl (.inl h3)⟩) fun h3=>⟨_,st6.ld 1 rfl rfl,hJ _ _ ⟨rfl,_,rfl,?_⟩⟩⟩
    unfold rJ1;rw[Bool.not_eq_true',decide_eq_false_iff_not];exact⟨fun hx=> .inr hx,fun hx=>hx.resolve_left (not_not_intro h3)⟩
end
end Go.Proofs.YtghoifolghelnaaGreat
/-
 Sure,Compact and New,over memory.
 No condition beyond those that each theorem names.
-/
open Go.Sx
namespace Go.Proofs.YtghoifolghelnaaGreat
section
variable {hk:Hook}{T A A' B:Nat→Prop}{I:List Nat}{w0 w w':AW}{K:AV→AW→Prop}{n:Nd}{s:Sl}{v out:AV}{W bs bm bn bv:Nat}{ms:List Msg}{dr:Int}{L:Obs}{U U':List Nat}
theorem s68 {r:Rdg}{c:Nat}{x:Int}(hh:HK hk)(hm:Mem w)(hc:Box w c [.int .i64 x])(hK:∀w',Fr w.size w w'→K (.bool (decide (x<r.2.2))) w'):Cl Tryz.prog hk 68 [.agg [.int .i64 r.1,.int .i64 r.2.1,.int .i64 r.2.2],.ptr c 0] w K:=by
 refine in68 (hh.no _ _ _ (by decide) (by decide)) ?_;unfold F68;refine new_of hm fun w1 f1 b1 z1=>⟨_,by rw[b1.ld];rfl,?_⟩;simp only[onP];exact⟨_,by rw[(hc.fr f1 (hc.lt hm)).ld];rfl,hK _ f1⟩
theorem s67 {l:List Rdg}{c:Nat}{x:Int}(hh:HK hk)(hm:Mem w)(h:(rL rG).rd A w [v] l)(hc:Box w c [.int .i64 x])(hs:l.length<2^60)(hK:∀(i:Int) w',Fr w.size w w'→(i=-1∧l.findIdx (fun r=>decide (x<r.2.2))=l.length∨0≤i∧(l.findIdx (fun r=>decide (x<r.2.2)):Int)=i)→K (.int .i64 i) w'):Cl Tryz.prog hk 67 [v, .func 68 [] [.ptr c 0]] w K:=by
  refine in67 (hh.no _ _ _ (by decide) (by decide)) ?_;unfold F67;refine⟨_,h.len',?_⟩;refine qJr (fun m lv w5=>∃i:Nat,Fr w.size w w5∧i≤l.length∧m=l.length - i∧lv=[.int .i64 i]∧∀j,(hj:j<l.length)→j<i→decide (x<l[j].2.2)=false) ?_ ⟨0,Fr.refl hm,yQz _,rfl,rfl,fun j _ hj=>by omega⟩;rintro m lv w5 ⟨i,f5,hi,rfl,rfl,hno⟩ R ih;have h5:=h.xa (oJ4 hm f5);refine⟨_,rfl,fun _=>qJh (fun hcc=>?_) fun hcc=>hK _ _ f5 (.inl ⟨rfl,?_⟩)⟩
  · have hil:i<l.length:=by omega
    refine vQn h5 hil fun b o _ _ _ hn=>⟨_,_,_,hn,?_⟩;show Cl Tryz.prog hk 68 [.agg [.int .i64 l[i].1, .int .i64 l[i].2.1, .int .i64 l[i].2.2], .ptr c 0] w5 _;refine s68 hh f5.mem (hc.fr f5 (hc.lt hm)) fun w6 f6=>⟨_,rfl,?_⟩;have g6:Fr w.size w w6:=f5.trans' f6 (yQm _);cases hp:decide (x<l[i].2.2)with
    | true=>
      refine qJ3 (hK _ _ g6 (.inr ⟨by omega,?_⟩));congr 1;exact(List.findIdx_eq hil).2 ⟨hp,fun j hj=>by simpa using hno j (by omega) hj⟩
    | false=>
      refine qJ0 (ih (l.length - (i+1)) (by omega) _ _ ⟨i+1,g6,hil,rfl,by rw[qJq (by omega) (by omega)];rfl,fun j hj hji=>?_⟩);rcases(show j<i∨j=i by omega)with h | rfl
      · exact hno j hj h
      · exact hp
  · refine List.findIdx_eq_length.2 fun y hy=>?_
    obtain⟨j,hj,e⟩:=List.getElem_of_mem hy;rw[←e];exact hno j hj (by omega)
noncomputable def sureK(n:Nd):Nat:=n.reads.findIdx fun r=>decide (dJ0 n.seen<r.2.2)
noncomputable def mJh(n:Nd):Nd:={n with reads:=n.reads.drop (sureK n)}
def SurR(T:Nat→Prop)(n:Nd)(w:AW)(r:AV):Prop:=(¬ qJl n∧r= .tup [.agg (ndC zNd zSl),.nilslice,.int .i64 2])∨
 (qJl n∧∃s' out',r= .tup [.agg (ndC (mJh n) s'),out',.int .i64 0]∧NR T w (mJh n) s'∧(rL rG).rd T w [out'] (n.reads.take (sureK n)))
theorem zQu(n:Nd):sureK n≤n.reads.length:=List.findIdx_le_length
set_option maxRecDepth 20000 in
theorem s21(hh:HK hk)(hm:Mem w)(hpos:0<w.size)(h:NR A w n s)(sm:Sm n)(hlog:n.log.length<2^29)(hK:∀r w',Fr w.size w w'→SurR (Nw w) n w' r→K r w'):Cl Tryz.prog hk 21 [.agg (ndC n s)] w K:=by
  refine in21 (hh.no _ _ _ (by decide) (by decide)) ?_;unfold F21;have pv:Pv (Nw w) w:=⟨hm,hpos,fun _ h=>h⟩;refine gd_t h.ok (pv.st.new' fun b20 w21 st21 x21=>st21.new' fun b22 w23 st23 x23=>?_);have st23:Ow (Nw w) [] w w23 [(b22, .row (ndC zNd zSl)),(b20, .row (ndC n s))]:=st23;have nr23:=(h.arg hm st23).outs;refine⟨_,_,_,_,_,_,_,_,_,_,_,_,_,_,_,_,_,_,_,st23.ldN 1 rfl rfl rfl,?_⟩;refine s8 hh st23.mem st23.P0.pos nr23 sm fun c w5 f5 hc=>⟨_,rfl,?_⟩;obtain⟨st5,x5⟩:=st23.call f5;have nr5:=(h.arg hm st5).outs
  cases c with
  | false=>
    have hn:¬ qJl n:=fun hr=>absurd (hc.2 hr) (by decide);refine qJ3 (st5.put 0 rfl (yQk rfl) fun w28 st28 x28=>⟨_,_,_,_,_,_,_,_,_,_,_,_,_,_,_,_,_,_,_,st28.ldN 0 rfl rfl rfl,?_⟩);exact hK _ _ st28.fr (.inl ⟨hn,rfl⟩)
  | true=>
  have hr:=hc.1 rfl;have hseen:=hr.seen;have hsz:=hr.size;have hrl:=hr.reads.2;refine qJ0 ⟨_,_,_,_,_,_,_,_,_,_,_,_,_,_,_,_,_,_,_,st5.ldN 1 rfl rfl rfl,?_⟩;refine s43 hh st5 (h.arg hm st5) (hr.bc hlog) fun W bs bm bn bv s1 w8 wk8 x8=>?_;obtain⟨st8,wr8,we8⟩:=wk8;refine qJd (v:=s.seen) (st8.ld 6 rfl rfl) ?_;refine s66 hh st8.mem ((h.arg hm st8).outs.seen.rsI) (by omega) fun r w9 hrule f9=>⟨_,rfl,?_⟩;have er:=fJj hrule;subst er;obtain⟨st9,x9⟩:=st8.call f9;refine st9.new' fun b90 w10 st10 x10=>st10.put 0 rfl (yQk rfl) fun w11 st11 x11=>?_;simp only[onP];refine qJd (v:=s1.reads) (st11.ld 1 rfl rfl) ?_;obtain⟨st12,x12,_,hb90⟩:=st11.drop;have hb90:Box w11 b90 [.int .i64 (dJ0 n.seen)]:=hb90;have x812:Xt (W::bs::bm::bn::bv::[b22,b20]) w8 (W::bs::bm::bn::bv::[b22,b20]) w11:=((x9.trans x10).trans x11).trans x12;have wr12:=wr8.x x812;refine s67 hh st12.mem wr12.reads.out hb90 (by omega) fun i w13 f13 hi=>⟨_,rfl,?_⟩;obtain⟨st13,x13⟩:=st12.call f13;have wr13:=wr12.x x13;have hkl:=zQu n;refine zJm (fun l w'=>w'=w13∧l=[.int .i64 (sureK n:Int)]) ?_ fun J hJ=>?_
  · rintro l w14 ⟨rfl,rfl⟩
    refine⟨_,rfl,fun _=>qJd (v:=s1.reads) (st13.ld 0 rfl rfl) ?_⟩;obtain⟨p1,hs1,hp1⟩:=wr13.reads.cut (i:=0) (j:=sureK n) (yQz _) hkl (.inr ⟨rfl,rfl⟩) (.inl rfl);rw[List.drop_zero]at hp1;refine qJd hs1 (s69 hh st13.mem hp1 (by rw[yQ9];omega) fun v15 w15 f15 h15=>qJd (v:=s1.reads) ((st13.call f15).1.ld 0 rfl rfl) ?_);obtain⟨st15,x15⟩:=st13.call f15;have hr15:(rL rG).rd (fz (Nw w) (W::bs::bm::bn::bv::[b22,b20])) w15 [v15] (n.reads.take (sureK n)):=h15.rd (fun c hc=>st13.P.new c hc) Chk.flG;have wr15:=wr13.x x15;obtain⟨p2,hs2,hp2⟩:=wr15.reads.cut (i:=sureK n) (j:=n.reads.length) hkl (yQm _) (.inl rfl) (.inr ⟨rfl,rfl⟩);rw[gQi]at hp2;refine qJd hs2 (s69 hh st15.mem hp2 (by rw[yQ3];omega) fun v16 w16 f16 h16=>?_);obtain⟨st16,x16⟩:=st15.call f16;have hr16:(rL rG).rd (fz (Nw w) (W::bs::bm::bn::bv::[b22,b20])) w16 [v16] (n.reads.drop (sureK n)):=h16.rd (fun c hc=>st15.P.new c hc) Chk.flG;refine gd_t hr16.ok1 (st16.put 0 rfl (yQk rfl) fun w17 st17 x17=>?_);have wr17:Wr (Nw w) (W::bs::bm::bn::bv::[b22,b20]) w17 (mJh n) {s1 with reads:=v16} .nilslice []:=by
      have a:=(wr15.x x16).x x17;exact⟨a.snap,a.log,hr16.x x17,a.out⟩
    have we17:We bs bm bn bv (mJh n) {s1 with reads:=v16}:=⟨we8.seen,we8.mtch,we8.next,we8.votes⟩;refine⟨_,_,_,_,_,_,_,_,_,_,_,_,_,_,_,_,_,_,_,st17.ldN 0 rfl rfl rfl,gd_t (wr17.okN we17) (st17.put 5 rfl (yQk rfl) fun w18 st18 x18=>⟨_,_,_,_,_,_,_,_,_,_,_,_,_,_,_,_,_,_,_,st18.ldN 5 rfl rfl rfl,?_⟩)⟩;have wr18:=wr17.x x18;exact hK _ _ st18.fr (.inr ⟨hr,{s1 with reads:=v16},v15,rfl,rJ0 1 2 3 4 st18 wr18 we17 rfl rfl rfl rfl,(((hr15.x x16).x x17).x x18).out⟩)
  · refine qJh (fun hneg=>?_) fun hneg=>hJ _ _ ⟨rfl,?_⟩
    · refine qJd (v:=s1.reads) (st13.ld 0 rfl rfl) ⟨_,wr13.reads.len',hJ _ _ ⟨rfl,?_⟩⟩
      have e:sureK n=n.reads.length:=by
        rcases hi with⟨_,e⟩ | ⟨h0,_⟩
        · exact e
        · omega
      rw[e]
    · have e:(sureK n:Int)=i:=by
        rcases hi with⟨e,_⟩ | ⟨_,e⟩
        · omega
        · exact e
      rw[e]
open Classical in
noncomputable def comE(n:Nd)(i:Int)(d:Byts):Int:=if ¬ qJl n then 2 else if i≤n.base then 2 else if n.commit<i then 2 else if G40<i then 2 else if 60000<d.length then 3 else 0
def bJ3(n:Nd)(i:Int)(d:Byts):Nd:={n with log:=n.log.drop (i - n.base).toNat,base:=i,bt:=(termAt n.base n.bt (n.log.map (·.1)) i).1,snap:=d}
def ComR(T:Nat→Prop)(n:Nd)(i:Int)(d:Byts)(w:AW)(r:AV):Prop:=(comE n i d≠0∧r= .tup [.agg (ndC zNd zSl),.int .i64 (comE n i d)])∨
 (qJl n∧comE n i d=0∧∃s',r= .tup [.agg (ndC (bJ3 n i d) s'),.int .i64 0]∧NR T w (bJ3 n i d) s')
set_option maxRecDepth 20000 in
theorem s15 {i:Int}{d:Byts}{dv:AV}(hh:HK hk)(hm:Mem w)(hpos:0<w.size)(h:NR A w n s)(sm:Sm n)(hlog:n.log.length<2^29)(hd:(rL rU).rd B w [dv] d)(hK:∀r w',Fr w.size w w'→ComR (Nw w) n i d w' r→K r w'):Cl Tryz.prog hk 15 [.agg (ndC n s), .int .i64 i,dv] w K:=by
  refine in15 (hh.no _ _ _ (by decide) (by decide)) ?_;unfold F15;have pv:Pv (Nw w) w:=⟨hm,hpos,fun _ h=>h⟩;refine gd_t h.ok (pv.st.new' fun b20 w21 st21 x21=>st21.new' fun b22 w23 st23 x23=>?_);have st23:Ow (Nw w) [] w w23 [(b22, .row (ndC zNd zSl)),(b20, .row (ndC n s))]:=st23;have nr23:=(h.arg hm st23).outs;have err:∀{w':AW} {e:Int},Ow (Nw w) [] w w' [(b22, .row (ndC zNd zSl)),(b20, .row (ndC n s))]→comE n i d=e→e≠0→onM (AW.putCells w' b22 0 (ndC zNd zSl)) fun w_46=>
   ∃res_47 res_48 res_49 res_50 res_51 res_52 res_53 res_54:Int,∃res_55 res_56:AV,∃res_57:Int,∃res_58 res_59 res_60 res_61:AV,∃res_62 res_63 res_64:Int,∃res_65:AV,ldN 19 w_46 b22 0=some (.agg [(.int .i64 res_47),(.int .i64 res_48),(.int .u8 res_49),(.int .i64 res_50),(.int .i64 res_51),(.int .i64 res_52),(.int .i64 res_53),(.int .i64 res_54),res_55,res_56,(.int .i64 res_57),res_58,res_59,res_60,res_61,(.int .i64 res_62),(.int .i64 res_63),(.int .i64 res_64),res_65])∧
   K (.tup [(.agg [(.int .i64 res_47),(.int .i64 res_48),(.int .u8 res_49),(.int .i64 res_50),(.int .i64 res_51),(.int .i64 res_52),(.int .i64 res_53),(.int .i64 res_54),res_55,res_56,(.int .i64 res_57),res_58,res_59,res_60,res_61,(.int .i64 res_62),(.int .i64 res_63),(.int .i64 res_64),res_65]),(.int .i64 e)]) w_46:=by
    intro w' e st' he h0;refine st'.put 0 rfl (yQk rfl) fun w28 st28 x28=>⟨_,_,_,_,_,_,_,_,_,_,_,_,_,_,_,_,_,_,_,st28.ldN 0 rfl rfl rfl,?_⟩;exact hK _ _ st28.fr (.inl ⟨by rw[he];exact h0,by rw[he]⟩)
  refine⟨_,_,_,_,_,_,_,_,_,_,_,_,_,_,_,_,_,_,_,st23.ldN 1 rfl rfl rfl,?_⟩;refine s8 hh st23.mem st23.P0.pos nr23 sm fun c w5 f5 hc=>⟨_,rfl,?_⟩;obtain⟨st5,x5⟩:=st23.call f5;have nr5:=(h.arg hm st5).outs
  cases c with
  | false=>
    have hn:¬ qJl n:=fun hr=>absurd (hc.2 hr) (by decide);exact qJ3 (err st5 (by unfold comE;rw[if_pos hn]) (by decide))
  | true=>
  have hr:=hc.1 rfl;have hb:=hr.base.2;have hcm:=hr.commit;unfold G40 at hb;refine qJ0 ⟨_,st5.ld 1 rfl rfl,qJh (fun h1=>err st5 (by unfold comE;rw[if_neg (not_not_intro hr),if_pos h1]) (by decide)) fun h1=>⟨_,st5.ld 1 rfl rfl,qJh (fun h2=>err st5 (by unfold comE;rw[if_neg (not_not_intro hr),if_neg h1];by_cases q:n.commit<i;rw[if_pos q];rw[if_neg q,if_pos (by unfold imin at h2;unfold G40;split at h2<;>omega)]) (by decide)) fun h2=>⟨_,(st5.arg hm hd).len',qJh (fun h3=>?_) fun h3=>?_⟩⟩⟩
  all_goals have h2a:¬ n.commit<i:=by unfold imin at h2;split at h2<;>omega
  all_goals have h2b:¬ G40<i:=by unfold imin at h2;unfold G40;split at h2<;>omega
  · exact err st5 (by unfold comE;rw[if_neg (not_not_intro hr),if_neg h1,if_neg h2a,if_neg h2b,if_pos (by omega)]) (by decide)
  have h0:comE n i d=0:=by unfold comE;rw[if_neg (not_not_intro hr),if_neg h1,if_neg h2a,if_neg h2b,if_neg (by omega)]
  refine⟨_,_,_,_,_,_,_,_,_,_,_,_,_,_,_,_,_,_,_,st5.ldN 1 rfl rfl rfl,?_⟩;refine s43 hh st5 (h.arg hm st5) (hr.bc hlog) fun W bs bm bn bv s1 w8 wk8 x8=>?_;obtain⟨st8,wr8,we8⟩:=wk8;refine⟨_,_,_,_,_,_,_,_,_,_,_,_,_,_,_,_,_,_,_,st8.ldN 6 rfl rfl rfl,?_⟩;refine s53 hh st8.mem (h.arg hm st8).outs hr.base.1 (by omega) sm.log fun w9 f9=>⟨_,_,rfl,?_⟩;obtain⟨st9,x9⟩:=st8.call f9;simp only[onP];refine st9.put 0 rfl (yQk rfl) fun w10 st10 x10=>qJd (v:=s1.log) (st10.ld 0 rfl rfl) ⟨_,st10.ld 6 rfl rfl,?_⟩;obtain⟨k,hkk⟩:∃k:Nat,i - n.base=(k:Int):=yQ8 (by omega);unfold qJi at hcm;unfold G40 at h2b;rw[qJq (x:=i - n.base) (by omega) (by omega),hkk];have wr10:=(wr8.x x9).x x10;obtain⟨p1,hs1,hp1⟩:=wr10.log.cut (i:=k) (j:=n.log.length) (by omega) (yQm _) (.inl rfl) (.inr ⟨rfl,rfl⟩);rw[gQi]at hp1;refine qJd hs1 (s55 hh st10.mem (st10.arg hm hd) (by omega) fun v11 w11 f11 h11=>⟨(st10.call f11).1.ld 6 rfl rfl,(st10.call f11).1.ld 0 rfl rfl,?_⟩);obtain⟨st11,x11⟩:=st10.call f11;have hs11:(rL rU).rd (fz (Nw w) (W::bs::bm::bn::bv::[b22,b20])) w11 [v11] d:=h11.rd (fun c hc=>st10.P.new c hc) Chk.flU;refine gd_t hp1.ok1 (st11.put 0 rfl (yQk rfl) fun w12 st12 x12=>st12.put 0 rfl (yQk rfl) fun w13 st13 x13=>gd_t hs11.ok1 (st13.put 0 rfl (yQk rfl) fun w14 st14 x14=>?_));have ek:k=(i - n.base).toNat:=by omega
  subst ek;have x1014:Xt (W::bs::bm::bn::bv::[b22,b20]) w10 (W::bs::bm::bn::bv::[b22,b20]) w14:=((x11.trans x12).trans x13).trans x14;have wr14:Wr (Nw w) (W::bs::bm::bn::bv::[b22,b20]) w14 (bJ3 n i d) {s1 with log:=p1,snap:=v11} .nilslice []:=by
    have a:=wr10.x x1014;exact⟨((hs11.x x12).x x13).x x14,hp1.x x1014,a.reads,a.out⟩
  have we14:We bs bm bn bv (bJ3 n i d) {s1 with log:=p1,snap:=v11}:=⟨we8.seen,we8.mtch,we8.next,we8.votes⟩;refine⟨_,_,_,_,_,_,_,_,_,_,_,_,_,_,_,_,_,_,_,st14.ldN 0 rfl rfl rfl,gd_t (wr14.okN we14) (st14.put 5 rfl (yQk rfl) fun w18 st18 x18=>⟨_,_,_,_,_,_,_,_,_,_,_,_,_,_,_,_,_,_,_,st18.ldN 5 rfl rfl rfl,?_⟩)⟩;have wr18:=wr14.x x18;exact hK _ _ st18.fr (.inr ⟨hr,h0,{s1 with log:=p1,snap:=v11},rfl,rJ0 1 2 3 4 st18 wr18 we14 rfl rfl rfl rfl⟩)
end
end Go.Proofs.YtghoifolghelnaaGreat
/-
 New,of the program and of the reference.
 No condition beyond those that each theorem names.
-/
open Go.Sx
namespace Go.Proofs.YtghoifolghelnaaGreat
def toF(d:Int):Int:=10+Int.tmod (Int.tmod d 10+10) 10
theorem cJ0(d:Int):-10<Int.tmod d 10∧Int.tmod d 10<10:=⟨Int.lt_tmod_of_pos d (by decide),Int.tmod_lt_of_pos d (by decide)⟩
theorem vQg(d:Int):toF d=if Int.tmod d 10<0 then 10+(Int.tmod d 10+10)else 10+Int.tmod d 10:=by
 have:=cJ0 d;unfold toF;rw[Int.tmod_eq_emod_of_nonneg (a:=Int.tmod d 10+10) (by omega)];split<;>omega
theorem pJ6 {α:Type}{f:α→AV}{x:α}:∀k,repl k [f x]=(List.replicate k x).map f
  | 0=>rfl
  | k+1=>by
    have:=pJ6 (f:=f) (x:=x) k;show [f x]++repl k [f x]=_;rw[this,List.replicate_succ,List.map_cons];rfl
theorem gds {k c:Nat}(h:k≤9)(hc:c≤8):(Nat.ble k k&&Nat.ble (k * c) (2^47)&&Nat.blt k (2^63)&&true)=true:=by
 have:k * c≤9 * 8:=Nat.mul_le_mul h hc;have h1:Nat.ble k k=true:=by rw[Nat.ble_eq];exact yQm _
 have h2:Nat.ble (k * c) (2^47)=true:=by rw[Nat.ble_eq];omega
 have h3:Nat.blt k (2^63)=true:=by rw[gQm];omega
 rw[h1,h2,h3];rfl
def hJ1(n:Nd):Nd:={n with votes:=List.replicate n.size.toNat false,next:=List.replicate n.size.toNat 0,mtch:=List.replicate n.size.toNat 0,seen:=List.replicate n.size.toNat 0,round:=0,reads:=[]}
def newN(id size d:Int):Nd:=hJ1 ⟨id,size,1,0,0,0,0,0,[],[],0,[],[],[],[],0,0,toF d,[]⟩
def newE(id size:Int):Int:=if size<1 then 2 else if 9<size then 2 else if id<1 then 2 else if size<id then 2 else 0
def NewR(T:Nat→Prop)(id size d:Int)(w:AW)(r:AV):Prop:=(newE id size≠0∧r= .tup [.agg (ndC zNd zSl),.int .i64 (newE id size)])∨
 (newE id size=0∧∃s',r= .tup [.agg (ndC (newN id size d) s'),.int .i64 0]∧NR T w (newN id size d) s')
section
variable {hk:Hook}{T A A' B:Nat→Prop}{I:List Nat}{w0 w w':AW}{K:AV→AW→Prop}{n:Nd}{s:Sl}{v out:AV}{W bs bm bn bv:Nat}{ms:List Msg}{dr:Int}{L:Obs}{U U':List Nat}
theorem s71 {d:Int}(hh:HK hk)(hK:K (.int .i64 (toF d)) w):Cl Tryz.prog hk 71 [.int .i64 d] w K:=by
 refine in71 (hh.no _ _ _ (by decide) (by decide)) ?_;unfold F71 be;have h1:=cJ0 d;rw[qJq (x:=Int.tmod d 10+10) (by omega) (by omega)];have h2:=cJ0 (Int.tmod d 10+10);show K (.int .i64 (wi (10+Int.tmod (Int.tmod d 10+10) 10))) w;rw[qJq (by omega) (by omega)];exact hK
theorem qQu {b k:Nat}{L:Obs}{i:Nat}(st:Ow T [] w0 w L)(hA:∀c,w0.size≤c→A c)(e:nth L i=some (b,.row (repl k [.bool false]))):(rL rT).rd A w [.slice b 0 k k none] (List.replicate k false):=by
 have hb:Box w b _:=(st.box _ (qJw e) rfl).1;exact Box.sl hb (hA _ ((st.box _ (qJw e) rfl).2.1.resolve_right (by simp))) (by rw[gQ0]) (Chk.bools.2 (pJ6 (f:=AV.bool) (x:=false) k)) (yQm _)
theorem cJn {b k:Nat}{L:Obs}{i:Nat}(st:Ow T [] w0 w L)(hA:∀c,w0.size≤c→A c)(e:nth L i=some (b,.row (repl k [.int .i64 0]))):(rL rI).rd A w [.slice b 0 k k none] (List.replicate k 0):=by
 have hb:Box w b _:=(st.box _ (qJw e) rfl).1;exact Box.sl hb (hA _ ((st.box _ (qJw e) rfl).2.1.resolve_right (by simp))) (by rw[gQ0]) (Chk.ints.2 (pJ6 (f:=AV.int .i64) (x:=0) k)) (yQm _)
set_option maxRecDepth 20000 in
theorem s25 {id size d:Int}(hh:HK hk)(hm:Mem w)(hpos:0<w.size)(hK:∀r w',Fr w.size w w'→NewR (Nw w) id size d w' r→K r w'):Cl Tryz.prog hk 25 [.int .i64 id,.int .i64 size,.int .i64 d] w K:=by
 refine in25 (hh.no _ _ _ (by decide) (by decide)) ?_;unfold F25;have pv:Pv (Nw w) w:=⟨hm,hpos,fun _ h=>h⟩;refine pv.st.new' fun b22 w23 st23 x23=>?_;have st23:Ow (Nw w) [] w w23 [(b22,.row (ndC zNd zSl))]:=st23;have err:newE id size=2→onM (AW.putCells w23 b22 0 (ndC zNd zSl)) fun w_46=>
  ∃res_47 res_48 res_49 res_50 res_51 res_52 res_53 res_54:Int,∃res_55 res_56:AV,∃res_57:Int,∃res_58 res_59 res_60 res_61:AV,∃res_62 res_63 res_64:Int,∃res_65:AV,ldN 19 w_46 b22 0=some (.agg [(.int .i64 res_47),(.int .i64 res_48),(.int .u8 res_49),(.int .i64 res_50),(.int .i64 res_51),(.int .i64 res_52),(.int .i64 res_53),(.int .i64 res_54),res_55,res_56,(.int .i64 res_57),res_58,res_59,res_60,res_61,(.int .i64 res_62),(.int .i64 res_63),(.int .i64 res_64),res_65])∧
  K (.tup [(.agg [(.int .i64 res_47),(.int .i64 res_48),(.int .u8 res_49),(.int .i64 res_50),(.int .i64 res_51),(.int .i64 res_52),(.int .i64 res_53),(.int .i64 res_54),res_55,res_56,(.int .i64 res_57),res_58,res_59,res_60,res_61,(.int .i64 res_62),(.int .i64 res_63),(.int .i64 res_64),res_65]),(.int .i64 2)]) w_46:=by
  intro he;refine st23.put 0 rfl (yQk rfl) fun w28 st28 x28=>⟨_,_,_,_,_,_,_,_,_,_,_,_,_,_,_,_,_,_,_,st28.ldN 0 rfl rfl rfl,?_⟩;exact hK _ _ st28.fr (.inl ⟨by rw[he];decide,by rw[he]⟩)
 refine qJh (fun h=>err (by unfold newE;rw[if_pos h])) fun h1=>qJh (fun h=>err (by unfold newE;rw[if_neg h1,if_pos h])) fun h2=>qJh (fun h=>err (by unfold newE;rw[if_neg h1,if_neg h2,if_pos h])) fun h3=>qJh (fun h=>err (by unfold newE;rw[if_neg h1,if_neg h2,if_neg h3,if_pos h])) fun h4=>?_;have h0:newE id size=0:=by unfold newE;rw[if_neg h1,if_neg h2,if_neg h3,if_neg h4]
 obtain⟨k,rfl⟩:=yQ8 (a:=size) (by omega);have hk9:k≤9:=by omega
 refine qJd (v:=k) rfl (qJd (v:=k) rfl (gd_t (gds hk9 (by decide)) (st23.new' fun b1 w1 st1 x1=>qJd (v:=k) rfl (qJd (v:=k) rfl (gd_t (gds hk9 (by decide)) (st1.new' fun b2 w2 st2 x2=>qJd (v:=k) rfl (qJd (v:=k) rfl (gd_t (gds hk9 (by decide)) (st2.new' fun b3 w3 st3 x3=>qJd (v:=k) rfl (qJd (v:=k) rfl (gd_t (gds hk9 (by decide)) (st3.new' fun b4 w4 st4 x4=>?_))))))))))));refine s71 hh ⟨_,rfl,st4.put 4 rfl (yQk rfl) fun w5 st5 x5=>⟨_,_,_,_,_,_,_,_,_,_,_,_,_,_,_,_,_,_,_,st5.ldN 4 rfl rfl rfl,?_⟩⟩;refine hK _ _ st5.fr (.inr ⟨h0,⟨.nilslice,.nilslice,.slice b1 0 k k none,.slice b2 0 k k none,.slice b3 0 k k none,.slice b4 0 k k none,.nilslice⟩,rfl,⟨Rp.rd.nil,Rp.rd.nil,qQu (i:=3) st5 (fun _ h=>h) rfl,cJn (i:=2) st5 (fun _ h=>h) rfl,cJn (i:=1) st5 (fun _ h=>h) rfl,cJn (i:=0) st5 (fun _ h=>h) rfl,Rp.rd.nil⟩⟩)
end
end Go.Proofs.YtghoifolghelnaaGreat
/-
 The reference's copies of nodes.
 No condition beyond those that each theorem names.
-/
open Go.Sx
namespace Go.Proofs.YtghoifolghelnaaGreat
section
variable {hk:Hook}{A A' B:Nat→Prop}{I:List Nat}{w0 w w':AW}{K:AV→AW→Prop}{n:Nd}{s:Sl}{v out:AV}{W bs bm bn bv:Nat}{ms:List Msg}{dr:Int}{L:Obs}{U U':List Nat}
theorem s46 {l:Byts}(hh:HK hk)(hm:Mem w)(h:(rL rU).rd A w [v] l)(hl:l.length≤140737488351232)(hK:∀v' w',Fr w.size w w'→Cln rU A w w' v v' l→K v' w'):Cl Tryz.prog hk 46 [v] w K:=by
 refine in46 (hh.no _ _ _ (by decide) (by decide)) ?_;unfold F46;exact wQn hm h rfl (by decide) (by omega) (by decide) hK
end
end Go.Proofs.YtghoifolghelnaaGreat
/-
 What the functions of this chapter do.
 No condition beyond those that each theorem names.
-/
open Go.Sx
namespace Go.Proofs.YtghoifolghelnaaGreat
set_option maxRecDepth 100000 in
def F10(hk:Hook)(n0 n1 n2 n3 n4 n5 n6 n7:Int)(n8 n9:AV)(n10:Int)(n11 n12 n13 n14:AV)(n15 n16 n17:Int)(n18:AV)(m19:List UInt8)(m20 m21 m22 m23 m24 m25 m26 m27:Int)(m28:Bool)(m29 m30:AV)(draw31:Int)(w:AW)(K:AV→AW→Prop):Prop:=
 gd (List.all [(ii n0),(ii n1),(.int .u8 n2),(ii n3),(ii n4),(ii n5),(ii n6),(ii n7),n8,n9,(ii n10),n11,n12,n13,n14,(ii n15),(ii n16),(ii n17),n18] qJc) (
 new w [(ii n0),(ii n1),(.int .u8 n2),(ii n3),(ii n4),(ii n5),(ii n6),(ii n7),n8,n9,(ii n10),n11,n12,n13,n14,(ii n15),(ii n16),(ii n17),n18] fun b32 w33=>
 gd (List.all [(.str m19),(.int .u8 m20),(ii m21),(ii m22),(ii m23),(ii m24),(ii m25),(ii m26),(ii m27),(.bool m28),m29,m30] qJc) (
 new w33 [(.str m19),(.int .u8 m20),(ii m21),(ii m22),(ii m23),(ii m24),(ii m25),(ii m26),(ii m27),(.bool m28),m29,m30] fun b34 w35=>
 new w35 [(ii 0),(ii 0),(.int .u8 0),(ii 0),(ii 0),(ii 0),(ii 0),(ii 0),.nilslice,.nilslice,(ii 0),.nilslice,.nilslice,.nilslice,.nilslice,(ii 0),(ii 0),(ii 0),.nilslice] fun b36 w37=>
 ∃x38 x39 x40 x41 x42 x43 x44 x45:Int,∃x46 x47:AV,∃x48:Int,∃x49 x50 x51 x52:AV,∃x53 x54 x55:Int,∃x56:AV,ldN 19 w37 b32 0=some (.agg [(ii x38),(ii x39),(.int .u8 x40),(ii x41),(ii x42),(ii x43),(ii x44),(ii x45),x46,x47,(ii x48),x49,x50,x51,x52,(ii x53),(ii x54),(ii x55),x56])∧
 Cl Tryz.prog hk 8 [(.agg [(ii x38),(ii x39),(.int .u8 x40),(ii x41),(ii x42),(ii x43),(ii x44),(ii x45),x46,x47,(ii x48),x49,x50,x51,x52,(ii x53),(ii x54),(ii x55),x56])] w37 fun r57 w58=>
 ∃x59:Bool,r57=(.bool x59)∧
 ifT (!x59) (onM (AW.putCells w58 b36 0 [(ii 0),(ii 0),(.int .u8 0),(ii 0),(ii 0),(ii 0),(ii 0),(ii 0),.nilslice,.nilslice,(ii 0),.nilslice,.nilslice,.nilslice,.nilslice,(ii 0),(ii 0),(ii 0),.nilslice]) fun w60=>
 ∃res61 res62 res63 res64 res65 res66 res67 res68:Int,∃res69 res70:AV,∃res71:Int,∃res72 res73 res74 res75:AV,∃res76 res77 res78:Int,∃res79:AV,ldN 19 w60 b36 0=some (.agg [(ii res61),(ii res62),(.int .u8 res63),(ii res64),(ii res65),(ii res66),(ii res67),(ii res68),res69,res70,(ii res71),res72,res73,res74,res75,(ii res76),(ii res77),(ii res78),res79])∧
 K (.tup [(.agg [(ii res61),(ii res62),(.int .u8 res63),(ii res64),(ii res65),(ii res66),(ii res67),(ii res68),res69,res70,(ii res71),res72,res73,res74,res75,(ii res76),(ii res77),(ii res78),res79]),.nilslice,(ii 2)]) w60)
 (∃x80 x81 x82 x83 x84 x85 x86 x87:Int,∃x88 x89:AV,∃x90:Int,∃x91 x92 x93 x94:AV,∃x95 x96 x97:Int,∃x98:AV,ldN 19 w58 b32 0=some (.agg [(ii x80),(ii x81),(.int .u8 x82),(ii x83),(ii x84),(ii x85),(ii x86),(ii x87),x88,x89,(ii x90),x91,x92,x93,x94,(ii x95),(ii x96),(ii x97),x98])∧
 ∃x99:List UInt8,∃x100 x101 x102 x103 x104 x105 x106 x107:Int,∃x108:Bool,∃x109 x110:AV,ldN 12 w58 b34 0=some (.agg [(.str x99),(.int .u8 x100),(ii x101),(ii x102),(ii x103),(ii x104),(ii x105),(ii x106),(ii x107),(.bool x108),x109,x110])∧
 Cl Tryz.prog hk 42 [(.agg [(ii x80),(ii x81),(.int .u8 x82),(ii x83),(ii x84),(ii x85),(ii x86),(ii x87),x88,x89,(ii x90),x91,x92,x93,x94,(ii x95),(ii x96),(ii x97),x98]),(.agg [(.str x99),(.int .u8 x100),(ii x101),(ii x102),(ii x103),(ii x104),(ii x105),(ii x106),(ii x107),(.bool x108),x109,x110])] w58 fun r111 w112=>
 ∃x113:Bool,r111=(.bool x113)∧
 ifT (!x113) (onM (AW.putCells w112 b36 0 [(ii 0),(ii 0),(.int .u8 0),(ii 0),(ii 0),(ii 0),(ii 0),(ii 0),.nilslice,.nilslice,(ii 0),.nilslice,.nilslice,.nilslice,.nilslice,(ii 0),(ii 0),(ii 0),.nilslice]) fun w114=>
  ∃res115 res116 res117 res118 res119 res120 res121 res122:Int,∃res123 res124:AV,∃res125:Int,∃res126 res127 res128 res129:AV,∃res130 res131 res132:Int,∃res133:AV,ldN 19 w114 b36 0=some (.agg [(ii res115),(ii res116),(.int .u8 res117),(ii res118),(ii res119),(ii res120),(ii res121),(ii res122),res123,res124,(ii res125),res126,res127,res128,res129,(ii res130),(ii res131),(ii res132),res133])∧
 K (.tup [(.agg [(ii res115),(ii res116),(.int .u8 res117),(ii res118),(ii res119),(ii res120),(ii res121),(ii res122),res123,res124,(ii res125),res126,res127,res128,res129,(ii res130),(ii res131),(ii res132),res133]),.nilslice,(ii 2)]) w114)
 (∃x134 x135 x136 x137 x138 x139 x140 x141:Int,∃x142 x143:AV,∃x144:Int,∃x145 x146 x147 x148:AV,∃x149 x150 x151:Int,∃x152:AV,ldN 19 w112 b32 0=some (.agg [(ii x134),(ii x135),(.int .u8 x136),(ii x137),(ii x138),(ii x139),(ii x140),(ii x141),x142,x143,(ii x144),x145,x146,x147,x148,(ii x149),(ii x150),(ii x151),x152])∧
 Cl Tryz.prog hk 43 [(.agg [(ii x134),(ii x135),(.int .u8 x136),(ii x137),(ii x138),(ii x139),(ii x140),(ii x141),x142,x143,(ii x144),x145,x146,x147,x148,(ii x149),(ii x150),(ii x151),x152]),(ii draw31)] w112 fun r153 w154=>
 join (fun l_155 w156=>l_155=[]∧∀_:Nat→AV,
  ∃x158:Int,ld w156 b34 (0+1)=some (.int .u8 x158)∧
  ∃x159:List UInt8,∃x160 x161 x162 x163 x164 x165 x166 x167:Int,∃x168:Bool,∃x169 x170:AV,ldN 12 w156 b34 0=some (.agg [(.str x159),(.int .u8 x160),(ii x161),(ii x162),(ii x163),(ii x164),(ii x165),(ii x166),(ii x167),(.bool x168),x169,x170])∧
  Cl Tryz.prog hk 45 [r153,(.int .u8 x158)] w156 fun r171 w172=>
  ldN 12 w172 b34 0=some (.agg [(.str x159),(.int .u8 x160),(ii x161),(ii x162),(ii x163),(ii x164),(ii x165),(ii x166),(ii x167),(.bool x168),x169,x170])∧
  Cv Tryz.prog hk r171 [(.agg [(.str x159),(.int .u8 x160),(ii x161),(ii x162),(ii x163),(ii x164),(ii x165),(ii x166),(ii x167),(.bool x168),x169,x170])] w172 fun r173 w174=>
  r173= .tup []∧
  onP r153 fun b175 o176=>
  ∃x177 x178 x179 x180 x181 x182 x183 x184:Int,∃x185 x186:AV,∃x187:Int,∃x188 x189 x190 x191:AV,∃x192 x193 x194:Int,∃x195:AV,ldN 19 w174 b175 (o176+0)=some (.agg [(ii x177),(ii x178),(.int .u8 x179),(ii x180),(ii x181),(ii x182),(ii x183),(ii x184),x185,x186,(ii x187),x188,x189,x190,x191,(ii x192),(ii x193),(ii x194),x195])∧
  onP r153 fun b196 o197=>
  onM (ld w174 b196 (o197+19)) fun x198=>
  gd (List.all [(ii x177),(ii x178),(.int .u8 x179),(ii x180),(ii x181),(ii x182),(ii x183),(ii x184),x185,x186,(ii x187),x188,x189,x190,x191,(ii x192),(ii x193),(ii x194),x195] qJc) (
  onM (AW.putCells w174 b36 0 [(ii x177),(ii x178),(.int .u8 x179),(ii x180),(ii x181),(ii x182),(ii x183),(ii x184),x185,x186,(ii x187),x188,x189,x190,x191,(ii x192),(ii x193),(ii x194),x195]) fun w199=>
  ld w199 b196 (o197+19)=some x198∧
  ∃res200 res201 res202 res203 res204 res205 res206 res207:Int,∃res208 res209:AV,∃res210:Int,∃res211 res212 res213 res214:AV,∃res215 res216 res217:Int,∃res218:AV,ldN 19 w199 b36 0=some (.agg [(ii res200),(ii res201),(.int .u8 res202),(ii res203),(ii res204),(ii res205),(ii res206),(ii res207),res208,res209,(ii res210),res211,res212,res213,res214,(ii res215),(ii res216),(ii res217),res218])∧
 K (.tup [(.agg [(ii res200),(ii res201),(.int .u8 res202),(ii res203),(ii res204),(ii res205),(ii res206),(ii res207),res208,res209,(ii res210),res211,res212,res213,res214,(ii res215),(ii res216),(ii res217),res218]),x198,(ii 0)]) w199)) fun J157=>
 ∃x219:Int,ld w154 b34 (0+4)=some (ii x219)∧
 ∃x220:Int,ld w154 b32 (0+3)=some (ii x220)∧
 ifT (decide (x220<x219)) (∃x221:Int,ld w154 b34 (0+4)=some (ii x221)∧
  Cl Tryz.prog hk 44 [r153,(ii x221)] w154 fun r222 w223=>
  r222= .tup []∧
  J157 [] w223)
 (J157 [] w154)))))
def adv10:Adv:=(.sq .lf (.sq (.sq .lf (.cd (.sq .lf .lf) .lf)) (.sq .lf (.sj [] (.sq .lf (.cd .lf .lf)) (.sq .lf (.sq .lf .lf))))))
set_option maxRecDepth 100000 in
theorem in10 {hk:Hook}{n0 n1 n2 n3 n4 n5 n6 n7:Int}{n8 n9:AV}{n10:Int}{n11 n12 n13 n14:AV}{n15 n16 n17:Int}{n18:AV}{m19:List UInt8}{m20 m21 m22 m23 m24 m25 m26 m27:Int}{m28:Bool}{m29 m30:AV}{draw31:Int}{w:AW}{K:AV→AW→Prop}(hn:hk 10 [(.agg [(ii n0),(ii n1),(.int .u8 n2),(ii n3),(ii n4),(ii n5),(ii n6),(ii n7),n8,n9,(ii n10),n11,n12,n13,n14,(ii n15),(ii n16),(ii n17),n18]),(.agg [(.str m19),(.int .u8 m20),(ii m21),(ii m22),(ii m23),(ii m24),(ii m25),(ii m26),(ii m27),(.bool m28),m29,m30]),(ii draw31)] w=none)(h:F10 hk n0 n1 n2 n3 n4 n5 n6 n7 n8 n9 n10 n11 n12 n13 n14 n15 n16 n17 n18 m19 m20 m21 m22 m23 m24 m25 m26 m27 m28 m29 m30 draw31 w K):Cl Tryz.prog hk 10 [(.agg [(ii n0),(ii n1),(.int .u8 n2),(ii n3),(ii n4),(ii n5),(ii n6),(ii n7),n8,n9,(ii n10),n11,n12,n13,n14,(ii n15),(ii n16),(ii n17),n18]),(.agg [(.str m19),(.int .u8 m20),(ii m21),(ii m22),(ii m23),(ii m24),(ii m25),(ii m26),(ii m27),(.bool m28),m29,m30]),(ii draw31)] w K:=
 qJm (adv:=adv10) Tryz.func10 hn (Eq.mpr (by kernel_rfl) h)
set_option maxRecDepth 100000 in
def F12(hk:Hook)(n0 n1 n2 n3 n4 n5 n6 n7:Int)(n8 n9:AV)(n10:Int)(n11 n12 n13 n14:AV)(n15 n16 n17:Int)(n18:AV)(draw19:Int)(w:AW)(K:AV→AW→Prop):Prop:=
 gd (List.all [(ii n0),(ii n1),(.int .u8 n2),(ii n3),(ii n4),(ii n5),(ii n6),(ii n7),n8,n9,(ii n10),n11,n12,n13,n14,(ii n15),(ii n16),(ii n17),n18] qJc) (
 new w [(ii n0),(ii n1),(.int .u8 n2),(ii n3),(ii n4),(ii n5),(ii n6),(ii n7),n8,n9,(ii n10),n11,n12,n13,n14,(ii n15),(ii n16),(ii n17),n18] fun b20 w21=>
 new w21 [(ii 0),(ii 0),(.int .u8 0),(ii 0),(ii 0),(ii 0),(ii 0),(ii 0),.nilslice,.nilslice,(ii 0),.nilslice,.nilslice,.nilslice,.nilslice,(ii 0),(ii 0),(ii 0),.nilslice] fun b22 w23=>
 ∃x24 x25 x26 x27 x28 x29 x30 x31:Int,∃x32 x33:AV,∃x34:Int,∃x35 x36 x37 x38:AV,∃x39 x40 x41:Int,∃x42:AV,ldN 19 w23 b20 0=some (.agg [(ii x24),(ii x25),(.int .u8 x26),(ii x27),(ii x28),(ii x29),(ii x30),(ii x31),x32,x33,(ii x34),x35,x36,x37,x38,(ii x39),(ii x40),(ii x41),x42])∧
 Cl Tryz.prog hk 8 [(.agg [(ii x24),(ii x25),(.int .u8 x26),(ii x27),(ii x28),(ii x29),(ii x30),(ii x31),x32,x33,(ii x34),x35,x36,x37,x38,(ii x39),(ii x40),(ii x41),x42])] w23 fun r43 w44=>
 ∃x45:Bool,r43=(.bool x45)∧
 ifT (!x45) (onM (AW.putCells w44 b22 0 [(ii 0),(ii 0),(.int .u8 0),(ii 0),(ii 0),(ii 0),(ii 0),(ii 0),.nilslice,.nilslice,(ii 0),.nilslice,.nilslice,.nilslice,.nilslice,(ii 0),(ii 0),(ii 0),.nilslice]) fun w46=>
  ∃res47 res48 res49 res50 res51 res52 res53 res54:Int,∃res55 res56:AV,∃res57:Int,∃res58 res59 res60 res61:AV,∃res62 res63 res64:Int,∃res65:AV,ldN 19 w46 b22 0=some (.agg [(ii res47),(ii res48),(.int .u8 res49),(ii res50),(ii res51),(ii res52),(ii res53),(ii res54),res55,res56,(ii res57),res58,res59,res60,res61,(ii res62),(ii res63),(ii res64),res65])∧
 K (.tup [(.agg [(ii res47),(ii res48),(.int .u8 res49),(ii res50),(ii res51),(ii res52),(ii res53),(ii res54),res55,res56,(ii res57),res58,res59,res60,res61,(ii res62),(ii res63),(ii res64),res65]),.nilslice,(ii 2)]) w46)
 (∃x66 x67 x68 x69 x70 x71 x72 x73:Int,∃x74 x75:AV,∃x76:Int,∃x77 x78 x79 x80:AV,∃x81 x82 x83:Int,∃x84:AV,ldN 19 w44 b20 0=some (.agg [(ii x66),(ii x67),(.int .u8 x68),(ii x69),(ii x70),(ii x71),(ii x72),(ii x73),x74,x75,(ii x76),x77,x78,x79,x80,(ii x81),(ii x82),(ii x83),x84])∧
 Cl Tryz.prog hk 43 [(.agg [(ii x66),(ii x67),(.int .u8 x68),(ii x69),(ii x70),(ii x71),(ii x72),(ii x73),x74,x75,(ii x76),x77,x78,x79,x80,(ii x81),(ii x82),(ii x83),x84]),(ii draw19)] w44 fun r85 w86=>
 onP r85 fun b87 o88=>
 ∃x89:Int,ld w86 b87 ((o88+0)+16)=some (ii x89)∧
 onP r85 fun b90 o91=>
 onM (AW.putCells w86 b90 ((o91+0)+16) [(ii (wi (x89+1)))]) fun w92=>
 join (fun l_93 w94=>l_93=[]∧∀_:Nat→AV,
  onP r85 fun b96 o97=>
  ∃x98 x99 x100 x101 x102 x103 x104 x105:Int,∃x106 x107:AV,∃x108:Int,∃x109 x110 x111 x112:AV,∃x113 x114 x115:Int,∃x116:AV,ldN 19 w94 b96 (o97+0)=some (.agg [(ii x98),(ii x99),(.int .u8 x100),(ii x101),(ii x102),(ii x103),(ii x104),(ii x105),x106,x107,(ii x108),x109,x110,x111,x112,(ii x113),(ii x114),(ii x115),x116])∧
  onP r85 fun b117 o118=>
  onM (ld w94 b117 (o118+19)) fun x119=>
  gd (List.all [(ii x98),(ii x99),(.int .u8 x100),(ii x101),(ii x102),(ii x103),(ii x104),(ii x105),x106,x107,(ii x108),x109,x110,x111,x112,(ii x113),(ii x114),(ii x115),x116] qJc) (
  onM (AW.putCells w94 b22 0 [(ii x98),(ii x99),(.int .u8 x100),(ii x101),(ii x102),(ii x103),(ii x104),(ii x105),x106,x107,(ii x108),x109,x110,x111,x112,(ii x113),(ii x114),(ii x115),x116]) fun w120=>
  ld w120 b117 (o118+19)=some x119∧
  ∃res121 res122 res123 res124 res125 res126 res127 res128:Int,∃res129 res130:AV,∃res131:Int,∃res132 res133 res134 res135:AV,∃res136 res137 res138:Int,∃res139:AV,ldN 19 w120 b22 0=some (.agg [(ii res121),(ii res122),(.int .u8 res123),(ii res124),(ii res125),(ii res126),(ii res127),(ii res128),res129,res130,(ii res131),res132,res133,res134,res135,(ii res136),(ii res137),(ii res138),res139])∧
 K (.tup [(.agg [(ii res121),(ii res122),(.int .u8 res123),(ii res124),(ii res125),(ii res126),(ii res127),(ii res128),res129,res130,(ii res131),res132,res133,res134,res135,(ii res136),(ii res137),(ii res138),res139]),x119,(ii 0)]) w120)) fun J95=>
 join (fun l_140 w141=>∃x143:Bool,l_140=[(.bool x143)]∧∀_:Nat→AV,
  ifT x143 (onP r85 fun b144 o145=>
  onM (AW.putCells w141 b144 ((o145+0)+16) [(ii 0)]) fun w146=>
  Cl Tryz.prog hk 49 [r85,(.func 50 [r85] [])] w146 fun r147 w148=>
  r147= .tup []∧
  J95 [] w148)
  (∃x149:Int,ld w141 b20 (0+2)=some (.int .u8 x149)∧
  ifT (!decide (x149=3)) (onP r85 fun b150 o151=>
  ∃x152:Int,ld w141 b150 ((o151+0)+16)=some (ii x152)∧
  ∃x153:Int,ld w141 b20 (0+17)=some (ii x153)∧
  ifT (decide (x153≤x152)) (Cl Tryz.prog hk 51 [r85] w141 fun r154 w155=>
   r154= .tup []∧
   J95 [] w155)
  (J95 [] w141))
  (J95 [] w141))) fun J142=>
 ∃x156:Int,ld w92 b20 (0+2)=some (.int .u8 x156)∧
 ifT (decide (x156=3)) (onP r85 fun b157 o158=>
 ∃x159:Int,ld w92 b157 ((o158+0)+16)=some (ii x159)∧
 J142 [(.bool (decide (2≤x159)))] w92)
 (J142 [(.bool false)] w92)))
def adv12:Adv:=(.sq .lf (.sq (.sq .lf (.cd (.sq .lf .lf) .lf)) (.sq .lf (.sq .lf (.sj [] (.bl (.sj [(24,.sc (.bool))] .lf (.cd (.sq .lf .lf) (.sq .lf (.cd .lf .lf))))) (.sq .lf .lf))))))
set_option maxRecDepth 100000 in
theorem in12 {hk:Hook}{n0 n1 n2 n3 n4 n5 n6 n7:Int}{n8 n9:AV}{n10:Int}{n11 n12 n13 n14:AV}{n15 n16 n17:Int}{n18:AV}{draw19:Int}{w:AW}{K:AV→AW→Prop}(hn:hk 12 [(.agg [(ii n0),(ii n1),(.int .u8 n2),(ii n3),(ii n4),(ii n5),(ii n6),(ii n7),n8,n9,(ii n10),n11,n12,n13,n14,(ii n15),(ii n16),(ii n17),n18]),(ii draw19)] w=none)(h:F12 hk n0 n1 n2 n3 n4 n5 n6 n7 n8 n9 n10 n11 n12 n13 n14 n15 n16 n17 n18 draw19 w K):Cl Tryz.prog hk 12 [(.agg [(ii n0),(ii n1),(.int .u8 n2),(ii n3),(ii n4),(ii n5),(ii n6),(ii n7),n8,n9,(ii n10),n11,n12,n13,n14,(ii n15),(ii n16),(ii n17),n18]),(ii draw19)] w K:=
 qJm (adv:=adv12) Tryz.func12 hn (Eq.mpr (by kernel_rfl) h)
def F42(hk:Hook)(n0 n1 n2 n3 n4 n5 n6 n7:Int)(n8 n9:AV)(n10:Int)(n11 n12 n13 n14:AV)(n15 n16 n17:Int)(n18:AV)(m19:List UInt8)(m20 m21 m22 m23 m24 m25 m26 m27:Int)(m28:Bool)(m29 m30:AV)(w:AW)(K:AV→AW→Prop):Prop:=
 gd (List.all [(ii n0),(ii n1),(.int .u8 n2),(ii n3),(ii n4),(ii n5),(ii n6),(ii n7),n8,n9,(ii n10),n11,n12,n13,n14,(ii n15),(ii n16),(ii n17),n18] qJc) (
 new w [(ii n0),(ii n1),(.int .u8 n2),(ii n3),(ii n4),(ii n5),(ii n6),(ii n7),n8,n9,(ii n10),n11,n12,n13,n14,(ii n15),(ii n16),(ii n17),n18] fun b31 w32=>
 gd (List.all [(.str m19),(.int .u8 m20),(ii m21),(ii m22),(ii m23),(ii m24),(ii m25),(ii m26),(ii m27),(.bool m28),m29,m30] qJc) (
 new w32 [(.str m19),(.int .u8 m20),(ii m21),(ii m22),(ii m23),(ii m24),(ii m25),(ii m26),(ii m27),(.bool m28),m29,m30] fun b33 w34=>
 ∃x35:Int,ld w34 b33 (0+3)=some (ii x35)∧
 ∃x36:Int,ld w34 b31 (0+0)=some (ii x36)∧
 ifT (decide (x35=x36)) (∃x37:Int,ld w34 b33 (0+2)=some (ii x37)∧
 ∃x38:Int,ld w34 b31 (0+0)=some (ii x38)∧
 ifT (!decide (x37=x38)) (∃x39:Int,ld w34 b31 (0+1)=some (ii x39)∧
 ∃x40:Int,ld w34 b33 (0+2)=some (ii x40)∧
 new w34 [(ii x40)] fun b41 w42=>
 Cl Tryz.prog hk 37 [(ii 1),(ii x39),(.slice b41 0 1 1 none)] w42 fun r43 w44=>
 ∃x45:Bool,r43=(.bool x45)∧
 ifT x45 (∃x46:Int,ld w44 b33 (0+1)=some (.int .u8 x46)∧
 new w44 [(ii (wi x46))] fun b47 w48=>
 Cl Tryz.prog hk 37 [(ii 1),(ii 5),(.slice b47 0 1 1 none)] w48 fun r49 w50=>
 ∃x51:Bool,r49=(.bool x51)∧
 ifT x51 (∃x52:Int,ld w50 b33 (0+4)=some (ii x52)∧
 new w50 [(ii x52)] fun b53 w54=>
 Cl Tryz.prog hk 37 [(ii 1),(ii 1099511627776),(.slice b53 0 1 1 none)] w54 fun r55 w56=>
 ∃x57:Bool,r55=(.bool x57)∧
 ifT x57 (∃x58:Int,ld w56 b33 (0+5)=some (ii x58)∧
 ∃x59:Int,ld w56 b33 (0+7)=some (ii x59)∧
 ∃x60:Int,ld w56 b33 (0+8)=some (ii x60)∧
 new w56 [(ii x58),(ii x59),(ii x60)] fun b61 w62=>
 Cl Tryz.prog hk 37 [(ii 0),(ii 1099511627776),(.slice b61 0 3 3 none)] w62 fun r63 w64=>
 ∃x65:Bool,r63=(.bool x65)∧
 ifT x65 (∃x66:Int,ld w64 b33 (0+6)=some (ii x66)∧
 ifT (decide (0≤x66)) (∃x67:Int,ld w64 b33 (0+6)=some (ii x67)∧
 ∃x68:Int,ld w64 b33 (0+4)=some (ii x68)∧
 onM (ld w64 b33 (0+10)) fun x69=>
 Cl Tryz.prog hk 38 [(ii x67),(ii x68),x69] w64 fun r70 w71=>
 ∃x72:Bool,r70=(.bool x72)∧
 ifT x72 (onM (ld w71 b33 (0+11)) fun x73=>
 ∃x74:Int,lenS x73=some (ii x74)∧
 K (.bool (decide (x74≤60000))) w71)
 (K (.bool false) w71))
 (K (.bool false) w64))
 (K (.bool false) w64))
 (K (.bool false) w56))
 (K (.bool false) w50))
 (K (.bool false) w44))
 (K (.bool false) w34))
 (K (.bool false) w34)))
def adv42:Adv:=(.sq .lf (.sq .lf .lf))
set_option maxRecDepth 100000 in
theorem in42 {hk:Hook}{n0 n1 n2 n3 n4 n5 n6 n7:Int}{n8 n9:AV}{n10:Int}{n11 n12 n13 n14:AV}{n15 n16 n17:Int}{n18:AV}{m19:List UInt8}{m20 m21 m22 m23 m24 m25 m26 m27:Int}{m28:Bool}{m29 m30:AV}{w:AW}{K:AV→AW→Prop}(hn:hk 42 [(.agg [(ii n0),(ii n1),(.int .u8 n2),(ii n3),(ii n4),(ii n5),(ii n6),(ii n7),n8,n9,(ii n10),n11,n12,n13,n14,(ii n15),(ii n16),(ii n17),n18]),(.agg [(.str m19),(.int .u8 m20),(ii m21),(ii m22),(ii m23),(ii m24),(ii m25),(ii m26),(ii m27),(.bool m28),m29,m30])] w=none)(h:F42 hk n0 n1 n2 n3 n4 n5 n6 n7 n8 n9 n10 n11 n12 n13 n14 n15 n16 n17 n18 m19 m20 m21 m22 m23 m24 m25 m26 m27 m28 m29 m30 w K):Cl Tryz.prog hk 42 [(.agg [(ii n0),(ii n1),(.int .u8 n2),(ii n3),(ii n4),(ii n5),(ii n6),(ii n7),n8,n9,(ii n10),n11,n12,n13,n14,(ii n15),(ii n16),(ii n17),n18]),(.agg [(.str m19),(.int .u8 m20),(ii m21),(ii m22),(ii m23),(ii m24),(ii m25),(ii m26),(ii m27),(.bool m28),m29,m30])] w K:=
 qJm (adv:=adv42) Tryz.func42 hn (Eq.mpr (by kernel_rfl) h)
def F44(hk:Hook)(w0:AV)(term1:Int)(w:AW)(K:AV→AW→Prop):Prop:=
 onP w0 fun b2 o3=>
 onM (AW.putCells w b2 ((o3+0)+2) [(.int .u8 1)]) fun w4=>
 join (fun l_5 w6=>l_5=[]∧∀_:Nat→AV,
  Cl Tryz.prog hk 86 [w0] w6 fun r8 w9=>
  r8= .tup []∧
  K (.tup []) w9) fun J7=>
 ∃x10:Int,ld w4 b2 ((o3+0)+3)=some (ii x10)∧
 ifT (decide (x10<term1)) (onP w0 fun b11 o12=>
  ∃x13:Int,ld w4 b11 (o12+20)=some (ii x13)∧
  Cl Tryz.prog hk 71 [(ii x13)] w4 fun r14 w15=>
  ∃x16:Int,r14=(ii x16)∧
  onM (AW.putCells w15 b2 ((o3+0)+3) [(ii term1)]) fun w17=>
  onM (AW.putCells w17 b2 ((o3+0)+4) [(ii 0)]) fun w18=>
  onM (AW.putCells w18 b2 ((o3+0)+5) [(ii 0)]) fun w19=>
  onM (AW.putCells w19 b2 ((o3+0)+17) [(ii x16)]) fun w20=>
  J7 [] w20)
 (J7 [] w4)
def adv44:Adv:=(.sq .lf (.sq .lf (.sj [] (.sq .lf (.cd .lf .lf)) .lf)))
set_option maxRecDepth 100000 in
theorem in44 {hk:Hook}{w0:AV}{term1:Int}{w:AW}{K:AV→AW→Prop}(hn:hk 44 [w0,(ii term1)] w=none)(h:F44 hk w0 term1 w K):Cl Tryz.prog hk 44 [w0,(ii term1)] w K:=
 qJm (adv:=adv44) Tryz.func44 hn (Eq.mpr (by kernel_rfl) h)
def F45(hk:Hook)(w0:AV)(k1:Int)(w:AW)(K:AV→AW→Prop):Prop:=
 onM (bJt Tryz.prog 119 (.agg [(.func 87 [w0] []),(.func 88 [w0] []),(.func 89 [w0] []),(.func 90 [w0] []),(.func 91 [w0] [])]) (.int .u8 (IntKind.wrap .u8 (k1 - 1)))) fun x2=>
 K x2 w
def adv45:Adv:=(.sq .lf (.sq .lf .lf))
set_option maxRecDepth 100000 in
theorem eq45(hk:Hook)(w0:AV)(k1:Int)(w:AW)(K:AV→AW→Prop):fnS Tryz.prog hk Tryz.f45 adv45 [w0,(.int .u8 k1)] w K=F45 hk w0 k1 w K:=by kernel_rfl
theorem in45 {hk:Hook}{w0:AV}{k1:Int}{w:AW}{K:AV→AW→Prop}(hn:hk 45 [w0,(.int .u8 k1)] w=none)(h:F45 hk w0 k1 w K):Cl Tryz.prog hk 45 [w0,(.int .u8 k1)] w K:=
 qJm Tryz.func45 hn (by rw[eq45];exact h)
set_option maxRecDepth 100000 in
def F51(hk:Hook)(w0:AV)(w:AW)(K:AV→AW→Prop):Prop:=
 gd (qJc w0) (
 new w [w0] fun b1 w2=>
 onM (ld w2 b1 0) fun x3=>
 onP x3 fun b4 o5=>
 new w2 [.nilptr] fun b6 w7=>
 onM (AW.putCells w7 b6 0 [(.ptr b4 (o5+0))]) fun w8=>
 onM (ld w8 b6 0) fun x9=>
 onP x9 fun b10 o11=>
 onM (AW.putCells w8 b10 (o11+16) [(ii 0)]) fun w12=>
 onM (ld w12 b6 0) fun x13=>
 onP x13 fun b14 o15=>
 ∃x16:Int,ld w12 b14 (o15+3)=some (ii x16)∧
 ifT (decide (x16=1099511627776)) (K (.tup []) w12)
 (onM (ld w12 b1 0) fun x17=>
 Cl Tryz.prog hk 86 [x17] w12 fun r18 w19=>
 r18= .tup []∧
 onM (ld w19 b6 0) fun x20=>
 onM (ld w19 b6 0) fun x21=>
 onM (ld w19 b6 0) fun x22=>
 onM (ld w19 b6 0) fun x23=>
 onM (ld w19 b6 0) fun x24=>
 onP x24 fun b25 o26=>
 ∃x27:Int,ld w19 b25 (o26+0)=some (ii x27)∧
 onM (ld w19 b1 0) fun x28=>
 onP x28 fun b29 o30=>
 ∃x31:Int,ld w19 b29 (o30+20)=some (ii x31)∧
 Cl Tryz.prog hk 71 [(ii x31)] w19 fun r32 w33=>
 ∃x34:Int,r32=(ii x34)∧
 ld w33 b25 (o26+0)=some (ii x27)∧
 ld w33 b6 0=some x24∧
 ld w33 b6 0=some x23∧
 ld w33 b6 0=some x22∧
 ld w33 b6 0=some x21∧
 ld w33 b6 0=some x20∧
 onP x20 fun b35 o36=>
 onM (AW.putCells w33 b35 (o36+2) [(.int .u8 2)]) fun w37=>
 ld w37 b6 0=some x23∧
 ld w37 b6 0=some x22∧
 ld w37 b6 0=some x21∧
 onP x21 fun b38 o39=>
 onM (AW.putCells w37 b38 (o39+5) [(ii 0)]) fun w40=>
 ld w40 b6 0=some x23∧
 ld w40 b6 0=some x22∧
 onP x22 fun b41 o42=>
 onM (AW.putCells w40 b41 (o42+4) [(ii x27)]) fun w43=>
 ld w43 b6 0=some x23∧
 onP x23 fun b44 o45=>
 onM (AW.putCells w43 b44 (o45+17) [(ii x34)]) fun w46=>
 onM (ld w46 b6 0) fun x47=>
 onP x47 fun b48 o49=>
 ∃x50:Int,ld w46 b48 (o49+3)=some (ii x50)∧
 onP x47 fun b51 o52=>
 onM (AW.putCells w46 b51 (o52+3) [(ii (wi (x50+1)))]) fun w53=>
 onM (ld w53 b6 0) fun x54=>
 onP x54 fun b55 o56=>
 onM (ld w53 b55 (o56+11)) fun x57=>
 onM (ld w53 b6 0) fun x58=>
 onP x58 fun b59 o60=>
 ∃x61:Int,ld w53 b59 (o60+0)=some (ii x61)∧
 atP (idxS 1 x57 (ii (wi (x61 - 1)))) fun b62 o63=>
 onM (AW.putCells w53 b62 o63 [(.bool true)]) fun w64=>
 onM (ld w64 b1 0) fun x65=>
 Cl Tryz.prog hk 93 [x65] w64 fun r66 w67=>
 ∃x68:Bool,r66=(.bool x68)∧
 ifT x68 (K (.tup []) w67)
 (onM (ld w67 b6 0) fun x69=>
 onP x69 fun b70 o71=>
 ∃x72 x73 x74 x75 x76 x77 x78 x79:Int,∃x80 x81:AV,∃x82:Int,∃x83 x84 x85 x86:AV,∃x87 x88 x89:Int,∃x90:AV,ldN 19 w67 b70 o71=some (.agg [(ii x72),(ii x73),(.int .u8 x74),(ii x75),(ii x76),(ii x77),(ii x78),(ii x79),x80,x81,(ii x82),x83,x84,x85,x86,(ii x87),(ii x88),(ii x89),x90])∧
 onM (ld w67 b6 0) fun x91=>
 onP x91 fun b92 o93=>
 ∃x94 x95 x96 x97 x98 x99 x100 x101:Int,∃x102 x103:AV,∃x104:Int,∃x105 x106 x107 x108:AV,∃x109 x110 x111:Int,∃x112:AV,ldN 19 w67 b92 o93=some (.agg [(ii x94),(ii x95),(.int .u8 x96),(ii x97),(ii x98),(ii x99),(ii x100),(ii x101),x102,x103,(ii x104),x105,x106,x107,x108,(ii x109),(ii x110),(ii x111),x112])∧
 new w67 [(ii 0)] fun b113 w114=>
 ldN 19 w114 b92 o93=some (.agg [(ii x94),(ii x95),(.int .u8 x96),(ii x97),(ii x98),(ii x99),(ii x100),(ii x101),x102,x103,(ii x104),x105,x106,x107,x108,(ii x109),(ii x110),(ii x111),x112])∧
 ld w114 b6 0=some x91∧
 ldN 19 w114 b70 o71=some (.agg [(ii x72),(ii x73),(.int .u8 x74),(ii x75),(ii x76),(ii x77),(ii x78),(ii x79),x80,x81,(ii x82),x83,x84,x85,x86,(ii x87),(ii x88),(ii x89),x90])∧
 ld w114 b6 0=some x69∧
 Cl Tryz.prog hk 36 [(.agg [(ii x94),(ii x95),(.int .u8 x96),(ii x97),(ii x98),(ii x99),(ii x100),(ii x101),x102,x103,(ii x104),x105,x106,x107,x108,(ii x109),(ii x110),(ii x111),x112])] w114 fun r115 w116=>
 ∃x117:Int,r115=(ii x117)∧
 ldN 19 w116 b70 o71=some (.agg [(ii x72),(ii x73),(.int .u8 x74),(ii x75),(ii x76),(ii x77),(ii x78),(ii x79),x80,x81,(ii x82),x83,x84,x85,x86,(ii x87),(ii x88),(ii x89),x90])∧
 ld w116 b6 0=some x69∧
 Cl Tryz.prog hk 53 [(.agg [(ii x72),(ii x73),(.int .u8 x74),(ii x75),(ii x76),(ii x77),(ii x78),(ii x79),x80,x81,(ii x82),x83,x84,x85,x86,(ii x87),(ii x88),(ii x89),x90]),(ii x117)] w116 fun r118 w119=>
 ∃x120:Int,∃x121:Bool,r118= .tup [(ii x120),(.bool x121)]∧
 onM (AW.putCells w119 b113 0 [(ii x120)]) fun w122=>
 onM (ld w122 b1 0) fun x123=>
 Cl Tryz.prog hk 49 [x123,(.func 94 [] [(.ptr b1 0),(.ptr b6 0),(.ptr b113 0)])] w122 fun r124 w125=>
 r124= .tup []∧
 K (.tup []) w125)))
def adv51:Adv:=(.sq .lf (.sq .lf (.sq .lf (.sq (.sq .lf (.cd .lf .lf)) (.sq .lf (.sq .lf (.sq .lf (.sq .lf (.sq (.sq .lf (.cd .lf .lf)) (.sq .lf .lf))))))))))
set_option maxRecDepth 100000 in
theorem in51 {hk:Hook}{w0:AV}{w:AW}{K:AV→AW→Prop}(hn:hk 51 [w0] w=none)(h:F51 hk w0 w K):Cl Tryz.prog hk 51 [w0] w K:=
 qJm (adv:=adv51) Tryz.func51 hn (Eq.mpr (by kernel_rfl) h)
def F86(hk:Hook)(w0:AV)(w:AW)(K:AV→AW→Prop):Prop:=
 onP w0 fun b1 o2=>
 onM (ld w b1 ((o2+0)+11)) fun x3=>
 onE ((yJg Tryz.prog w 25 x3).map fun w'=>(Go.Sx.undef,w')) fun r4 w5=>
 onM (ld w5 b1 ((o2+0)+12)) fun x6=>
 onE ((yJg Tryz.prog w5 26 x6).map fun w'=>(Go.Sx.undef,w')) fun r7 w8=>
 onM (ld w8 b1 ((o2+0)+13)) fun x9=>
 onE ((yJg Tryz.prog w8 26 x9).map fun w'=>(Go.Sx.undef,w')) fun r10 w11=>
 onM (ld w11 b1 ((o2+0)+14)) fun x12=>
 onE ((yJg Tryz.prog w11 26 x12).map fun w'=>(Go.Sx.undef,w')) fun r13 w14=>
 onM (AW.putCells w14 b1 ((o2+0)+15) [(ii 0)]) fun w15=>
 onM (AW.putCells w15 b1 ((o2+0)+18) [.nilslice]) fun w16=>
 K (.tup []) w16
def adv86:Adv:=(.sq .lf (.sq .lf (.sq .lf (.sq .lf (.sq .lf .lf)))))
set_option maxRecDepth 100000 in
theorem in86 {hk:Hook}{w0:AV}{w:AW}{K:AV→AW→Prop}(hn:hk 86 [w0] w=none)(h:F86 hk w0 w K):Cl Tryz.prog hk 86 [w0] w K:=
 qJm (adv:=adv86) Tryz.func86 hn (Eq.mpr (by kernel_rfl) h)
set_option maxRecDepth 100000 in
def F87(hk:Hook)(w0:AV)(m1:List UInt8)(m2 m3 m4 m5 m6 m7 m8 m9:Int)(m10:Bool)(m11 m12:AV)(w:AW)(K:AV→AW→Prop):Prop:=
 gd (List.all [(.str m1),(.int .u8 m2),(ii m3),(ii m4),(ii m5),(ii m6),(ii m7),(ii m8),(ii m9),(.bool m10),m11,m12] qJc) (
 new w [(.str m1),(.int .u8 m2),(ii m3),(ii m4),(ii m5),(ii m6),(ii m7),(ii m8),(ii m9),(.bool m10),m11,m12] fun b13 w14=>
 onP w0 fun b15 o16=>
 ∃x17 x18 x19 x20 x21 x22 x23 x24:Int,∃x25 x26:AV,∃x27:Int,∃x28 x29 x30 x31:AV,∃x32 x33 x34:Int,∃x35:AV,ldN 19 w14 b15 (o16+0)=some (.agg [(ii x17),(ii x18),(.int .u8 x19),(ii x20),(ii x21),(ii x22),(ii x23),(ii x24),x25,x26,(ii x27),x28,x29,x30,x31,(ii x32),(ii x33),(ii x34),x35])∧
 ∃x36 x37 x38 x39 x40 x41 x42 x43:Int,∃x44 x45:AV,∃x46:Int,∃x47 x48 x49 x50:AV,∃x51 x52 x53:Int,∃x54:AV,ldN 19 w14 b15 (o16+0)=some (.agg [(ii x36),(ii x37),(.int .u8 x38),(ii x39),(ii x40),(ii x41),(ii x42),(ii x43),x44,x45,(ii x46),x47,x48,x49,x50,(ii x51),(ii x52),(ii x53),x54])∧
 Cl Tryz.prog hk 36 [(.agg [(ii x36),(ii x37),(.int .u8 x38),(ii x39),(ii x40),(ii x41),(ii x42),(ii x43),x44,x45,(ii x46),x47,x48,x49,x50,(ii x51),(ii x52),(ii x53),x54])] w14 fun r55 w56=>
 ∃x57:Int,r55=(ii x57)∧
 ldN 19 w56 b15 (o16+0)=some (.agg [(ii x17),(ii x18),(.int .u8 x19),(ii x20),(ii x21),(ii x22),(ii x23),(ii x24),x25,x26,(ii x27),x28,x29,x30,x31,(ii x32),(ii x33),(ii x34),x35])∧
 Cl Tryz.prog hk 53 [(.agg [(ii x17),(ii x18),(.int .u8 x19),(ii x20),(ii x21),(ii x22),(ii x23),(ii x24),x25,x26,(ii x27),x28,x29,x30,x31,(ii x32),(ii x33),(ii x34),x35]),(ii x57)] w56 fun r58 w59=>
 ∃x60:Int,∃x61:Bool,r58= .tup [(ii x60),(.bool x61)]∧
 ∃x62:Int,ld w59 b15 ((o16+0)+3)=some (ii x62)∧
 ∃x63:Int,ld w59 b15 ((o16+0)+4)=some (ii x63)∧
 ∃x64 x65 x66 x67 x68 x69 x70 x71:Int,∃x72 x73:AV,∃x74:Int,∃x75 x76 x77 x78:AV,∃x79 x80 x81:Int,∃x82:AV,ldN 19 w59 b15 (o16+0)=some (.agg [(ii x64),(ii x65),(.int .u8 x66),(ii x67),(ii x68),(ii x69),(ii x70),(ii x71),x72,x73,(ii x74),x75,x76,x77,x78,(ii x79),(ii x80),(ii x81),x82])∧
 ∃x83:List UInt8,∃x84 x85 x86 x87 x88 x89 x90 x91:Int,∃x92:Bool,∃x93 x94:AV,ldN 12 w59 b13 0=some (.agg [(.str x83),(.int .u8 x84),(ii x85),(ii x86),(ii x87),(ii x88),(ii x89),(ii x90),(ii x91),(.bool x92),x93,x94])∧
 Cl Tryz.prog hk 36 [(.agg [(ii x64),(ii x65),(.int .u8 x66),(ii x67),(ii x68),(ii x69),(ii x70),(ii x71),x72,x73,(ii x74),x75,x76,x77,x78,(ii x79),(ii x80),(ii x81),x82])] w59 fun r95 w96=>
 ∃x97:Int,r95=(ii x97)∧
 ldN 12 w96 b13 0=some (.agg [(.str x83),(.int .u8 x84),(ii x85),(ii x86),(ii x87),(ii x88),(ii x89),(ii x90),(ii x91),(.bool x92),x93,x94])∧
 ld w96 b15 ((o16+0)+4)=some (ii x63)∧
 ld w96 b15 ((o16+0)+3)=some (ii x62)∧
 Cl Tryz.prog hk 113 [(ii x62),(ii x63),(ii x60),(ii x97),(.agg [(.str x83),(.int .u8 x84),(ii x85),(ii x86),(ii x87),(ii x88),(ii x89),(ii x90),(ii x91),(.bool x92),x93,x94])] w96 fun r98 w99=>
 ∃x100 x101:Int,∃x102:Bool,r98= .tup [(ii x100),(ii x101),(.bool x102)]∧
 onM (AW.putCells w99 b15 ((o16+0)+4) [(ii x101)]) fun w103=>
 join (fun l_104 w105=>l_104=[]∧∀_:Nat→AV,
  ∃x107:Int,ld w105 b13 (0+2)=some (ii x107)∧
  Cl Tryz.prog hk 92 [w0,(ii x107),(.agg [(.str []),(.int .u8 2),(ii 0),(ii 0),(ii 0),(ii 0),(ii 0),(ii 0),(ii 0),(.bool x102),.nilslice,.nilslice])] w105 fun r108 w109=>
  r108= .tup []∧
  K (.tup []) w109) fun J106=>
 ifT x102 (onM (AW.putCells w103 b15 ((o16+0)+16) [(ii 0)]) fun w110=>
  J106 [] w110)
 (J106 [] w103))
def adv87:Adv:=(.sq .lf (.sq .lf (.sq .lf (.sq .lf (.sq .lf (.sj [] (.sq .lf (.cd .lf .lf)) .lf))))))
set_option maxRecDepth 100000 in
theorem in87 {hk:Hook}{w0:AV}{m1:List UInt8}{m2 m3 m4 m5 m6 m7 m8 m9:Int}{m10:Bool}{m11 m12:AV}{w:AW}{K:AV→AW→Prop}(hn:hk 87 [w0,(.agg [(.str m1),(.int .u8 m2),(ii m3),(ii m4),(ii m5),(ii m6),(ii m7),(ii m8),(ii m9),(.bool m10),m11,m12])] w=none)(h:F87 hk w0 m1 m2 m3 m4 m5 m6 m7 m8 m9 m10 m11 m12 w K):Cl Tryz.prog hk 87 [w0,(.agg [(.str m1),(.int .u8 m2),(ii m3),(ii m4),(ii m5),(ii m6),(ii m7),(ii m8),(ii m9),(.bool m10),m11,m12])] w K:=
 qJm (adv:=adv87) Tryz.func87 hn (Eq.mpr (by kernel_rfl) h)
def F88(hk:Hook)(w0:AV)(m1:List UInt8)(m2 m3 m4 m5 m6 m7 m8 m9:Int)(m10:Bool)(m11 m12:AV)(w:AW)(K:AV→AW→Prop):Prop:=
 gd (List.all [(.str m1),(.int .u8 m2),(ii m3),(ii m4),(ii m5),(ii m6),(ii m7),(ii m8),(ii m9),(.bool m10),m11,m12] qJc) (
 new w [(.str m1),(.int .u8 m2),(ii m3),(ii m4),(ii m5),(ii m6),(ii m7),(ii m8),(ii m9),(.bool m10),m11,m12] fun b13 w14=>
 onP w0 fun b15 o16=>
 ∃x17:Int,ld w14 b15 ((o16+0)+2)=some (.int .u8 x17)∧
 ifT (decide (x17=2)) (∃x18:Int,ld w14 b13 (0+4)=some (ii x18)∧
 ∃x19:Int,ld w14 b15 ((o16+0)+3)=some (ii x19)∧
 ifT (decide (x18=x19)) (∃x20:Bool,ld w14 b13 (0+9)=some (.bool x20)∧
 ifT x20 (onM (ld w14 b15 ((o16+0)+11)) fun x21=>
  ∃x22:Int,ld w14 b13 (0+2)=some (ii x22)∧
  atP (idxS 1 x21 (ii (wi (x22 - 1)))) fun b23 o24=>
  onM (AW.putCells w14 b23 o24 [(.bool true)]) fun w25=>
  Cl Tryz.prog hk 93 [w0] w25 fun r26 w27=>
  ∃x28:Bool,r26=(.bool x28)∧
  K (.tup []) w27)
 (K (.tup []) w14))
 (K (.tup []) w14))
 (K (.tup []) w14))
def adv88:Adv:=(.sq .lf (.sq .lf (.sq .lf (.cd (.sq .lf .lf) .lf))))
set_option maxRecDepth 100000 in
theorem in88 {hk:Hook}{w0:AV}{m1:List UInt8}{m2 m3 m4 m5 m6 m7 m8 m9:Int}{m10:Bool}{m11 m12:AV}{w:AW}{K:AV→AW→Prop}(hn:hk 88 [w0,(.agg [(.str m1),(.int .u8 m2),(ii m3),(ii m4),(ii m5),(ii m6),(ii m7),(ii m8),(ii m9),(.bool m10),m11,m12])] w=none)(h:F88 hk w0 m1 m2 m3 m4 m5 m6 m7 m8 m9 m10 m11 m12 w K):Cl Tryz.prog hk 88 [w0,(.agg [(.str m1),(.int .u8 m2),(ii m3),(ii m4),(ii m5),(ii m6),(ii m7),(ii m8),(ii m9),(.bool m10),m11,m12])] w K:=
 qJm (adv:=adv88) Tryz.func88 hn (Eq.mpr (by kernel_rfl) h)
def F89(hk:Hook)(w0:AV)(m1:List UInt8)(m2 m3 m4 m5 m6 m7 m8 m9:Int)(m10:Bool)(m11 m12:AV)(w:AW)(K:AV→AW→Prop):Prop:=
 gd (List.all [(.str m1),(.int .u8 m2),(ii m3),(ii m4),(ii m5),(ii m6),(ii m7),(ii m8),(ii m9),(.bool m10),m11,m12] qJc) (
 new w [(.str m1),(.int .u8 m2),(ii m3),(ii m4),(ii m5),(ii m6),(ii m7),(ii m8),(ii m9),(.bool m10),m11,m12] fun b13 w14=>
 ∃x15:List UInt8,∃x16 x17 x18 x19 x20 x21 x22 x23:Int,∃x24:Bool,∃x25 x26:AV,ldN 12 w14 b13 0=some (.agg [(.str x15),(.int .u8 x16),(ii x17),(ii x18),(ii x19),(ii x20),(ii x21),(ii x22),(ii x23),(.bool x24),x25,x26])∧
 Cl Tryz.prog hk 114 [w0,(.agg [(.str x15),(.int .u8 x16),(ii x17),(ii x18),(ii x19),(ii x20),(ii x21),(ii x22),(ii x23),(.bool x24),x25,x26])] w14 fun r27 w28=>
 ∃x29:Bool,r27=(.bool x29)∧
 ifT (!x29) (K (.tup []) w28)
 (onP w0 fun b30 o31=>
 ∃x32:Int,ld w28 b30 ((o31+0)+6)=some (ii x32)∧
 ∃x33:Int,ld w28 b30 ((o31+0)+7)=some (ii x33)∧
 onM (ld w28 b30 ((o31+0)+9)) fun x34=>
 ∃x35:Int,ld w28 b13 (0+5)=some (ii x35)∧
 ∃x36:Int,ld w28 b13 (0+6)=some (ii x36)∧
 onM (ld w28 b13 (0+10)) fun x37=>
 Cl Tryz.prog hk 115 [(ii x32),(ii x33),x34,(ii x35),(ii x36),x37] w28 fun r38 w39=>
 ∃x40:AV,∃x41:Int,∃x42:Bool,r38= .tup [x40,(ii x41),(.bool x42)]∧
 join (fun l_43 w44=>∃x46:Bool,l_43=[(.bool x46)]∧∀_:Nat→AV,
  ifT x46 (∃x47:Int,ld w44 b13 (0+2)=some (ii x47)∧
  ∃x48:Int,ld w44 b30 ((o31+0)+6)=some (ii x48)∧
  ∃x49:Int,ld w44 b30 ((o31+0)+7)=some (ii x49)∧
  onM (ld w44 b30 ((o31+0)+9)) fun x50=>
  ∃x51:Int,ld w44 b13 (0+5)=some (ii x51)∧
  ∃x52:Int,ld w44 b13 (0+8)=some (ii x52)∧
  Cl Tryz.prog hk 116 [(ii x48),(ii x49),x50,(ii x51)] w44 fun r53 w54=>
  ∃x55:Int,r53=(ii x55)∧
  ld w54 b13 (0+8)=some (ii x52)∧
  ld w54 b13 (0+2)=some (ii x47)∧
  Cl Tryz.prog hk 92 [w0,(ii x47),(.agg [(.str []),(.int .u8 4),(ii 0),(ii 0),(ii 0),(ii x55),(ii 0),(ii 0),(ii x52),(.bool false),.nilslice,.nilslice])] w54 fun r56 w57=>
  r56= .tup []∧
  K (.tup []) w57)
  (gd (qJc x40) (
 onM (AW.putCells w44 b30 ((o31+0)+9) [x40]) fun w58=>
 ∃x59:Int,ld w58 b30 ((o31+0)+10)=some (ii x59)∧
 ∃x60:Int,ld w58 b13 (0+7)=some (ii x60)∧
 onM (AW.putCells w58 b30 ((o31+0)+10) [(ii (imax x59 (imin x60 x41)))]) fun w61=>
 ∃x62:Int,ld w61 b13 (0+2)=some (ii x62)∧
 ∃x63:Int,ld w61 b13 (0+8)=some (ii x63)∧
 Cl Tryz.prog hk 92 [w0,(ii x62),(.agg [(.str []),(.int .u8 4),(ii 0),(ii 0),(ii 0),(ii x41),(ii 0),(ii 0),(ii x63),(.bool true),.nilslice,.nilslice])] w61 fun r64 w65=>
 r64= .tup []∧
 K (.tup []) w65))) fun J45=>
 ifT (!x42) (J45 [(.bool true)] w39)
 (∃x66:Int,ld w39 b30 ((o31+0)+7)=some (ii x66)∧
 ∃x67:Int,ld w39 b30 ((o31+0)+3)=some (ii x67)∧
 Cl Tryz.prog hk 38 [(ii x66),(ii x67),x40] w39 fun r68 w69=>
 ∃x70:Bool,r68=(.bool x70)∧
 ifT (!x70) (J45 [(.bool true)] w69)
 (∃x71:Int,ld w69 b30 ((o31+0)+6)=some (ii x71)∧
 ∃x72:Int,ld w69 b30 ((o31+0)+10)=some (ii x72)∧
 Cl Tryz.prog hk 79 [(ii x71),x40] w69 fun r73 w74=>
 ∃x75:Int,r73=(ii x75)∧
 ld w74 b30 ((o31+0)+10)=some (ii x72)∧
 J45 [(.bool (decide (x75<x72)))] w74))))
def adv89:Adv:=(.sq .lf (.sq (.sq .lf (.cd .lf .lf)) (.sq .lf (.sq .lf (.sq (.sj [(65,.sc (.bool))] .lf (.cd (.sq .lf .lf) .lf)) (.sq .lf (.sq .lf .lf)))))))
set_option maxRecDepth 100000 in
theorem in89 {hk:Hook}{w0:AV}{m1:List UInt8}{m2 m3 m4 m5 m6 m7 m8 m9:Int}{m10:Bool}{m11 m12:AV}{w:AW}{K:AV→AW→Prop}(hn:hk 89 [w0,(.agg [(.str m1),(.int .u8 m2),(ii m3),(ii m4),(ii m5),(ii m6),(ii m7),(ii m8),(ii m9),(.bool m10),m11,m12])] w=none)(h:F89 hk w0 m1 m2 m3 m4 m5 m6 m7 m8 m9 m10 m11 m12 w K):Cl Tryz.prog hk 89 [w0,(.agg [(.str m1),(.int .u8 m2),(ii m3),(ii m4),(ii m5),(ii m6),(ii m7),(ii m8),(ii m9),(.bool m10),m11,m12])] w K:=
 qJm (adv:=adv89) Tryz.func89 hn (Eq.mpr (by kernel_rfl) h)
set_option maxRecDepth 100000 in
def F90(hk:Hook)(w0:AV)(m1:List UInt8)(m2 m3 m4 m5 m6 m7 m8 m9:Int)(m10:Bool)(m11 m12:AV)(w:AW)(K:AV→AW→Prop):Prop:=
 gd (List.all [(.str m1),(.int .u8 m2),(ii m3),(ii m4),(ii m5),(ii m6),(ii m7),(ii m8),(ii m9),(.bool m10),m11,m12] qJc) (
 new w [(.str m1),(.int .u8 m2),(ii m3),(ii m4),(ii m5),(ii m6),(ii m7),(ii m8),(ii m9),(.bool m10),m11,m12] fun b13 w14=>
 onP w0 fun b15 o16=>
 ∃x17:Int,ld w14 b15 ((o16+0)+2)=some (.int .u8 x17)∧
 ifT (!decide (x17=3)) (K (.tup []) w14)
 (∃x18:Int,ld w14 b13 (0+4)=some (ii x18)∧
 ∃x19:Int,ld w14 b15 ((o16+0)+3)=some (ii x19)∧
 ifT (!decide (x18=x19)) (K (.tup []) w14)
 (∃x20:Int,ld w14 b13 (0+2)=some (ii x20)∧
 join (fun l_21 w22=>l_21=[]∧∀_:Nat→AV,
  ∃x24:Bool,ld w22 b13 (0+9)=some (.bool x24)∧
  ifT (!x24) (onM (ld w22 b15 ((o16+0)+12)) fun x25=>
  onM (ld w22 b15 ((o16+0)+12)) fun x26=>
  atP (idxS 1 x26 (ii (wi (x20 - 1)))) fun b27 o28=>
  ∃x29:Int,ld w22 b27 o28=some (ii x29)∧
  ∃x30:Int,ld w22 b13 (0+5)=some (ii x30)∧
  onM (ld w22 b15 ((o16+0)+13)) fun x31=>
  atP (idxS 1 x31 (ii (wi (x20 - 1)))) fun b32 o33=>
  ∃x34:Int,ld w22 b32 o33=some (ii x34)∧
  atP (idxS 1 x25 (ii (wi (x20 - 1)))) fun b35 o36=>
  onM (AW.putCells w22 b35 o36 [(ii (imax (imin (wi (x29 - 1)) (wi (x30+1))) (wi (x34+1))))]) fun w37=>
  ∃x38:Int,ld w37 b13 (0+2)=some (ii x38)∧
  Cl Tryz.prog hk 50 [w0,(ii x38)] w37 fun r39 w40=>
  r39= .tup []∧
  K (.tup []) w40)
  (∃x41:Int,ld w22 b13 (0+5)=some (ii x41)∧
  ∃x42 x43 x44 x45 x46 x47 x48 x49:Int,∃x50 x51:AV,∃x52:Int,∃x53 x54 x55 x56:AV,∃x57 x58 x59:Int,∃x60:AV,ldN 19 w22 b15 (o16+0)=some (.agg [(ii x42),(ii x43),(.int .u8 x44),(ii x45),(ii x46),(ii x47),(ii x48),(ii x49),x50,x51,(ii x52),x53,x54,x55,x56,(ii x57),(ii x58),(ii x59),x60])∧
  Cl Tryz.prog hk 36 [(.agg [(ii x42),(ii x43),(.int .u8 x44),(ii x45),(ii x46),(ii x47),(ii x48),(ii x49),x50,x51,(ii x52),x53,x54,x55,x56,(ii x57),(ii x58),(ii x59),x60])] w22 fun r61 w62=>
  ∃x63:Int,r61=(ii x63)∧
  ld w62 b13 (0+5)=some (ii x41)∧
  ifT (decide (x41≤x63)) (onM (ld w62 b15 ((o16+0)+13)) fun x64=>
   onM (ld w62 b15 ((o16+0)+13)) fun x65=>
   atP (idxS 1 x65 (ii (wi (x20 - 1)))) fun b66 o67=>
   ∃x68:Int,ld w62 b66 o67=some (ii x68)∧
   ∃x69:Int,ld w62 b13 (0+5)=some (ii x69)∧
   atP (idxS 1 x64 (ii (wi (x20 - 1)))) fun b70 o71=>
   onM (AW.putCells w62 b70 o71 [(ii (imax x68 x69))]) fun w72=>
   onM (ld w72 b15 ((o16+0)+12)) fun x73=>
   onM (ld w72 b15 ((o16+0)+12)) fun x74=>
   atP (idxS 1 x74 (ii (wi (x20 - 1)))) fun b75 o76=>
   ∃x77:Int,ld w72 b75 o76=some (ii x77)∧
   onM (ld w72 b15 ((o16+0)+13)) fun x78=>
   atP (idxS 1 x78 (ii (wi (x20 - 1)))) fun b79 o80=>
   ∃x81:Int,ld w72 b79 o80=some (ii x81)∧
   atP (idxS 1 x73 (ii (wi (x20 - 1)))) fun b82 o83=>
   onM (AW.putCells w72 b82 o83 [(ii (imax x77 (wi (x81+1))))]) fun w84=>
   Cl Tryz.prog hk 96 [w0] w84 fun r85 w86=>
   r85= .tup []∧
   onM (ld w86 b15 ((o16+0)+12)) fun x87=>
   atP (idxS 1 x87 (ii (wi (x20 - 1)))) fun b88 o89=>
   ∃x90:Int,ld w86 b88 o89=some (ii x90)∧
   ∃x91 x92 x93 x94 x95 x96 x97 x98:Int,∃x99 x100:AV,∃x101:Int,∃x102 x103 x104 x105:AV,∃x106 x107 x108:Int,∃x109:AV,ldN 19 w86 b15 (o16+0)=some (.agg [(ii x91),(ii x92),(.int .u8 x93),(ii x94),(ii x95),(ii x96),(ii x97),(ii x98),x99,x100,(ii x101),x102,x103,x104,x105,(ii x106),(ii x107),(ii x108),x109])∧
   Cl Tryz.prog hk 36 [(.agg [(ii x91),(ii x92),(.int .u8 x93),(ii x94),(ii x95),(ii x96),(ii x97),(ii x98),x99,x100,(ii x101),x102,x103,x104,x105,(ii x106),(ii x107),(ii x108),x109])] w86 fun r110 w111=>
   ∃x112:Int,r110=(ii x112)∧
   ld w111 b88 o89=some (ii x90)∧
   ld w111 b15 ((o16+0)+12)=some x87∧
   ifT (decide (x90≤x112)) (∃x113:Int,ld w111 b13 (0+2)=some (ii x113)∧
   Cl Tryz.prog hk 50 [w0,(ii x113)] w111 fun r114 w115=>
   r114= .tup []∧
   K (.tup []) w115)
   (K (.tup []) w111))
  (K (.tup []) w62))) fun J23=>
 ∃x116:Int,ld w14 b13 (0+8)=some (ii x116)∧
 ∃x117:Int,ld w14 b15 ((o16+0)+15)=some (ii x117)∧
 ifT (decide (x116≤x117)) (onM (ld w14 b15 ((o16+0)+14)) fun x118=>
  onM (ld w14 b15 ((o16+0)+14)) fun x119=>
  atP (idxS 1 x119 (ii (wi (x20 - 1)))) fun b120 o121=>
  ∃x122:Int,ld w14 b120 o121=some (ii x122)∧
  ∃x123:Int,ld w14 b13 (0+8)=some (ii x123)∧
  atP (idxS 1 x118 (ii (wi (x20 - 1)))) fun b124 o125=>
  onM (AW.putCells w14 b124 o125 [(ii (imax x122 x123))]) fun w126=>
  J23 [] w126)
 (J23 [] w14))))
def adv90:Adv:=(.sq .lf (.sq .lf (.sq (.sq .lf (.cd .lf .lf)) (.sq .lf (.sj [] (.sq .lf (.cd .lf .lf)) (.bl (.sq .lf (.cd (.sq .lf .lf) (.sq .lf (.cd (.sq .lf (.sq .lf (.sq .lf (.sq .lf (.cd .lf .lf))))) .lf))))))))))
set_option maxRecDepth 100000 in
theorem in90 {hk:Hook}{w0:AV}{m1:List UInt8}{m2 m3 m4 m5 m6 m7 m8 m9:Int}{m10:Bool}{m11 m12:AV}{w:AW}{K:AV→AW→Prop}(hn:hk 90 [w0,(.agg [(.str m1),(.int .u8 m2),(ii m3),(ii m4),(ii m5),(ii m6),(ii m7),(ii m8),(ii m9),(.bool m10),m11,m12])] w=none)(h:F90 hk w0 m1 m2 m3 m4 m5 m6 m7 m8 m9 m10 m11 m12 w K):Cl Tryz.prog hk 90 [w0,(.agg [(.str m1),(.int .u8 m2),(ii m3),(ii m4),(ii m5),(ii m6),(ii m7),(ii m8),(ii m9),(.bool m10),m11,m12])] w K:=
 qJm (adv:=adv90) Tryz.func90 hn (Eq.mpr (by kernel_rfl) h)
def F91(hk:Hook)(w0:AV)(m1:List UInt8)(m2 m3 m4 m5 m6 m7 m8 m9:Int)(m10:Bool)(m11 m12:AV)(w:AW)(K:AV→AW→Prop):Prop:=
 gd (List.all [(.str m1),(.int .u8 m2),(ii m3),(ii m4),(ii m5),(ii m6),(ii m7),(ii m8),(ii m9),(.bool m10),m11,m12] qJc) (
 new w [(.str m1),(.int .u8 m2),(ii m3),(ii m4),(ii m5),(ii m6),(ii m7),(ii m8),(ii m9),(.bool m10),m11,m12] fun b13 w14=>
 ∃x15:List UInt8,∃x16 x17 x18 x19 x20 x21 x22 x23:Int,∃x24:Bool,∃x25 x26:AV,ldN 12 w14 b13 0=some (.agg [(.str x15),(.int .u8 x16),(ii x17),(ii x18),(ii x19),(ii x20),(ii x21),(ii x22),(ii x23),(.bool x24),x25,x26])∧
 Cl Tryz.prog hk 114 [w0,(.agg [(.str x15),(.int .u8 x16),(ii x17),(ii x18),(ii x19),(ii x20),(ii x21),(ii x22),(ii x23),(.bool x24),x25,x26])] w14 fun r27 w28=>
 ∃x29:Bool,r27=(.bool x29)∧
 ifT (!x29) (K (.tup []) w28)
 (onP w0 fun b30 o31=>
 join (fun l_32 w33=>l_32=[]∧∀_:Nat→AV,
  ∃x35:Int,ld w33 b13 (0+2)=some (ii x35)∧
  ∃x36:Int,ld w33 b30 ((o31+0)+10)=some (ii x36)∧
  ∃x37:Int,ld w33 b13 (0+8)=some (ii x37)∧
  Cl Tryz.prog hk 92 [w0,(ii x35),(.agg [(.str []),(.int .u8 4),(ii 0),(ii 0),(ii 0),(ii x36),(ii 0),(ii 0),(ii x37),(.bool true),.nilslice,.nilslice])] w33 fun r38 w39=>
  r38= .tup []∧
  K (.tup []) w39) fun J34=>
 ∃x40:Int,ld w28 b13 (0+5)=some (ii x40)∧
 ∃x41:Int,ld w28 b30 ((o31+0)+10)=some (ii x41)∧
 ifT (decide (x41<x40)) (join (fun l_42 w43=>l_42=[]∧∀_:Nat→AV,
  ∃x45:Int,ld w43 b13 (0+5)=some (ii x45)∧
  ∃x46:Int,ld w43 b13 (0+6)=some (ii x46)∧
  onM (ld w43 b13 (0+11)) fun x47=>
  ∃x48:Int,ld w43 b13 (0+5)=some (ii x48)∧
  Cl Tryz.prog hk 55 [x47] w43 fun r49 w50=>
  ld w50 b13 (0+5)=some (ii x48)∧
  ld w50 b13 (0+6)=some (ii x46)∧
  ld w50 b13 (0+5)=some (ii x45)∧
  onM (AW.putCells w50 b30 ((o31+0)+6) [(ii x45)]) fun w51=>
  ld w51 b13 (0+5)=some (ii x48)∧
  ld w51 b13 (0+6)=some (ii x46)∧
  onM (AW.putCells w51 b30 ((o31+0)+7) [(ii x46)]) fun w52=>
  ld w52 b13 (0+5)=some (ii x48)∧
  gd (qJc r49) (
  onM (AW.putCells w52 b30 ((o31+0)+8) [r49]) fun w53=>
  ld w53 b13 (0+5)=some (ii x48)∧
  onM (AW.putCells w53 b30 ((o31+0)+10) [(ii x48)]) fun w54=>
  J34 [] w54)) fun J44=>
  ∃x55 x56 x57 x58 x59 x60 x61 x62:Int,∃x63 x64:AV,∃x65:Int,∃x66 x67 x68 x69:AV,∃x70 x71 x72:Int,∃x73:AV,ldN 19 w28 b30 (o31+0)=some (.agg [(ii x55),(ii x56),(.int .u8 x57),(ii x58),(ii x59),(ii x60),(ii x61),(ii x62),x63,x64,(ii x65),x66,x67,x68,x69,(ii x70),(ii x71),(ii x72),x73])∧
  ∃x74:Int,ld w28 b13 (0+5)=some (ii x74)∧
  Cl Tryz.prog hk 53 [(.agg [(ii x55),(ii x56),(.int .u8 x57),(ii x58),(ii x59),(ii x60),(ii x61),(ii x62),x63,x64,(ii x65),x66,x67,x68,x69,(ii x70),(ii x71),(ii x72),x73]),(ii x74)] w28 fun r75 w76=>
  ∃x77:Int,∃x78:Bool,r75= .tup [(ii x77),(.bool x78)]∧
  join (fun l_79 w80=>∃x82:Bool,l_79=[(.bool x82)]∧∀_:Nat→AV,
  ifT x82 (onM (ld w80 b30 ((o31+0)+9)) fun x83=>
   ∃x84:Int,ld w80 b13 (0+5)=some (ii x84)∧
   ∃x85:Int,ld w80 b30 ((o31+0)+6)=some (ii x85)∧
   onM (slS 2 x83 (some (ii (wi (x84 - x85)))) none none) fun x86=>
   gd (qJc x86) (
   onM (AW.putCells w80 b30 ((o31+0)+9) [x86]) fun w87=>
   J44 [] w87))
  (onM (AW.putCells w80 b30 ((o31+0)+9) [.nilslice]) fun w88=>
   J44 [] w88)) fun J81=>
  ifT x78 (∃x89:Int,ld w76 b13 (0+6)=some (ii x89)∧
  J81 [(.bool (decide (x77=x89)))] w76)
  (J81 [(.bool false)] w76))
 (J34 [] w28)))
def adv91:Adv:=(.sq .lf (.sq (.sq .lf (.cd .lf .lf)) (.sq .lf (.sj [] (.sq .lf (.cd (.sj [] (.sq .lf (.sj [(36,.sc (.bool))] .lf (.cd .lf .lf))) .lf) .lf)) .lf))))
set_option maxRecDepth 100000 in
theorem in91 {hk:Hook}{w0:AV}{m1:List UInt8}{m2 m3 m4 m5 m6 m7 m8 m9:Int}{m10:Bool}{m11 m12:AV}{w:AW}{K:AV→AW→Prop}(hn:hk 91 [w0,(.agg [(.str m1),(.int .u8 m2),(ii m3),(ii m4),(ii m5),(ii m6),(ii m7),(ii m8),(ii m9),(.bool m10),m11,m12])] w=none)(h:F91 hk w0 m1 m2 m3 m4 m5 m6 m7 m8 m9 m10 m11 m12 w K):Cl Tryz.prog hk 91 [w0,(.agg [(.str m1),(.int .u8 m2),(ii m3),(ii m4),(ii m5),(ii m6),(ii m7),(ii m8),(ii m9),(.bool m10),m11,m12])] w K:=
 qJm (adv:=adv91) Tryz.func91 hn (Eq.mpr (by kernel_rfl) h)
def F93(hk:Hook)(w0:AV)(w:AW)(K:AV→AW→Prop):Prop:=
 onP w0 fun b1 o2=>
 onM (ld w b1 ((o2+0)+11)) fun x3=>
 ∃x4:Int,lenS x3=some (ii x4)∧
 zJ9 [(ii 0),(ii 0)] w fun R5 l_6 w7=>∃yes8 x9:Int,l_6=[(ii yes8),(ii x9)]∧∀_:Nat→AV,
  ifT (decide (x9<x4)) (atP (idxS 1 x3 (ii x9)) fun b10 o11=>
  ∃is12:Bool,ld w7 b10 o11=some (.bool is12)∧
  ifT is12 (R5 [(ii (wi (yes8+1))),(ii (wi (x9+1)))] w7)
  (R5 [(ii yes8),(ii (wi (x9+1)))] w7))
  (∃x13:Int,ld w7 b1 ((o2+0)+1)=some (ii x13)∧
 Cl Tryz.prog hk 108 [(ii yes8),(ii x13)] w7 fun r14 w15=>
 ∃x16:Bool,r14=(.bool x16)∧
 ifT (!x16) (K (.bool false) w15)
 (Cl Tryz.prog hk 86 [w0] w15 fun r17 w18=>
 r17= .tup []∧
 ∃x19:Int,ld w18 b1 ((o2+0)+0)=some (ii x19)∧
 onM (AW.putCells w18 b1 ((o2+0)+2) [(.int .u8 3)]) fun w20=>
 onM (AW.putCells w20 b1 ((o2+0)+5) [(ii x19)]) fun w21=>
 onM (AW.putCells w21 b1 ((o2+0)+16) [(ii 0)]) fun w22=>
 onM (ld w22 b1 ((o2+0)+12)) fun x23=>
 ∃x24:Int,lenS x23=some (ii x24)∧
 zJ9 [(ii 0)] w22 fun R25 l_26 w27=>∃x28:Int,l_26=[(ii x28)]∧∀_:Nat→AV,
  ifT (decide (x28<x24)) (onM (ld w27 b1 ((o2+0)+12)) fun x29=>
  ∃x30 x31 x32 x33 x34 x35 x36 x37:Int,∃x38 x39:AV,∃x40:Int,∃x41 x42 x43 x44:AV,∃x45 x46 x47:Int,∃x48:AV,ldN 19 w27 b1 (o2+0)=some (.agg [(ii x30),(ii x31),(.int .u8 x32),(ii x33),(ii x34),(ii x35),(ii x36),(ii x37),x38,x39,(ii x40),x41,x42,x43,x44,(ii x45),(ii x46),(ii x47),x48])∧
  Cl Tryz.prog hk 36 [(.agg [(ii x30),(ii x31),(.int .u8 x32),(ii x33),(ii x34),(ii x35),(ii x36),(ii x37),x38,x39,(ii x40),x41,x42,x43,x44,(ii x45),(ii x46),(ii x47),x48])] w27 fun r49 w50=>
  ∃x51:Int,r49=(ii x51)∧
  ld w50 b1 ((o2+0)+12)=some x29∧
  atP (idxS 1 x29 (ii x28)) fun b52 o53=>
  onM (AW.putCells w50 b52 o53 [(ii (wi (x51+1)))]) fun w54=>
  R25 [(ii (wi (x28+1)))] w54)
  (Cl Tryz.prog hk 52 [w0,.nilslice] w27 fun r55 w56=>
 r55= .tup []∧
 K (.bool true) w56)))
def adv93:Adv:=(.sq .lf (.sq .lf (.sq .lf (.sq (.sq .lf (.bl (.lp [(4,.sc (.int .i64)),(16,.sc (.int .i64))] (.sq .lf (.sq (.cd .lf .lf) (.sq (.bl (.sq .lf (.sq .lf (.cd .lf .lf)))) .lf)))))) (.sq (.sq .lf (.cd (.sq .lf .lf) .lf)) (.sq .lf (.sq .lf (.sq (.sq .lf (.bl (.lp [(51,.sc (.int .i64))] (.sq .lf (.sq (.cd .lf .lf) (.sq (.bl (.sq .lf .lf)) .lf)))))) (.sq .lf (.sq .lf .lf))))))))))
set_option maxRecDepth 100000 in
theorem in93 {hk:Hook}{w0:AV}{w:AW}{K:AV→AW→Prop}(hn:hk 93 [w0] w=none)(h:F93 hk w0 w K):Cl Tryz.prog hk 93 [w0] w K:=
 qJm (adv:=adv93) Tryz.func93 hn (Eq.mpr (by kernel_rfl) h)
def F94(hk:Hook)(to0:Int)(cap1 cap2 cap3:AV)(w:AW)(K:AV→AW→Prop):Prop:=
 onP cap1 fun b4 o5=>
 onM (ld w b4 o5) fun x6=>
 onP cap2 fun b7 o8=>
 onM (ld w b7 o8) fun x9=>
 onP x9 fun b10 o11=>
 ∃x12 x13 x14 x15 x16 x17 x18 x19:Int,∃x20 x21:AV,∃x22:Int,∃x23 x24 x25 x26:AV,∃x27 x28 x29:Int,∃x30:AV,ldN 19 w b10 o11=some (.agg [(ii x12),(ii x13),(.int .u8 x14),(ii x15),(ii x16),(ii x17),(ii x18),(ii x19),x20,x21,(ii x22),x23,x24,x25,x26,(ii x27),(ii x28),(ii x29),x30])∧
 onP cap3 fun b31 o32=>
 ∃x33:Int,ld w b31 o32=some (ii x33)∧
 Cl Tryz.prog hk 36 [(.agg [(ii x12),(ii x13),(.int .u8 x14),(ii x15),(ii x16),(ii x17),(ii x18),(ii x19),x20,x21,(ii x22),x23,x24,x25,x26,(ii x27),(ii x28),(ii x29),x30])] w fun r34 w35=>
 ∃x36:Int,r34=(ii x36)∧
 ((asP cap3).bind fun p=>ld w35 p.1 p.2)=some (ii x33)∧
 ((asP cap1).bind fun p=>ld w35 p.1 p.2)=some x6∧
 Cl Tryz.prog hk 92 [x6,(ii to0),(.agg [(.str []),(.int .u8 1),(ii 0),(ii 0),(ii 0),(ii x36),(ii x33),(ii 0),(ii 0),(.bool false),.nilslice,.nilslice])] w35 fun r37 w38=>
 r37= .tup []∧
 K (.tup []) w38
def adv94:Adv:= .lf
set_option maxRecDepth 100000 in
theorem in94 {hk:Hook}{to0:Int}{cap1 cap2 cap3:AV}{w:AW}{K:AV→AW→Prop}(hn:hk 94 [(ii to0),cap1,cap2,cap3] w=none)(h:F94 hk to0 cap1 cap2 cap3 w K):Cl Tryz.prog hk 94 [(ii to0),cap1,cap2,cap3] w K:=
 qJm (adv:=adv94) Tryz.func94 hn (Eq.mpr (by kernel_rfl) h)
def F113(hk:Hook)(term0 vote1 lastTerm2 lastIndex3:Int)(m4:List UInt8)(m5 m6 m7 m8 m9 m10 m11 m12:Int)(m13:Bool)(m14 m15:AV)(w:AW)(K:AV→AW→Prop):Prop:=
 gd (List.all [(.str m4),(.int .u8 m5),(ii m6),(ii m7),(ii m8),(ii m9),(ii m10),(ii m11),(ii m12),(.bool m13),m14,m15] qJc) (
 new w [(.str m4),(.int .u8 m5),(ii m6),(ii m7),(ii m8),(ii m9),(ii m10),(ii m11),(ii m12),(.bool m13),m14,m15] fun b16 w17=>
 join (fun l_18 w19=>∃vote21:Int,l_18=[(ii vote21)]∧∀_:Nat→AV,
  ifT (decide (vote21=0)) (∃x22:Int,ld w19 b16 (0+6)=some (ii x22)∧
  ∃x23:Int,ld w19 b16 (0+5)=some (ii x23)∧
  Cl Tryz.prog hk 124 [(ii x22),(ii x23),(ii lastTerm2),(ii lastIndex3)] w19 fun r24 w25=>
  ∃x26:Bool,r24=(.bool x26)∧
  ifT x26 (∃x27:Int,ld w25 b16 (0+4)=some (ii x27)∧
  ∃x28:Int,ld w25 b16 (0+2)=some (ii x28)∧
  K (.tup [(ii x27),(ii x28),(.bool true)]) w25)
  (∃x29:Int,ld w25 b16 (0+4)=some (ii x29)∧
 K (.tup [(ii x29),(ii vote21),(.bool false)]) w25))
  (∃x30:Int,ld w19 b16 (0+2)=some (ii x30)∧
  ifT (decide (vote21=x30)) (∃x31:Int,ld w19 b16 (0+6)=some (ii x31)∧
  ∃x32:Int,ld w19 b16 (0+5)=some (ii x32)∧
  Cl Tryz.prog hk 124 [(ii x31),(ii x32),(ii lastTerm2),(ii lastIndex3)] w19 fun r33 w34=>
  ∃x35:Bool,r33=(.bool x35)∧
  ifT x35 (∃x36:Int,ld w34 b16 (0+4)=some (ii x36)∧
  ∃x37:Int,ld w34 b16 (0+2)=some (ii x37)∧
  K (.tup [(ii x36),(ii x37),(.bool true)]) w34)
  (∃x38:Int,ld w34 b16 (0+4)=some (ii x38)∧
 K (.tup [(ii x38),(ii vote21),(.bool false)]) w34))
  (∃x39:Int,ld w19 b16 (0+4)=some (ii x39)∧
 K (.tup [(ii x39),(ii vote21),(.bool false)]) w19))) fun J20=>
 ∃x40:Int,ld w17 b16 (0+4)=some (ii x40)∧
 ifT (decide (x40<term0)) (K (.tup [(ii term0),(ii vote1),(.bool false)]) w17)
 (∃x41:Int,ld w17 b16 (0+4)=some (ii x41)∧
 ifT (decide (term0<x41)) (J20 [(ii 0)] w17)
 (J20 [(ii vote1)] w17)))
def adv113:Adv:=(.sq .lf (.sq (.bl (.sj [(1,.sc (.int .i64))] (.bl (.sq (.bl (.sq (.bl (.sq (.sq (.sq .lf (.cd .lf .lf)) (.sq .lf (.cd .lf .lf))) .lf)) (.sq (.sq .lf .lf) .lf))) .lf)) (.sq (.sq .lf (.cd (.sq .lf .lf) .lf)) .lf))) (.sq .lf .lf)))
set_option maxRecDepth 100000 in
theorem in113 {hk:Hook}{term0 vote1 lastTerm2 lastIndex3:Int}{m4:List UInt8}{m5 m6 m7 m8 m9 m10 m11 m12:Int}{m13:Bool}{m14 m15:AV}{w:AW}{K:AV→AW→Prop}(hn:hk 113 [(ii term0),(ii vote1),(ii lastTerm2),(ii lastIndex3),(.agg [(.str m4),(.int .u8 m5),(ii m6),(ii m7),(ii m8),(ii m9),(ii m10),(ii m11),(ii m12),(.bool m13),m14,m15])] w=none)(h:F113 hk term0 vote1 lastTerm2 lastIndex3 m4 m5 m6 m7 m8 m9 m10 m11 m12 m13 m14 m15 w K):Cl Tryz.prog hk 113 [(ii term0),(ii vote1),(ii lastTerm2),(ii lastIndex3),(.agg [(.str m4),(.int .u8 m5),(ii m6),(ii m7),(ii m8),(ii m9),(ii m10),(ii m11),(ii m12),(.bool m13),m14,m15])] w K:=
 qJm (adv:=adv113) Tryz.func113 hn (Eq.mpr (by kernel_rfl) h)
def F114(hk:Hook)(w0:AV)(m1:List UInt8)(m2 m3 m4 m5 m6 m7 m8 m9:Int)(m10:Bool)(m11 m12:AV)(w:AW)(K:AV→AW→Prop):Prop:=
 gd (List.all [(.str m1),(.int .u8 m2),(ii m3),(ii m4),(ii m5),(ii m6),(ii m7),(ii m8),(ii m9),(.bool m10),m11,m12] qJc) (
 new w [(.str m1),(.int .u8 m2),(ii m3),(ii m4),(ii m5),(ii m6),(ii m7),(ii m8),(ii m9),(.bool m10),m11,m12] fun b13 w14=>
 onP w0 fun b15 o16=>
 ∃x17:Int,ld w14 b13 (0+4)=some (ii x17)∧
 ∃x18:Int,ld w14 b15 ((o16+0)+3)=some (ii x18)∧
 ifT (decide (x17<x18)) (∃x19:Int,ld w14 b13 (0+2)=some (ii x19)∧
  Cl Tryz.prog hk 92 [w0,(ii x19),(.agg [(.str []),(.int .u8 4),(ii 0),(ii 0),(ii 0),(ii 0),(ii 0),(ii 0),(ii 0),(.bool false),.nilslice,.nilslice])] w14 fun r20 w21=>
  r20= .tup []∧
  K (.bool false) w21)
 (∃x22:Int,ld w14 b15 ((o16+0)+2)=some (.int .u8 x22)∧
  ifT (decide (x22=3)) (K (.bool false) w14)
  (∃x23:Int,ld w14 b13 (0+4)=some (ii x23)∧
 Cl Tryz.prog hk 44 [w0,(ii x23)] w14 fun r24 w25=>
 r24= .tup []∧
 ∃x26:Int,ld w25 b13 (0+2)=some (ii x26)∧
 onM (AW.putCells w25 b15 ((o16+0)+5) [(ii x26)]) fun w27=>
 onM (AW.putCells w27 b15 ((o16+0)+16) [(ii 0)]) fun w28=>
 K (.bool true) w28)))
def adv114:Adv:=(.sq .lf (.sq .lf (.sq (.bl (.sq .lf (.cd (.sq .lf (.sq .lf .lf)) (.sq .lf (.cd (.sq .lf .lf) .lf))))) (.sq .lf (.sq .lf (.sq .lf .lf))))))
set_option maxRecDepth 100000 in
theorem in114 {hk:Hook}{w0:AV}{m1:List UInt8}{m2 m3 m4 m5 m6 m7 m8 m9:Int}{m10:Bool}{m11 m12:AV}{w:AW}{K:AV→AW→Prop}(hn:hk 114 [w0,(.agg [(.str m1),(.int .u8 m2),(ii m3),(ii m4),(ii m5),(ii m6),(ii m7),(ii m8),(ii m9),(.bool m10),m11,m12])] w=none)(h:F114 hk w0 m1 m2 m3 m4 m5 m6 m7 m8 m9 m10 m11 m12 w K):Cl Tryz.prog hk 114 [w0,(.agg [(.str m1),(.int .u8 m2),(ii m3),(ii m4),(ii m5),(ii m6),(ii m7),(ii m8),(ii m9),(.bool m10),m11,m12])] w K:=
 qJm (adv:=adv114) Tryz.func114 hn (Eq.mpr (by kernel_rfl) h)
def F115(hk:Hook)(base0 baseTerm1:Int)(l_2:AV)(index3 term4:Int)(entries5:AV)(w:AW)(K:AV→AW→Prop):Prop:=
 gd (qJc l_2) (
 new w [l_2] fun b6 w7=>
 gd (qJc entries5) (
 new w7 [entries5] fun b8 w9=>
 join (fun l_10 w11=>∃index13 term14:Int,l_10=[(ii index13),(ii term14)]∧∀_:Nat→AV,
  onM (ld w11 b6 0) fun x15=>
  Cl Tryz.prog hk 97 [(ii base0),(ii baseTerm1),x15,(ii index13)] w11 fun r16 w17=>
  ∃x18:Int,∃x19:Bool,r16= .tup [(ii x18),(.bool x19)]∧
  ifT (!x19) (onM (ld w17 b6 0) fun x20=>
  Cl Tryz.prog hk 125 [x20] w17 fun r21 w22=>
  K (.tup [r21,(ii 0),(.bool false)]) w22)
  (ifT (!decide (x18=term14)) (onM (ld w17 b6 0) fun x23=>
  Cl Tryz.prog hk 125 [x23] w17 fun r24 w25=>
  K (.tup [r24,(ii 0),(.bool false)]) w25)
  (new w17 [(ii 0)] fun b26 w27=>
  onM (AW.putCells w27 b26 0 [(ii (wi (index13 - base0)))]) fun w28=>
  onM (ld w28 b8 0) fun x29=>
  ∃x30:Int,lenS x29=some (ii x30)∧
  zJ9 [(ii 0)] w28 fun R31 l_32 w33=>∃x34:Int,l_32=[(ii x34)]∧∀_:Nat→AV,
  ifT (decide (x34<x30)) (Cl Tryz.prog hk 126 [(ii x34),(.ptr b26 0),(.ptr b6 0),(.ptr b8 0)] w33 fun r35 w36=>
  ∃x37:Bool,r35=(.bool x37)∧
  ifT x37 (onM (ld w36 b6 0) fun x38=>
   ∃x39:Int,ld w36 b26 0=some (ii x39)∧
   onM (slS 2 x38 none (some (ii (wi (x39+x34)))) none) fun x40=>
   onM (ld w36 b8 0) fun x41=>
   onM (slS 2 x41 (some (ii x34)) none none) fun x42=>
   gd (qJc x40) (
   gd (qJc x42) (
   new w36 [x40,x42] fun b43 w44=>
   onM (ld w44 b8 0) fun x45=>
   ∃x46:Int,lenS x45=some (ii x46)∧
   ld w44 b8 0=some x45∧
   ld w44 b8 0=some x41∧
   ld w44 b26 0=some (ii x39)∧
   ld w44 b6 0=some x38∧
   Cl Tryz.prog hk 95 [(.slice b43 0 2 2 none)] w44 fun r47 w48=>
   ld w48 b8 0=some x45∧
   Cl Tryz.prog hk 125 [r47] w48 fun r49 w50=>
   ld w50 b8 0=some x45∧
   K (.tup [r49,(ii (wi (index13+x46))),(.bool true)]) w50)))
  (R31 [(ii (wi (x34+1)))] w36))
  (onM (ld w33 b6 0) fun x51=>
  onM (ld w33 b8 0) fun x52=>
  ∃x53:Int,lenS x52=some (ii x53)∧
  Cl Tryz.prog hk 125 [x51] w33 fun r54 w55=>
  ld w55 b8 0=some x52∧
  K (.tup [r54,(ii (wi (index13+x53))),(.bool true)]) w55)))) fun J12=>
 ifT (decide (index3<base0)) (onM (ld w9 b8 0) fun x56=>
  ∃x57:Int,lenS x56=some (ii x57)∧
  ifT (decide (x57<(wi (base0 - index3)))) (onM (ld w9 b6 0) fun x58=>
  Cl Tryz.prog hk 125 [x58] w9 fun r59 w60=>
  K (.tup [r59,(ii base0),(.bool true)]) w60)
  (onM (ld w9 b8 0) fun x61=>
  onM (slS 2 x61 (some (ii (wi (base0 - index3)))) none none) fun x62=>
  gd (qJc x62) (
  onM (AW.putCells w9 b8 0 [x62]) fun w63=>
  J12 [(ii base0),(ii baseTerm1)] w63)))
 (J12 [(ii index3),(ii term4)] w9)))
def adv115:Adv:=(.sq .lf (.sj [(3,.sc (.int .i64)),(4,.sc (.int .i64))] (.sq .lf (.cd (.sq (.sq .lf (.cd (.sq .lf .lf) .lf)) (.sq .lf .lf)) .lf)) (.sq (.sq .lf (.sq .lf (.cd (.sq .lf .lf) .lf))) (.sq .lf (.sq .lf (.sq (.sq .lf (.bl (.lp [(62,.sc (.int .i64))] (.sq .lf (.sq (.cd .lf .lf) (.sq (.bl (.sq .lf (.sq .lf (.cd (.sq .lf .lf) .lf)))) .lf)))))) (.sq .lf .lf)))))))
set_option maxRecDepth 100000 in
theorem in115 {hk:Hook}{base0 baseTerm1:Int}{l_2:AV}{index3 term4:Int}{entries5:AV}{w:AW}{K:AV→AW→Prop}(hn:hk 115 [(ii base0),(ii baseTerm1),l_2,(ii index3),(ii term4),entries5] w=none)(h:F115 hk base0 baseTerm1 l_2 index3 term4 entries5 w K):Cl Tryz.prog hk 115 [(ii base0),(ii baseTerm1),l_2,(ii index3),(ii term4),entries5] w K:=
 qJm (adv:=adv115) Tryz.func115 hn (Eq.mpr (by kernel_rfl) h)
def F116(hk:Hook)(base0 baseTerm1:Int)(l_2:AV)(index3:Int)(w:AW)(K:AV→AW→Prop):Prop:=
 Cl Tryz.prog hk 79 [(ii base0),l_2] w fun r4 w5=>
 ∃x6:Int,r4=(ii x6)∧
 ifT (decide (x6<index3)) (Cl Tryz.prog hk 79 [(ii base0),l_2] w5 fun r7 w8=>
  ∃x9:Int,r7=(ii x9)∧
  K (ii x9) w8)
 (ifT (decide (index3≤base0)) (K (ii base0) w5)
  (Cl Tryz.prog hk 97 [(ii base0),(ii baseTerm1),l_2,(ii index3)] w5 fun r10 w11=>
 ∃x12:Int,∃x13:Bool,r10= .tup [(ii x12),(.bool x13)]∧
 zJ9 [(ii (wi (index3 - 1)))] w11 fun R14 l_15 w16=>∃i17:Int,l_15=[(ii i17)]∧∀_:Nat→AV,
  ifT (decide (base0<i17)) (Cl Tryz.prog hk 97 [(ii base0),(ii baseTerm1),l_2,(ii i17)] w16 fun r18 w19=>
  ∃x20:Int,∃x21:Bool,r18= .tup [(ii x20),(.bool x21)]∧
  ifT (decide (x20<x12)) (K (ii i17) w19)
  (R14 [(ii (wi (i17 - 1)))] w19))
  (K (ii base0) w16)))
def adv116:Adv:=(.sq .lf (.sq (.bl (.sq .lf (.cd (.sq .lf .lf) (.sq .lf (.cd (.sq .lf .lf) .lf))))) (.sq .lf (.sq (.sq .lf (.bl (.lp [(11,.sc (.int .i64))] (.sq (.sq .lf (.cd .lf .lf)) (.sq (.bl (.sq .lf (.sq .lf (.cd (.sq .lf .lf) .lf)))) .lf))))) (.sq .lf .lf)))))
set_option maxRecDepth 100000 in
theorem in116 {hk:Hook}{base0 baseTerm1:Int}{l_2:AV}{index3:Int}{w:AW}{K:AV→AW→Prop}(hn:hk 116 [(ii base0),(ii baseTerm1),l_2,(ii index3)] w=none)(h:F116 hk base0 baseTerm1 l_2 index3 w K):Cl Tryz.prog hk 116 [(ii base0),(ii baseTerm1),l_2,(ii index3)] w K:=
 qJm (adv:=adv116) Tryz.func116 hn (Eq.mpr (by kernel_rfl) h)
def F124(hk:Hook)(term0 index1 ofTerm2 ofIndex3:Int)(w:AW)(K:AV→AW→Prop):Prop:=
 ifT (decide (ofTerm2<term0)) (K (.bool true) w)
 (ifT (decide (term0=ofTerm2)) (K (.bool (decide (ofIndex3≤index1))) w)
 (K (.bool false) w))
def adv124:Adv:=(.sq .lf (.sq .lf .lf))
set_option maxRecDepth 100000 in
theorem in124 {hk:Hook}{term0 index1 ofTerm2 ofIndex3:Int}{w:AW}{K:AV→AW→Prop}(hn:hk 124 [(ii term0),(ii index1),(ii ofTerm2),(ii ofIndex3)] w=none)(h:F124 hk term0 index1 ofTerm2 ofIndex3 w K):Cl Tryz.prog hk 124 [(ii term0),(ii index1),(ii ofTerm2),(ii ofIndex3)] w K:=
 qJm (adv:=adv124) Tryz.func124 hn (Eq.mpr (by kernel_rfl) h)
def F125(hk:Hook)(l_0:AV)(w:AW)(K:AV→AW→Prop):Prop:=
 ∃x1:Int,lenS l_0=some (ii x1)∧
 zJ9 [.nilslice,(ii 0)] w fun R2 l_3 w4=>∃out5:AV,∃x6:Int,l_3=[out5,(ii x6)]∧∀_:Nat→AV,
  ifT (decide (x6<x1)) (atP (idxS 2 l_0 (ii x6)) fun b7 o8=>
  ∃x9:Int,∃x10:AV,ldN 2 w4 b7 o8=some (.agg [(ii x9),x10])∧
  new w4 [(ii 0),.nilslice] fun b11 w12=>
  gd (List.all [(ii x9),x10] qJc) (
  onM (AW.putCells w12 b11 0 [(ii x9),x10]) fun w13=>
  ∃x14:Int,ld w13 b11 (0+0)=some (ii x14)∧
  onM (ld w13 b11 (0+1)) fun x15=>
  Cl Tryz.prog hk 55 [x15] w13 fun r16 w17=>
  gd (qJc r16) (
  gd (List.all [(ii x14),r16] qJc) (
  new w17 [(ii x14),r16] fun b18 w19=>
  ld w19 b11 (0+0)=some (ii x14)∧
  onE (appS 2 32 w19 out5 (.slice b18 0 1 1 none)) fun x20 w21=>
  R2 [x20,(ii (wi (x6+1)))] w21))))
  (K out5 w4)
def adv125:Adv:=(.sq .lf (.sq .lf (.sq (.sq .lf (.bl (.lp [(3,.sc (.opq)),(8,.sc (.int .i64))] (.sq .lf (.sq (.cd .lf .lf) (.sq (.bl (.sq .lf .lf)) .lf)))))) (.sq .lf .lf))))
set_option maxRecDepth 100000 in
theorem in125 {hk:Hook}{l_0:AV}{w:AW}{K:AV→AW→Prop}(hn:hk 125 [l_0] w=none)(h:F125 hk l_0 w K):Cl Tryz.prog hk 125 [l_0] w K:=
 qJm (adv:=adv125) Tryz.func125 hn (Eq.mpr (by kernel_rfl) h)
def F126(hk:Hook)(i0:Int)(cap1 cap2 cap3:AV)(w:AW)(K:AV→AW→Prop):Prop:=
 onP cap1 fun b4 o5=>
 ∃x6:Int,ld w b4 o5=some (ii x6)∧
 onP cap2 fun b7 o8=>
 onM (ld w b7 o8) fun x9=>
 ∃x10:Int,lenS x9=some (ii x10)∧
 ifT (decide (x10≤(wi (x6+i0)))) (K (.bool true) w)
 (onP cap2 fun b11 o12=>
 onM (ld w b11 o12) fun x13=>
 onP cap1 fun b14 o15=>
 ∃x16:Int,ld w b14 o15=some (ii x16)∧
 atP (idxS 2 x13 (ii (wi (x16+i0)))) fun b17 o18=>
 ∃x19:Int,ld w b17 (o18+0)=some (ii x19)∧
 onP cap3 fun b20 o21=>
 onM (ld w b20 o21) fun x22=>
 atP (idxS 2 x22 (ii i0)) fun b23 o24=>
 ∃x25:Int,ld w b23 (o24+0)=some (ii x25)∧
 K (.bool (!decide (x19=x25))) w)
def adv126:Adv:=(.sq .lf (.sq .lf .lf))
set_option maxRecDepth 100000 in
theorem eq126(hk:Hook)(i0:Int)(cap1:AV)(cap2:AV)(cap3:AV)(w:AW)(K:AV→AW→Prop):fnS Tryz.prog hk Tryz.f126 adv126 [(ii i0),cap1,cap2,cap3] w K=F126 hk i0 cap1 cap2 cap3 w K:=by kernel_rfl
theorem in126 {hk:Hook}{i0:Int}{cap1 cap2 cap3:AV}{w:AW}{K:AV→AW→Prop}(hn:hk 126 [(ii i0),cap1,cap2,cap3] w=none)(h:F126 hk i0 cap1 cap2 cap3 w K):Cl Tryz.prog hk 126 [(ii i0),cap1,cap2,cap3] w K:=
 qJm Tryz.func126 hn (by rw[eq126];exact h)
end Go.Proofs.YtghoifolghelnaaGreat
/-
 A node at work: cleared,following,elected.
 No condition beyond those that each theorem names.
-/
open Go.Sx
namespace Go.Proofs.YtghoifolghelnaaGreat
theorem clr25 {w:AW}{b n c:Nat}{ex:Option Nat}:yJg Tryz.prog w 25 (.slice b 0 n c ex)=bif Nat.beq n 0 then some w else qJf true (w.putCells b 0 (repl n [.bool false])):=by kernel_rfl
theorem wQr {w:AW}{b n c:Nat}{ex:Option Nat}:yJg Tryz.prog w 26 (.slice b 0 n c ex)=bif Nat.beq n 0 then some w else qJf true (w.putCells b 0 (repl n [.int .i64 0])):=by kernel_rfl
theorem rJ8 {cs vs:List AV}(h:cs.length=vs.length):qJg cs 0 vs=vs:=by
 simp only[qJg,List.take_zero,List.nil_append,Nat.zero_add,←h,List.drop_length,gQc]
theorem tJ0(n:Nat)(z:AV):repl n [z]=List.replicate n z:=by
 induction n with
 | zero=>rfl
 | succ n ih=>show [z]++repl n [z]=_;rw[ih];rfl
section
variable {hk:Hook}{T A A' B:Nat→Prop}{I:List Nat}{w0 w w':AW}{K:AV→AW→Prop}{n:Nd}{s:Sl}{v out:AV}{W bs bm bn bv:Nat}{ms:List Msg}{dr:Int}{L:Obs}{U U':List Nat}
theorem cJk(st:Ow A I w0 w L)(i:Nat){b k:Nat}{cs:List AV}{z:AV}{x:Option AW}(hi:nth L i=some (b, .row cs))(hl:cs.length=k)(hx:x=bif Nat.beq k 0 then some w else qJf true (w.putCells b 0 (repl k [z])))
    (hK:∀w',Ow A I w0 w' (stN L i (b, .row (List.replicate k z)))→Xt (ids L) w (ids L) w'→K Go.Sx.undef w'):onE (x.map fun w'=>(Go.Sx.undef,w')) K:=by
  subst hl;subst hx
  cases cs with
  | nil=>
    show K Go.Sx.undef w;refine hK w ?_ Xt.refl;rw[show(List.replicate ([]:List AV).length z)=[]from rfl,gJg hi];exact st
  | cons c cs=>
    have:=st.put i (o:=0) (vs:=repl (c::cs).length [z]) hi (by rw[tJ0];simp) (K:=fun w'=>K Go.Sx.undef w') fun w' st' x'=>by
      rw[tJ0,rJ8 (by simp)]at st';exact hK w' st' x'
    show onE ((w.putCells b 0 (repl (c::cs).length [z])).map _) K;cases hp:w.putCells b 0 (repl (c::cs).length [z])with
    | none=>rw[hp]at this;exact this
    | some w'=>rw[hp]at this;exact this
def clearN(n:Nd):Nd:={n with votes:=List.replicate n.votes.length false,next:=List.replicate n.next.length 0,mtch:=List.replicate n.mtch.length 0,seen:=List.replicate n.seen.length 0,round:=0,reads:=[]}
set_option maxRecDepth 20000 in
theorem s86(hh:HK hk)(wk:Wk T I w0 w W bs bm bn bv n s out ms dr L)(hK:∀w',Wk T I w0 w' W bs bm bn bv (clearN n) {s with reads:= .nilslice} out ms dr L→Xt (W::bs::bm::bn::bv::ids L) w (W::bs::bm::bn::bv::ids L) w'→K (.tup []) w'):Cl Tryz.prog hk 86 [.ptr W 0] w K:=by
 refine in86 (hh.no _ _ _ (by decide) (by decide)) ?_;unfold F86;obtain⟨st,wr,we⟩:=wk;simp only[onP];refine qJd (v:=s.votes) (st.ld 0 rfl rfl) ?_;rw[we.votes];refine cJk st 4 rfl (by simp) clr25 fun w1 st1 x1=>qJd (v:=s.next) (st1.ld 0 rfl rfl) ?_;rw[we.next];refine cJk st1 3 rfl (by simp) wQr fun w2 st2 x2=>qJd (v:=s.mtch) (st2.ld 0 rfl rfl) ?_;rw[we.mtch];refine cJk st2 2 rfl (by simp) wQr fun w3 st3 x3=>qJd (v:=s.seen) (st3.ld 0 rfl rfl) ?_;rw[we.seen];refine cJk st3 1 rfl (by simp) wQr fun w4 st4 x4=>st4.put 0 rfl (yQk rfl) fun w5 st5 x5=>st5.put 0 rfl (yQk rfl) fun w6 st6 x6=>?_;have xx:Xt (W::bs::bm::bn::bv::ids L) w (W::bs::bm::bn::bv::ids L) w6:=((((Xt.trans x1 x2).trans x3).trans x4).trans x5).trans x6;have st6:Ow T I w0 w6 (wkL W bs bm bn bv (clearN n) {s with reads:= .nilslice} out dr L):=by
  have e1:List.replicate n.seen.length (AV.int .i64 0)=(clearN n).seen.map (AV.int .i64):=by simp[clearN]
  have e2:List.replicate n.mtch.length (AV.int .i64 0)=(clearN n).mtch.map (AV.int .i64):=by simp[clearN]
  have e3:List.replicate n.next.length (AV.int .i64 0)=(clearN n).next.map (AV.int .i64):=by simp[clearN]
  have e4:List.replicate n.votes.length (AV.bool false)=(clearN n).votes.map AV.bool:=by simp[clearN]
  have:=st6;simp only[stN]at this;rw[e1,e2,e3,e4]at this;exact this
 have wr6:=wr.x xx;exact hK w6 ⟨st6,⟨wr6.snap,wr6.log,Rp.rd.nil,wr6.out⟩,⟨by rw[show(clearN n).seen.length=n.seen.length by simp[clearN]];exact we.seen,by rw[show(clearN n).mtch.length=n.mtch.length by simp[clearN]];exact we.mtch,by rw[show(clearN n).next.length=n.next.length by simp[clearN]];exact we.next,by rw[show(clearN n).votes.length=n.votes.length by simp[clearN]];exact we.votes⟩⟩ xx
def followN(n:Nd)(t dr:Int):Nd:=clearN (if n.term<t then {n with role:=1,term:=t,vote:=0,leads:=0,timeout:=toF dr}else {n with role:=1})
set_option maxRecDepth 20000 in
theorem s44 {t:Int}(hh:HK hk)(wk:Wk T I w0 w W bs bm bn bv n s out ms dr L)(hK:∀s' w',Wk T I w0 w' W bs bm bn bv (followN n t dr) s' out ms dr L→Xt (W::bs::bm::bn::bv::ids L) w (W::bs::bm::bn::bv::ids L) w'→K (.tup []) w'):Cl Tryz.prog hk 44 [.ptr W 0,.int .i64 t] w K:=by
 refine in44 (hh.no _ _ _ (by decide) (by decide)) ?_;unfold F44;obtain⟨st,wr,we⟩:=wk;simp only[onP];refine st.put 0 rfl (yQk rfl) fun w4 st4 x4=>?_;have x4:Xt (W::bs::bm::bn::bv::ids L) w (W::bs::bm::bn::bv::ids L) w4:=x4;refine zJm (fun l w'=>l=[]∧Xt (W::bs::bm::bn::bv::ids L) w (W::bs::bm::bn::bv::ids L) w'∧Wk T I w0 w' W bs bm bn bv (if n.term<t then {n with role:=1,term:=t,vote:=0,leads:=0,timeout:=toF dr}else {n with role:=1}) s out ms dr L) ?_ fun J hJ=>?_
 ·rintro l w5 ⟨rfl,x5,wk5⟩;exact⟨rfl,fun _=>s86 hh wk5 fun w6 wk6 x6=>⟨rfl,hK _ w6 wk6 (x5.trans x6)⟩⟩
 ·refine⟨_,st4.ld 0 rfl rfl,qJh (fun hlt=>⟨_,st4.ld 0 rfl rfl,s71 hh ⟨_,rfl,st4.put 0 rfl (yQk rfl) fun w5 st5 x5=>st5.put 0 rfl (yQk rfl) fun w6 st6 x6=>st6.put 0 rfl (yQk rfl) fun w7 st7 x7=>st7.put 0 rfl (yQk rfl) fun w8 st8 x8=>hJ _ _ ⟨rfl,?_⟩⟩⟩) fun hge=>hJ _ _ ⟨rfl,x4,?_⟩⟩
  ·have xx:Xt (W::bs::bm::bn::bv::ids L) w (W::bs::bm::bn::bv::ids L) w8:=(((x4.trans x5).trans x6).trans x7).trans x8;have wr8:=wr.x xx;rw[if_pos hlt];exact⟨xx,⟨st8,⟨wr8.snap,wr8.log,wr8.reads,wr8.out⟩,⟨we.seen,we.mtch,we.next,we.votes⟩⟩⟩
  ·have wr4:=wr.x x4;rw[if_neg hge];exact⟨st4,⟨wr4.snap,wr4.log,wr4.reads,wr4.out⟩,⟨we.seen,we.mtch,we.next,we.votes⟩⟩
def cntT(l:List Bool):Nat:=(l.filter id).length
theorem qQq(l:List Bool):cntT l≤l.length:=List.length_filter_le _ _
theorem qQp {l:List Bool}{i:Nat}(h:i<l.length):cntT (l.take (i+1))=cntT (l.take i)+(if l[i]=true then 1 else 0):=by
 unfold cntT;rw[List.take_add_one,List.filter_append,yQs,yQn h];cases l[i]<;>rfl
def wJ5(n:Nd):Nd:={clearN n with role:=3,leads:=n.id,elapsed:=0,next:=List.replicate n.next.length (qJi n+1)}
noncomputable def zJ2(n:Nd):Nd:=if n.size<2 * (cntT n.votes:Int)then putN (wJ5 n) []else n
noncomputable def zJ3(n:Nd):List Msg:=if n.size<2 * (cntT n.votes:Int)then xJt (putN (wJ5 n) []) n.size.toNat else []
theorem pJu {n:Nd}(h:n.size≤9):(zJ3 n).length≤9:=by
 unfold zJ3;split
 ·have:=kJg (putN (wJ5 n) []) n.size.toNat;omega
 ·simp
structure EC(n:Nd):Prop where
 size:n.size≤9
 id:1≤n.id∧n.id≤n.size
 base:0≤n.base∧n.base≤G40
 commit:0≤n.commit
 log:n.log.length<2^29
 data:∀e∈n.log,e.2.length≤60000
 snap:n.snap.length≤60000
 ln:Ln n
theorem EC.pc(h:EC n):PC (wJ5 n):=by
 obtain⟨h1,h2,h3,h4,h5,h6,h7,⟨l1,l2,l3,l4⟩⟩:=h;have hlast:qJi n=n.base+n.log.length:=rfl;refine⟨h1,h2,h3,h4,h5,h6,h7,by simp[wJ5];exact l2,by simp[wJ5,clearN];exact l3,fun x hx=>?_,fun x hx=>?_⟩
 ·have:=List.eq_of_mem_replicate (show x∈List.replicate n.next.length (qJi n+1)from hx);show 1≤x∧x≤qJi n+1;omega
 ·have:=List.eq_of_mem_replicate (show x∈List.replicate n.mtch.length (0:Int)from hx);show 0≤x∧x≤qJi n;omega
set_option maxRecDepth 20000 in
theorem s93(hh:HK hk)(wk:Wk T I w0 w W bs bm bn bv n s out ms dr L)(ec:EC n)(hms:ms.length<2^18)
    (hK:∀s' out' w',Wk T I w0 w' W bs bm bn bv (zJ2 n) s' out' (ms++zJ3 n) dr L→Xt (W::bs::bm::bn::bv::ids L) w (W::bs::bm::bn::bv::ids L) w'→K (.bool (decide (n.size<2 * (cntT n.votes:Int)))) w'):Cl Tryz.prog hk 93 [.ptr W 0] w K:=by
  refine in93 (hh.no _ _ _ (by decide) (by decide)) ?_;unfold F93;obtain⟨c1,c2,c3,c4,c5,c6,c7,⟨l1,l2,l3,l4⟩⟩:=id ec;have c32:=c3.2;unfold G40 at c32;have hlast:qJi n=n.base+n.log.length:=rfl;simp only[onP];have hv:=wk.nr.votes;refine qJd (v:=s.votes) (wk.st.ld 0 rfl rfl) ⟨_,hv.len',?_⟩;refine qJr (fun m lv w5=>∃i:Nat,w=w5∧i≤n.votes.length∧m=n.votes.length - i∧lv=[.int .i64 (cntT (n.votes.take i):Nat), .int .i64 i]) ?_ ⟨0,rfl,yQz _,rfl,rfl⟩;rintro m lv w5 ⟨i,rfl,hi,rfl,rfl⟩ R ih;refine⟨_,_,rfl,fun _=>qJh (fun hc=>?_) fun hc=>?_⟩
  · have hil:i<n.votes.length:=by omega
    have hcl:=qQq (n.votes.take i);rw[yQ9]at hcl;refine hv.at1 rfl hil fun b o a ha ho=>?_;have ha:[a]=[AV.bool n.votes[i]]:=ha;cases ha;have ht:=qQp hil;refine⟨_,ho,?_⟩;cases e:n.votes[i]with
    | true=>
      rw[if_pos e]at ht;refine qJ3 (ih (n.votes.length - (i+1)) (by omega) _ _ ⟨i+1,rfl,hil,rfl,?_⟩);rw[qJq (by omega) (by omega),qJq (by omega) (by omega),ht];rfl
    | false=>
      rw[if_neg (by rw[e];decide)]at ht;refine qJ0 (ih (n.votes.length - (i+1)) (by omega) _ _ ⟨i+1,rfl,hil,rfl,?_⟩);rw[qJq (by omega) (by omega),ht];rfl
  · have ei:i=n.votes.length:=by omega
    subst ei;rw[gQi];have hle:=qQq n.votes;obtain⟨sz,hsz⟩:∃sz:Nat,n.size=sz:=yQ8 (by omega);refine⟨_,wk.st.ld 0 rfl rfl,?_⟩;rw[hsz];refine s108 hh (by omega) (by omega) ⟨_,rfl,?_⟩;have ed:decide (sz<2 * cntT n.votes)=decide (n.size<2 * (cntT n.votes:Int)):=by rw[decide_eq_decide];omega
    rw[ed];by_cases hm:n.size<2 * (cntT n.votes:Int)
    · rw[decide_eq_true hm]
      refine qJ0 (s86 hh wk fun w6 wk6 x6=>⟨rfl,?_⟩);obtain⟨st6,wr6,we6⟩:=id wk6;refine⟨_,st6.ld 0 rfl rfl,st6.put 0 rfl (yQk rfl) fun w7 st7 x7=>st7.put 0 rfl (yQk rfl) fun w8 st8 x8=>st8.put 0 rfl (yQk rfl) fun w9 st9 x9=>?_⟩;have x69:Xt (W::bs::bm::bn::bv::ids L) w6 (W::bs::bm::bn::bv::ids L) w9:=Xt.trans (Xt.trans x7 x8) x9;have wr9:=wr6.x x69;have wk9:Wk T I w0 w9 W bs bm bn bv {clearN n with role:=3,leads:=n.id,elapsed:=0} {s with reads:= .nilslice} out ms dr L:=⟨st9,⟨wr9.snap,wr9.log,wr9.reads,wr9.out⟩,⟨we6.seen,we6.mtch,we6.next,we6.votes⟩⟩;refine qJd (v:=s.next) (st9.ld 0 rfl rfl) ⟨_,wk9.nr.next.len',?_⟩;have hnl:({clearN n with role:=3,leads:=n.id,elapsed:=0}:Nd).next.length=n.next.length:=by simp[clearN]
      rw[hnl];refine qJr (fun m lv w5=>∃i:Nat,i≤n.next.length∧m=n.next.length - i∧lv=[.int .i64 i]∧Wk T I w0 w5 W bs bm bn bv {clearN n with role:=3,leads:=n.id,elapsed:=0,next:=List.replicate i (qJi n+1)++List.replicate (n.next.length - i) 0} {s with reads:= .nilslice} out ms dr L∧Xt (W::bs::bm::bn::bv::ids L) w (W::bs::bm::bn::bv::ids L) w5) ?_ ⟨0,yQz _,rfl,rfl,wk9,x6.trans x69⟩;rintro m lv w10 ⟨i,hi,rfl,rfl,wk10,x10⟩ R ih;refine⟨_,rfl,fun _=>qJh (fun hc=>?_) fun hc=>?_⟩
      · have hil:i<n.next.length:=by omega
        refine qJd (v:=s.next) (wk10.st.ld 0 rfl rfl) ⟨_,_,_,_,_,_,_,_,_,_,_,_,_,_,_,_,_,_,_,wk10.st.ldN 0 rfl rfl rfl,?_⟩;refine s36 hh wk10.st.mem wk10.nr c3.1 (by show n.base<_;omega) (by show n.log.length<_;omega) fun w11 f11=>⟨_,rfl,?_⟩;obtain⟨st11,x11⟩:=wk10.st.call f11;refine⟨st11.ld 0 rfl rfl,?_⟩;have enx:=wk10.we.next;have hll:(List.replicate i (qJi n+1)++List.replicate (n.next.length - i) (0:Int)).length=n.next.length:=by simp;omega
        simp only[hll]at enx;rw[enx];have el:qJi {clearN n with role:=3,leads:=n.id,elapsed:=0,next:=List.replicate i (qJi n+1)++List.replicate (n.next.length - i) 0}=qJi n:=rfl;rw[el,qJq (x:=qJi n+1) (by omega) (by omega)];refine idx0 hil (st11.put 3 rfl (by simp;omega) fun w12 st12 x12=>ih (n.next.length - (i+1)) (by omega) _ _ ⟨i+1,hil,rfl,by rw[qJq (by omega) (by omega)];rfl,?_,x10.trans (Xt.trans x11 x12)⟩);have wr12:=wk10.wr.x (Xt.trans x11 x12);have en:(List.replicate i (qJi n+1)++List.replicate (n.next.length - i) (0:Int)).set i (qJi n+1)=List.replicate (i+1) (qJi n+1)++List.replicate (n.next.length - (i+1)) 0:=by
          rw[List.set_append_right _ _ (by simp),show n.next.length - i=(n.next.length - (i+1))+1 by omega,List.replicate_succ,gQ0,Nat.sub_self,List.set_cons_zero,List.replicate_succ',yQy];rfl
        have st12':=st12;simp only[stN]at st12';rw[vJ2 (by rw[hll];exact hil),en]at st12';refine⟨st12',⟨wr12.snap,wr12.log,wr12.reads,wr12.out⟩,⟨wk10.we.seen,wk10.we.mtch,?_,wk10.we.votes⟩⟩;have:(List.replicate (i+1) (qJi n+1)++List.replicate (n.next.length - (i+1)) (0:Int)).length=n.next.length:=by simp;omega
        simp only[this];exact enx
      · have ei:i=n.next.length:=by omega
        subst ei;rw[Nat.sub_self,List.replicate_zero,gQc]at wk10;refine s52 (A:=TA) hh wk10 ec.pc Rp.rd.nil (by simp) hms fun s' out' w12 wk12 x12=>⟨rfl,?_⟩;have:=hK s' out' w12 (by unfold zJ2 zJ3;rw[if_pos hm,if_pos hm];exact wk12) (x10.trans x12);rw[decide_eq_true hm]at this;exact this
    · rw[decide_eq_false hm]
      have:=hK s out w (by unfold zJ2 zJ3;rw[if_neg hm,if_neg hm,gQc];exact wk) Xt.refl;rw[decide_eq_false hm]at this;exact qJ3 this
end
end Go.Proofs.YtghoifolghelnaaGreat
