/-
 What a right node becomes is right.
 No condition beyond those that each theorem names.
-/
import Derived.Test.YtghoifolghelnaaGreatMd
import Derived.Test.YtghoifolghelnaaGreatSxu
import Derived.Test.YtghoifolghelnaaGreatSxn
import Derived.Test.YtghoifolghelnaaGreatProg
import Derived.KernelRfl
set_option linter.unusedSimpArgs false
set_option linter.unusedVariables false
open Go.Sx
namespace Go.Proofs.YtghoifolghelnaaGreat
structure Up(n y:Nd):Prop where
 right:qJl y
 term:n.term≤y.term
 commit:n.commit≤y.commit
 base:n.base≤y.base
 vote:y.term=n.term→n.vote≠0→y.vote=n.vote
theorem z0:(0:Int)≤0∧(0:Int)≤G40:=by decide
theorem Up.refl {n:Nd}(h:qJl n):Up n n:=⟨h,yQo _,yQo _,yQo _,fun _ _=>rfl⟩
theorem Up.trans {a b c:Nd}(h:Up a b)(h':Up b c):Up a c:=⟨h'.right,gQy h.term h'.term,gQy h.commit h'.commit,gQy h.base h'.base,fun ht hv=>by
 have e:b.term=a.term:=by have:=h.term;have:=h'.term;omega
 have:=h.vote e hv;rw[h'.vote (by omega) (by rw[this];exact hv),this]⟩
theorem vJ5 {k:Nat}:Btw 0 0 (List.replicate k (0:Int)):=fun x hx=>by rw[List.eq_of_mem_replicate hx];omega
theorem rJl {k:Nat}:true∉List.replicate k false:=fun h=>by have:=List.eq_of_mem_replicate h;cases this
theorem sJb:∀{l:List Ent} {low high high':Int},risP low high l→high≤high'→risP low high' l
 | [],_,_,_,h,hh=>gQy h hh
 | e::l,_,_,_,⟨h1,h2,h3⟩,hh=>⟨h1,h2,sJb h3 hh⟩
theorem rJe:∀{l:List Ent} {low high:Int} {d:Byts},risP low high l→d.length≤60000→risP low high (l++[(high,d)])
 | [],low,high,d,h,hd=>⟨h,hd,yQo _⟩
 | e::l,low,high,d,⟨h1,h2,h3⟩,hd=>⟨h1,h2,rJe h3 hd⟩
theorem uJu(n:Nd):tJm (clearN n):=⟨vJ5,vJ5,vJ5,rfl,rfl⟩
theorem kJ3 {n:Nd}{t dr:Int}(h:qJl n)(ht:t≤G40):Up n (followN n t dr):=by
 have htf:1≤toF dr∧toF dr≤G40:=by
  have:=cJ0 dr;rw[vQg];unfold G40;split<;>omega
 obtain⟨a1,a2,a3,a4,a5,a6,a7,a8,a9,a10,a11,a12,a13,a14,a15,a16,a17,a18,a19⟩:=h;unfold followN;split
 ·rename_i hlt;refine⟨⟨a1,a2,⟨yQo 0,by show(0:Int)≤n.size;omega⟩,⟨yQo 0,by show(0:Int)≤n.size;omega⟩,⟨by show 0≤t;omega,ht⟩,a6,z0,a8,htf,a10,sJb a11 (by show n.term≤t;omega),a12,a13,by simp[clearN];exact a14,by simp[clearN];exact a15,by simp[clearN];exact a16,by simp[clearN];exact a17,⟨yQo _,by simp[clearN]⟩,.inl ⟨rfl,uJu _,rJl⟩⟩,by show n.term≤t;omega,yQo _,yQo _,fun e _=>?_⟩;have e:t=n.term:=e;omega
 ·exact⟨⟨a1,a2,a3,a4,a5,a6,z0,a8,a9,a10,a11,a12,a13,by simp[clearN];exact a14,by simp[clearN];exact a15,by simp[clearN];exact a16,by simp[clearN];exact a17,⟨yQo _,by simp[clearN]⟩,.inl ⟨rfl,uJu _,rJl⟩⟩,yQo _,yQo _,yQo _,fun _ _=>rfl⟩
theorem uJ7 {P:Int→Prop}{M:Int}(hM:∀n,P n→n≤M):∀(k:Nat) (n:Int),P n→M - n≤k→∃x,P x∧∀m,P m→m≤x
  | 0,n,hn,h=>⟨n,hn,fun m hm=>by have:=hM m hm;omega⟩
  | k+1,n,hn,h=>by
    by_cases hx:∃m,P m∧n<m
    · obtain⟨m,hm,hlt⟩:=hx
      exact uJ7 hM k m hm (by omega)
    · exact⟨n,hn,fun m hm=>by
        rcases Int.lt_or_le n m with h | h
        · exact absurd ⟨m,hm,h⟩ hx
        · exact h⟩
theorem iJ4(c t b bt:Int)(ts:List Int)(r:Int):∃x,cJt c t b bt ts r x:=by
 by_cases hx:∃n,SetS c t b bt ts r n
 ·obtain⟨n,hn⟩:=hx;obtain⟨x,h1,h2⟩:=uJ7 (P:=SetS c t b bt ts r) (M:=b+ts.length) (fun n h=>h.2.2.2.1) (b+ts.length - n).toNat n hn (by omega);exact⟨x,.inr ⟨h1,h2⟩⟩
 ·exact⟨c,.inl ⟨rfl,fun n hn=>hx ⟨n,hn⟩⟩⟩
theorem bJ0:∀(l:List Int) (a:Int),∃y∈(a::l),∀x∈(a::l),y≤x
  | [],a=>⟨a,by simp,by simp⟩
  | b::l,a=>by
    obtain⟨y,h1,h2⟩:=bJ0 l b;rcases Int.le_total a y with h | h
    · exact⟨a,by simp,fun x hx=>by
        rcases yQw.1 hx with rfl | hx
        · exact yQo _
        · exact gQy h (h2 x hx)⟩
    · exact⟨y,yQq _ h1,fun x hx=>by
        rcases yQw.1 hx with rfl | hx
        · exact h
        · exact h2 x hx⟩
theorem bJ1:∀(l:List Int) (a:Int),∃y:Int,∀x∈(a::l),x≤y
  | [],a=>⟨a,by simp⟩
  | b::l,a=>by
    obtain⟨y,h2⟩:=bJ1 l b;exact⟨max a y,fun x hx=>by
      rcases yQw.1 hx with rfl | hx
      · omega
      · have:=h2 x hx;omega⟩
theorem tJb(l:List Int):∃r,kJh l r:=by
  cases l with
  | nil=>exact⟨0, .inl ⟨rfl,rfl⟩⟩
  | cons a l=>
    have hmin:=bJ0 l a;have hmax:=bJ1 l a;obtain⟨y,h1,h2⟩:=hmin;obtain⟨M,hM⟩:=hmax;have hy:y∈(a::l)∧(a::l).length<2 * cnt y (a::l):=by
      refine⟨h1,?_⟩;have:cnt y (a::l)=(a::l).length:=by
        unfold cnt;rw[List.filter_eq_self.2 fun x hx=>decide_eq_true (h2 x hx)]
      rw[this,gQd];omega
    obtain⟨x,h3,h4⟩:=uJ7 (P:=fun x=>x∈(a::l)∧(a::l).length<2 * cnt x (a::l)) (fun n h=>hM n h.1) (M - y).toNat y hy (by have:=hM y h1;omega);exact⟨x, .inr ⟨h3.1,h3.2,fun z hz hz2=>h4 z ⟨hz,hz2⟩⟩⟩
theorem fJi(l:List Int):kJh l (dJ0 l):=by
 obtain⟨r,h⟩:=tJb l;rw[←fJj h];exact h
theorem qQ4(c t b bt:Int)(ts l:List Int):cJt c t b bt ts (dJ0 l) (advF c t b bt ts l):=by
 obtain⟨x,h⟩:=iJ4 c t b bt ts (dJ0 l);rw[←qQ5 (fJi l) h];exact h
theorem qQ3 {c t b bt:Int}{ts l:List Int}(hc:c≤b+ts.length):c≤advF c t b bt ts l∧advF c t b bt ts l≤b+ts.length:=by
 rcases qQ4 c t b bt ts l with⟨e,_⟩ | ⟨⟨h1,_,_,h4,_⟩,_⟩
 ·rw[e];exact⟨yQo _,hc⟩
 ·exact⟨Int.le_of_lt h1,h4⟩
theorem aJ0 {a b:Int}:imin a b≤b:=by unfold imin;split<;>omega
theorem yJ4 {l:List Int}{a b x:Int}{k:Nat}(h:Btw a b l)(hx:a≤x∧x≤b):Btw a b (l.set k x):=fun y hy=>by
 rcases List.mem_or_eq_of_mem_set hy with hy | rfl
 ·exact h y hy
 ·exact hx
theorem qQs {l:List Int}{a b b':Int}(h:Btw a b l)(hb:b≤b'):Btw a b' l:=fun x hx=>⟨(h x hx).1,gQy (h x hx).2 hb⟩
section
variable {n:Nd}{m:Msg}{dr:Int}{d:Byts}
theorem mJ6(h:qJl n)(hr:n.role=3):true∉n.votes∧n.leads=n.id∧Btw 1 (qJi n+1) n.next∧Btw 0 (qJi n) n.mtch∧Btw 0 n.round n.seen:=by
 rcases h.roles with⟨e,_⟩ | ⟨e,_⟩ | ⟨_,h⟩
 ·rw[e]at hr;cases hr
 ·rw[e]at hr;cases hr
 ·exact h
theorem vQm(h:qJl n)(hr:n.role=2):tJm n∧n.votes.getD (n.id - 1).toNat false=true:=by
 rcases h.roles with⟨e,_⟩ | ⟨_,h⟩ | ⟨e,_⟩
 ·rw[e]at hr;cases hr
 ·exact h
 ·rw[e]at hr;cases hr
theorem jJ0 {e:Int}(h:qJl n)(he:0≤e∧e≤G40):Up n {n with elapsed:=e}:=by
 obtain⟨a1,a2,a3,a4,a5,a6,a7,a8,a9,a10,a11,a12,a13,a14,a15,a16,a17,a18,a19⟩:=h;exact⟨⟨a1,a2,a3,a4,a5,a6,a7,he,a9,a10,a11,a12,a13,a14,a15,a16,a17,a18,a19⟩,yQo _,yQo _,yQo _,fun _ _=>rfl⟩
theorem uJi(h:qJl n):Up n (wJ5 n):=by
 obtain⟨a1,a2,a3,a4,a5,a6,a7,a8,a9,a10,a11,a12,a13,a14,a15,a16,a17,a18,a19⟩:=h;refine⟨⟨a1,a2,a3,⟨by show 0≤n.id;omega,a2.2⟩,a5,a6,z0,z0,a9,a10,a11,a12,a13,by simp[wJ5,clearN];exact a14,by simp[wJ5,clearN];exact a15,by simp[wJ5,clearN];exact a16,by simp[wJ5,clearN];exact a17,⟨yQo _,by simp[wJ5,clearN]⟩,.inr (.inr ⟨rfl,rJl,rfl,fun x hx=>?_,fun x hx=>?_,vJ5⟩)⟩,yQo _,yQo _,yQo _,fun _ _=>rfl⟩
 ·rw[List.eq_of_mem_replicate hx];have:qJi (wJ5 n)=qJi n:=rfl;rw[this];unfold qJi;omega
 ·rw[List.eq_of_mem_replicate hx];have:qJi (wJ5 n)=qJi n:=rfl;rw[this];unfold qJi;omega
theorem bJp(n:Nd)(x:Ent):n.base+((n.log++[x]).length:Int)=qJi n+1:=by unfold qJi;rw[yQs,gQv];omega
theorem rJi(h:qJl n)(hr:n.role=3)(hd:d.length≤60000):Up n (putN n d):=by
 obtain⟨r1,r2,r3,r4,r5⟩:=mJ6 h hr;obtain⟨a1,a2,a3,a4,a5,a6,a7,a8,a9,a10,a11,a12,a13,a14,a15,a16,a17,a18,a19⟩:=h;have hl:=bJp n (n.term,d);have hlast:0≤qJi n:=by unfold qJi;omega
 have hadv:=qQ3 (c:=n.commit) (t:=n.term) (b:=n.base) (bt:=n.bt) (ts:=(n.log++[(n.term,d)]).map (·.1)) (l:=n.mtch.set (n.id - 1).toNat (qJi n+1)) (by rw[yQr,hl];omega);rw[yQr]at hadv;unfold putN vJr;refine⟨⟨a1,a2,a3,a4,a5,a6,a7,a8,a9,a10,rJe a11 hd,⟨gQy a12.1 hadv.1,hadv.2⟩,a13,a14,by rw[yQ0];exact a15,by rw[yQ0];exact a16,a17,a18,.inr (.inr ⟨hr,r1,r2,?_,?_,r5⟩)⟩,yQo _,hadv.1,yQo _,fun _ _=>rfl⟩
 ·show Btw 1 (n.base+((n.log++[(n.term,d)]).length:Int)+1) _;rw[hl];exact yJ4 (qQs r3 (by omega)) ⟨by omega,yQo _⟩
 ·show Btw 0 (n.base+((n.log++[(n.term,d)]).length:Int)) _;rw[hl];exact yJ4 (qQs r4 (by omega)) ⟨by omega,yQo _⟩
theorem gJm(h:qJl n):Up n (zJ2 n):=by
 unfold zJ2;split
 ·exact(uJi h).trans (rJi (uJi h).right rfl (by simp))
 ·exact Up.refl h
theorem eJi:1≤toF dr∧toF dr≤G40:=by
 have:=cJ0 dr;rw[vQg];unfold G40;split<;>omega
theorem zQz {l:List Bool}{k:Nat}(h:k<l.length):(l.set k true).getD k false=true:=by
 rw[yQj,gQo,if_pos rfl,if_pos h];rfl
theorem tJv {l:List Bool}{j k:Nat}(h:l.getD k false=true):(l.set j true).getD k false=true:=by
 rw[yQj]at h ⊢;rw[gQo];split
 ·rename_i e;subst e;split
  ·rfl
  ·rename_i hn;rw[yQ6 (by omega)]at h;cases h
 ·exact h
theorem yJr(h:qJl n)(ht:n.term≠G40):Up n (zJg n dr):=by
 obtain⟨a1,a2,a3,a4,a5,a6,a7,a8,a9,a10,a11,a12,a13,a14,a15,a16,a17,a18,a19⟩:=h;refine⟨⟨a1,a2,⟨by show 0≤n.id;omega,a2.2⟩,⟨yQo 0,by show(0:Int)≤n.size;omega⟩,⟨by show 0≤n.term+1;omega,by show n.term+1≤G40;omega⟩,a6,z0,z0,eJi,a10,sJb a11 (by show n.term≤n.term+1;omega),a12,a13,by simp[zJg];exact a14,by simp[zJg,clearN];exact a15,by simp[zJg,clearN];exact a16,by simp[zJg,clearN];exact a17,⟨yQo _,by simp[zJg,clearN]⟩,.inr (.inl ⟨rfl,uJu n,?_⟩)⟩,by show n.term≤n.term+1;omega,yQo _,yQo _,fun e _=>?_⟩
 ·show((List.replicate n.votes.length false).set (n.id - 1).toNat true).getD (n.id - 1).toNat false=true;exact zQz (by rw[gQ0];omega)
 ·have e:n.term+1=n.term:=e;omega
theorem rJh(h:qJl n):Up n (jJ7 n dr):=by
 unfold jJ7;split
 ·exact jJ0 h z0
 ·rename_i ht;exact(yJr h ht).trans (gJm (yJr h ht).right)
theorem uJb {e:Int}:jJ7 {n with elapsed:=e} dr=jJ7 n dr:=by
 unfold jJ7 zJg clearN;rfl
theorem iJh(h:qJl n):Up n (wJ3 n dr):=by
 have he:=h.elapsed;have ht:=h.timeout;unfold wJ3;split
 ·split
  ·exact jJ0 h z0
  ·exact jJ0 h ⟨by omega,by unfold G40;omega⟩
 ·split
  ·rw[uJb];exact rJh h
  ·exact jJ0 h ⟨by omega,by omega⟩
theorem dJ4(h:qJl n)(hs:1≤m.src∧m.src≤n.size):Up n (vJh n m):=by
 unfold vJh;split
 ·rename_i hy;obtain⟨a1,a2,a3,a4,a5,a6,a7,a8,a9,a10,a11,a12,a13,a14,a15,a16,a17,a18,a19⟩:=h;refine⟨⟨a1,a2,⟨by show 0≤m.src;omega,hs.2⟩,a4,a5,a6,a7,z0,a9,a10,a11,a12,a13,a14,a15,a16,a17,a18,a19⟩,yQo _,yQo _,yQo _,fun _ hv=>?_⟩;show m.src=n.vote;unfold yesV at hy;simp only[gQ3,Bool.or_eq_true,decide_eq_true_eq]at hy;rcases hy.2.1 with h | h
  ·exact absurd h hv
  ·exact h.symm
 ·exact Up.refl h
theorem sJc(h:qJl n):Up n (gJd n m):=by
 unfold gJd;split
 ·rename_i hc;obtain⟨r1,r2⟩:=vQm h hc.1;have h2:Up n {n with votes:=n.votes.set (m.src - 1).toNat true}:=by
   obtain⟨a1,a2,a3,a4,a5,a6,a7,a8,a9,a10,a11,a12,a13,a14,a15,a16,a17,a18,a19⟩:=h;exact⟨⟨a1,a2,a3,a4,a5,a6,a7,a8,a9,a10,a11,a12,a13,by rw[yQ0];exact a14,a15,a16,a17,a18,.inr (.inl ⟨hc.1,r1,tJv r2⟩)⟩,yQo _,yQo _,yQo _,fun _ _=>rfl⟩
  exact h2.trans (gJm h2.right)
 ·exact Up.refl h
theorem dJ3(h:qJl n)(ht:m.term≤G40)(hs:1≤m.src∧m.src≤n.size):Up n (ledN n m dr):=by
 have hf:=kJ3 (t:=m.term) (dr:=dr) h ht;have e2:=(xJy n m.term dr).2.1;have e5:=(xJy n m.term dr).2.2.2.2.1;unfold ledN;generalize followN n m.term dr=y at hf e2 e5;obtain⟨⟨a1,a2,a3,a4,a5,a6,a7,a8,a9,a10,a11,a12,a13,a14,a15,a16,a17,a18,a19⟩,b1,b2,b3,b4⟩:=hf;refine⟨⟨a1,a2,a3,⟨by show 0≤m.src;omega,by show m.src≤y.size;omega⟩,a5,a6,a7,z0,a9,a10,a11,a12,a13,a14,a15,a16,a17,a18,?_⟩,b1,b2,b3,b4⟩;rcases a19 with h | ⟨h,_⟩ | ⟨h,_⟩
 ·exact .inl h
 ·rw[e5]at h;cases h
 ·rw[e5]at h;cases h
theorem rJ4 {l:List Ent}:∀{es:List Ent} {a:Nat},a≤l.length→a+es.length≤(zJz l a es).length
  | [],a,h=>by unfold zJz;simpa using h
  | e::es,a,h=>by
    unfold zJz;split
    · rename_i x hx
      have hlt:=(yQt.1 hx).1;split
      · have:=rJ4 (l:=l) (es:=es) (a:=a+1) (by omega)
        rw[gQd];omega
      · simp;omega
    · simp;omega
theorem dJp {base bt:Int}{ts:List Int}{i:Int}(h:(termAt base bt ts i).2=true):base≤i∧i≤base+ts.length:=by
 unfold termAt at h;split at h
 ·omega
 ·split at h
  ·cases h
  ·omega
theorem sJv {base bt index term:Int}{l es:List Ent}(h:(qJ5 base bt l index term es).2.2=true):(qJ5 base bt l index term es).2.1≤base+(qJ5 base bt l index term es).1.length:=by
 have g:∀(ix tm:Int) (es2:List Ent),(jJc base bt l ix tm es2).2.2=true→(jJc base bt l ix tm es2).2.1≤base+(jJc base bt l ix tm es2).1.length:=fun ix tm es2 h=>by
  unfold jJc at h ⊢;split
  ·rename_i hc;have hle:=dJp hc.1;rw[yQr]at hle;have:=rJ4 (l:=l) (es:=es2) (a:=(ix - base).toNat) (by omega);simp only[];omega
  ·rename_i hc;rw[if_neg hc]at h;cases h
 unfold qJ5 at h ⊢;split
 ·rename_i h1;rw[if_pos h1]at h;split
  ·simp only[];omega
  ·rename_i h2;rw[if_neg h2]at h;exact g _ _ _ h
 ·rename_i h1;rw[if_neg h1]at h;exact g _ _ _ h
theorem rJj(h:qJl n)(hr:n.role=1):Up n (appN n m):=by
 unfold appN;split
 ·rename_i hc;obtain⟨c1,c2,c3⟩:=hc;have hml:=sJv c1;obtain⟨a1,a2,a3,a4,a5,a6,a7,a8,a9,a10,a11,a12,a13,a14,a15,a16,a17,a18,a19⟩:=h;have q1:n.commit≤imax n.commit (imin m.commit (qJ5 n.base n.bt n.log m.index m.lt m.ents).2.1):=gJq (yQo _);refine⟨⟨a1,a2,a3,a4,a5,a6,a7,a8,a9,a10,c2,⟨gQy a12.1 q1,?_⟩,a13,a14,a15,a16,a17,a18,?_⟩,yQo _,q1,yQo _,fun _ _=>rfl⟩
  ·show imax _ _≤n.base+_;exact wJd c3 (gQy aJ0 hml)
  ·rcases a19 with h | ⟨h,_⟩ | ⟨h,_⟩
   ·exact .inl h
   ·rw[hr]at h;cases h
   ·rw[hr]at h;cases h
 ·exact Up.refl h
theorem rJf:∀{l:List Ent} {low high:Int} (k:Nat),risP low high l→risP (if k=0 then low else(l.map (·.1)).getD (k - 1) high) high (l.drop k)
  | l,low,high,0,h=>by rw[if_pos rfl];exact h
  | [],low,high,k+1,h=>by rw[if_neg (by omega)];simp[risP]
  | e::l,low,high,k+1,⟨h1,h2,h3⟩=>by
    have:=rJf (l:=l) k h3;rw[if_neg (by omega)]
    cases k with
    | zero=>simpa using this
    | succ k=>simpa using this
theorem dJ2 {bt high:Int}{l:List Ent}{base i:Int}(h:risP bt high l)(ht:(termAt base bt (l.map (·.1)) i).2=true):risP (termAt base bt (l.map (·.1)) i).1 high (l.drop (i - base).toNat):=by
 have hle:=dJp ht;rw[yQr]at hle;have:=rJf (i - base).toNat h;have e:(termAt base bt (l.map (·.1)) i).1=if(i - base).toNat=0 then bt else(l.map (·.1)).getD ((i - base).toNat - 1) high:=by
  unfold termAt;by_cases h0:i=base
  ·rw[if_pos h0,if_pos (by omega)]
  ·rw[if_neg h0,if_neg (by rw[yQr];omega),if_neg (by omega),show(i - base).toNat - 1=(i - base - 1).toNat by omega];show(l.map (·.1)).getD _ 0=_;rw[yQj,yQj,yQn (by rw[yQr];omega)];rfl
 rw[e];exact this
theorem mJ8(h:qJl n)(hr:n.role=1)(hi:m.index≤G40)(hlt:0≤m.lt∧m.lt≤n.term)(hs:m.snap.length≤60000):Up n (zJ0 n m):=by
 unfold zJ0;split
 ·rename_i hc;obtain⟨a1,a2,a3,a4,a5,a6,a7,a8,a9,a10,a11,a12,a13,a14,a15,a16,a17,a18,a19⟩:=h;refine⟨⟨a1,a2,a3,a4,a5,⟨by show 0≤m.index;omega,hi⟩,a7,a8,a9,hlt.1,?_,⟨yQo _,by show m.index≤m.index+_;omega⟩,hs,a14,a15,a16,a17,a18,?_⟩,yQo _,by show n.commit≤m.index;omega,by show n.base≤m.index;omega,fun _ _=>rfl⟩
  ·show risP m.lt n.term (if _ then _ else _);split
   ·rename_i h2;have:=dJ2 a11 h2.1;rw[h2.2]at this;exact this
   ·exact hlt.2
  ·rcases a19 with h | ⟨h,_⟩ | ⟨h,_⟩
   ·exact .inl h
   ·rw[hr]at h;cases h
   ·rw[hr]at h;cases h
 ·exact Up.refl h
theorem rJg(h:qJl n)(hr:n.role=3)(hi:0≤m.index):Up n (telN n m):=by
 obtain⟨r1,r2,r3,r4,r5⟩:=mJ6 h hr;have hmt:∀k,0≤n.mtch.getD k 0∧n.mtch.getD k 0≤qJi n:=fun k=>by
  have hlast:0≤qJi n:=by have:=h.base;unfold qJi;omega
  rw[yQj]
  cases hx:n.mtch[k]? with
  | none=>exact⟨yQo _,hlast⟩
  | some x=>exact r4 x (List.mem_of_getElem? hx)
 have hnx:∀k,n.next.getD k 0≤qJi n+1:=fun k=>by
  have hlast:0≤qJi n:=by have:=h.base;unfold qJi;omega
  rw[yQj]
  cases hx:n.next[k]? with
  | none=>show(0:Int)≤_;omega
  | some x=>exact(r3 x (List.mem_of_getElem? hx)).2
 obtain⟨a1,a2,a3,a4,a5,a6,a7,a8,a9,a10,a11,a12,a13,a14,a15,a16,a17,a18,a19⟩:=h;unfold telN;split
 ·unfold nJa;refine⟨⟨a1,a2,a3,a4,a5,a6,a7,a8,a9,a10,a11,a12,a13,a14,by rw[yQ0];exact a15,a16,a17,a18,.inr (.inr ⟨hr,r1,r2,yJ4 r3 ⟨?_,?_⟩,r4,r5⟩)⟩,yQo _,yQo _,yQo _,fun _ _=>rfl⟩
  ·have:=(hmt (srcI m)).1;exact fJ6 (by omega)
  ·have:=(hmt (srcI m)).2;have:=hnx (srcI m);show _≤qJi n+1;exact wJd (imin_le (by omega)) (by omega)
 ·split
  ·rename_i hle;have hadv:=qQ3 (c:=n.commit) (t:=n.term) (b:=n.base) (bt:=n.bt) (ts:=n.log.map (·.1)) (l:=n.mtch.set (srcI m) (imax (n.mtch.getD (srcI m) 0) m.index)) (by rw[yQr];exact a12.2);rw[yQr]at hadv;have q1:=hmt (srcI m);have q2:0≤imax (n.mtch.getD (srcI m) 0) m.index:=gJq q1.1;have q3:imax (n.mtch.getD (srcI m) 0) m.index≤qJi n:=wJd q1.2 hle;unfold hasN vJr;refine⟨⟨a1,a2,a3,a4,a5,a6,a7,a8,a9,a10,a11,⟨gQy a12.1 hadv.1,hadv.2⟩,a13,a14,by rw[yQ0];exact a15,by rw[yQ0];exact a16,a17,a18,.inr (.inr ⟨hr,r1,r2,yJ4 r3 ⟨fJ6 (by omega),wJd (hnx _) (by show _≤qJi n+1;omega)⟩,yJ4 r4 ⟨q2,q3⟩,r5⟩)⟩,yQo _,hadv.1,yQo _,fun _ _=>rfl⟩
  ·exact Up.refl ⟨a1,a2,a3,a4,a5,a6,a7,a8,a9,a10,a11,a12,a13,a14,a15,a16,a17,a18,a19⟩
theorem mJ7(h:qJl n)(hr:n.role=3):Up n (seenN n m):=by
 obtain⟨r1,r2,r3,r4,r5⟩:=mJ6 h hr;have hse:∀k,0≤n.seen.getD k 0∧n.seen.getD k 0≤n.round:=fun k=>by
  have hrd:=h.round;rw[yQj]
  cases hx:n.seen[k]? with
  | none=>exact⟨yQo _,hrd.1⟩
  | some x=>exact r5 x (List.mem_of_getElem? hx)
 unfold seenN;split
 ·rename_i hle;obtain⟨a1,a2,a3,a4,a5,a6,a7,a8,a9,a10,a11,a12,a13,a14,a15,a16,a17,a18,a19⟩:=h;exact⟨⟨a1,a2,a3,a4,a5,a6,a7,a8,a9,a10,a11,a12,a13,a14,a15,a16,by rw[yQ0];exact a17,a18,.inr (.inr ⟨hr,r1,r2,r3,r4,yJ4 r5 ⟨gJq (hse _).1,wJd (hse _).2 hle⟩⟩)⟩,yQo _,yQo _,yQo _,fun _ _=>rfl⟩
 ·exact Up.refl h
theorem iJg(h:qJl n)(hi:0≤m.index):Up n (toldN n m):=by
 unfold toldN;split
 ·rename_i hc;have h1:=mJ7 (m:=m) h hc.1;have er:(seenN n m).role=3:=by unfold seenN;split<;>exact hc.1
  exact h1.trans (rJg h1.right er hi)
 ·exact Up.refl h
theorem iJi(h:qJl n)(hp:MsgP n m):Up n (gJf n m dr):=by
 unfold gJf;have h0:Up n (if n.term<m.term then followN n m.term dr else n):=by
  split
  ·exact kJ3 h hp.term.2
  ·exact Up.refl h
 have hs:1≤m.src∧m.src≤(if n.term<m.term then followN n m.term dr else n).size:=by
  split
  ·rw[(xJy n m.term dr).2.1];exact hp.srcR
  ·exact hp.srcR
 have ht:¬ (if n.term<m.term then followN n m.term dr else n).term<m.term:=by
  split
  ·rename_i hlt;rw[(xJy n m.term dr).2.2.2.2.2.1,if_pos hlt];omega
  ·rename_i hlt;exact hlt
 refine h0.trans ?_;have h1:=h0.right;clear h0;generalize(if n.term<m.term then followN n m.term dr else n)=y at hs ht h1;unfold wJ6;split
 ·exact dJ4 h1 hs
 ·split
  ·exact sJc h1
  ·split
   ·unfold vJi;split
    ·exact Up.refl h1
    ·split
     ·exact Up.refl h1
     ·have h2:=dJ3 (dr:=dr) h1 hp.term.2 hs;exact h2.trans (rJj h2.right (xJy y m.term dr).2.2.2.2.1)
   ·split
    ·exact iJg h1 hp.nums.1.1
    ·unfold xJc;split
     ·exact Up.refl h1
     ·split
      ·exact Up.refl h1
      ·rename_i hge _;have h2:=dJ3 (dr:=dr) h1 hp.term.2 hs;refine h2.trans (mJ8 h2.right (xJy y m.term dr).2.2.2.2.1 hp.nums.1.2 ⟨hp.lt,?_⟩ hp.snap);have e:(ledN y m dr).term=(if y.term<m.term then m.term else y.term):=(xJy y m.term dr).2.2.2.2.2.1;rw[e,if_neg ht];have:=fJk hp.ents;omega
theorem rJn:∀{l:List Rdg} {a b:Int} {i c:Int},rdsP a b l→rdsP a (b+1) (l++[(i,c,b+1)])
  | [],a,b,i,c,h=>by
    have h:a≤b:=h;exact⟨by show a<b+1;omega,yQo _⟩
  | r::l,a,b,i,c,⟨h1,h2⟩=>⟨h1,rJn h2⟩
theorem iJk {id:Int}(h:qJl n)(hr:n.role=3)(h64:n.reads.length<64)(hrd:n.round≠G40):Up n (kJa n id):=by
 obtain⟨r1,r2,r3,r4,r5⟩:=mJ6 h hr;obtain⟨a1,a2,a3,a4,a5,a6,a7,a8,a9,a10,a11,a12,a13,a14,a15,a16,a17,a18,a19⟩:=h;unfold kJa;exact⟨⟨a1,a2,a3,a4,a5,a6,⟨by show 0≤n.round+1;omega,by show n.round+1≤G40;omega⟩,a8,a9,a10,a11,a12,a13,a14,a15,a16,by rw[yQ0];exact a17,⟨rJn a18.1,by simp;omega⟩,.inr (.inr ⟨hr,r1,r2,r3,r4,yJ4 (qQs r5 (by show n.round≤n.round+1;omega)) ⟨by omega,yQo _⟩⟩)⟩,yQo _,yQo _,yQo _,fun _ _=>rfl⟩
theorem iJl {i:Int}(h:qJl n)(hi:n.base<i)(hc:i≤n.commit)(hg:i≤G40)(hd:d.length≤60000):Up n (bJ3 n i d):=by
  have ht:(termAt n.base n.bt (n.log.map (·.1)) i).2=true:=by
    have:=h.commit;unfold qJi at this;unfold termAt;rw[if_neg (by omega),if_neg (by rw[yQr];omega)]
  have hrt:=dJ2 h.log ht;have hcm:=h.commit;have hlast:qJi (bJ3 n i d)=qJi n:=by
    show i+((n.log.drop (i - n.base).toNat).length:Int)=n.base+n.log.length;unfold qJi at hcm;rw[yQ3];omega
  have hbt:0≤(termAt n.base n.bt (n.log.map (·.1)) i).1:=by
    have:=h.bt;have key:∀{l:List Ent} {low high:Int},0≤low→risP low high l→∀e∈l,0≤e.1:=by
      intro l
      induction l with
      | nil=>intro _ _ _ _ e he;cases he
      | cons a l ih=>
        intro low high h0 hr e he;obtain⟨q1,q2,q3⟩:=hr;rcases yQw.1 he with rfl | he
        · omega
        · exact ih (by omega) q3 e he
    unfold termAt;split
    · exact this
    · split
      · exact yQo _
      · rw[yQj]
        cases hx:(n.log.map (·.1))[(i - n.base - 1).toNat]? with
        | none=>exact yQo _
        | some x=>
          obtain⟨e,he,rfl⟩:=List.mem_map.1 (List.mem_of_getElem? hx);exact key this h.log e he
  obtain⟨a1,a2,a3,a4,a5,a6,a7,a8,a9,a10,a11,a12,a13,a14,a15,a16,a17,a18,a19⟩:=h;refine⟨⟨a1,a2,a3,a4,a5,⟨by show 0≤i;omega,hg⟩,a7,a8,a9,hbt,hrt,⟨hc,by rw[hlast];exact a12.2⟩,hd,a14,a15,a16,a17,a18,?_⟩,yQo _,yQo _,by show n.base≤i;omega,fun _ _=>rfl⟩;rcases a19 with h | h | ⟨h1,h2,h3,h4,h5,h6⟩
  · exact .inl h
  · exact .inr (.inl h)
  · exact .inr (.inr ⟨h1,h2,h3,by rw[hlast];exact h4,by rw[hlast];exact h5,h6⟩)
end
end Go.Proofs.YtghoifolghelnaaGreat
/-
 What the functions of this chapter do.
 No condition beyond those that each theorem names.
-/
open Go.Sx
namespace Go.Proofs.YtghoifolghelnaaGreat
noncomputable def b5_0:Code:=match Tryz.f5.body with
 | some c=>c
 | none=> .skip
def F5_0(hk:Hook)(size0:Int)(moves1:AV)(w:AW)(K:AV→AW→Prop)(J:List AV→AW→Prop):Prop:=
 Cl Tryz.prog hk 28 [(ii size0),(ii 5)] w fun r2 w3=>
 ∃x4:Int,r2=(ii x4)∧
 Cl Tryz.prog hk 27 [(ii (wi (1+x4)))] w3 fun r5 w6=>
 ∃x7:AV,∃x8:Bool,r5= .tup [x7,(.bool x8)]∧
 ifT (!x8) (K (.bool false) w6)
 (zJ9 [(ii 0)] w6 fun R9 l_10 w11=>∃i12:Int,l_10=[(ii i12)]∧∀_:Nat→AV,
  ∃x13:Int,lenS moves1=some (ii x13)∧
  ifT (decide (i12<x13)) (ifT (decide (i12<250)) (atP (idxS 4 moves1 (ii i12)) fun b14 o15=>
  ∃x16 x17 x18 x19:Int,ldN 4 w11 b14 o15=some (.agg [(ii x16),(ii x17),(ii x18),(ii x19)])∧
  Cl Tryz.prog hk 29 [x7,(.agg [(ii x16),(ii x17),(ii x18),(ii x19)])] w11 fun r20 w21=>
  ∃x22:Bool,r20=(.bool x22)∧
  ifT (!x22) (K (.bool false) w21)
  (atP (idxS 4 moves1 (ii i12)) fun b23 o24=>
  ∃x25:Int,ld w21 b23 (o24+1)=some (ii x25)∧
  onP x7 fun b26 o27=>
  onM (ld w21 b26 (o27+0)) fun x28=>
  ∃x29:Int,lenS x28=some (ii x29)∧
  Cl Tryz.prog hk 28 [(ii x25),(ii x29)] w21 fun r30 w31=>
  ∃x32:Int,r30=(ii x32)∧
  Cl Tryz.prog hk 30 [x7,(ii x32)] w31 fun r33 w34=>
  ∃x35:AV,∃x36:Bool,r33= .tup [x35,(.bool x36)]∧
  ifT (!x36) (K (.bool false) w34)
  (R9 [(ii (wi (i12+1)))] w34)))
  (J [x7] w11))
  (J [x7] w11))
def kQf:Adv:=(.sq .lv (.sq .lv (.sq (.sq .lv (.cd (.sq .lv .lf) .lf)) (.sq .lv (.bl (.lp [(7,.sc (.int .i64))] (.sq (.sq .lv (.cd .lf .lf)) (.sq (.bl (.sq (.sq .lv (.cd (.sq .lv .lf) .lf)) (.sq .lv (.sq .lv (.cd (.sq .lv .lf) .lf))))) .lv))))))))
def l5_0:List (Tmp×Sh):=[(5,.sc (.opq))]
noncomputable def b5_1:Code:=qQj 3 b5_0
set_option maxRecDepth 100000 in
theorem eq5_0(hk:Hook)(size0:Int)(moves1:AV)(w:AW)(K:AV→AW→Prop)(J:List AV→AW→Prop):zJk Tryz.prog hk true 59 kQf (oJ9 3 b5_0) ([(ii size0),moves1]++List.replicate (Tryz.f5.ntmps - List.length [(ii size0),moves1]) Go.Sx.undef) w (segK 59 l5_0 J (fun e t w=>jJr Tryz.prog true Tryz.f5 e t w K))=F5_0 hk size0 moves1 w K J:=by kernel_rfl
def G5_1(hk:Hook)(K:AV→AW→Prop)(vs:List AV)(w:AW):Prop:=∃x0:AV,vs=[x0]∧∀j:Nat→AV,vJm Tryz.prog hk none b5_1 (lJt 59 l5_0 [x0] j) [] w (fun e t w=>jJr Tryz.prog true Tryz.f5 e t w K)
theorem in5 {hk:Hook}{size0:Int}{moves1:AV}{w:AW}{K:AV→AW→Prop}(hn:hk 5 [(ii size0),moves1] w=none)(J:List AV→AW→Prop)(h:F5_0 hk size0 moves1 w K J)(hJ:∀vs w,J vs w→G5_1 hk K vs w):Cl Tryz.prog hk 5 [(ii size0),moves1] w K:=
 vJw (big:=true) (c:=b5_0) Tryz.func5 hn (by kernel_rfl) (vQl (big:=true) (n:=59) (m:=3) (adv:=kQf) (l:=l5_0) (J:=J) (by kernel_rfl) (by rw[eq5_0];exact h) hJ)
def F5_1(hk:Hook)(x0:AV)(w:AW)(K:AV→AW→Prop):Prop:=
 Cl Tryz.prog hk 31 [x0] w fun r1 w2=>
 ∃x3:Bool,r1=(.bool x3)∧
 ifT x3 (Cl Tryz.prog hk 9 [] w2 fun r4 w5=>
 ∃x6:Bool,r4=(.bool x6)∧
 K (.bool x6) w5)
 (K (.bool false) w2)
def kQe:Adv:=(.sq .lv .lf)
set_option maxRecDepth 100000 in
theorem eq5_1(hk:Hook)(x0:AV)(w:AW)(K:AV→AW→Prop)(j:Nat→AV):zJk Tryz.prog hk true 59 kQe b5_1 (lJt 59 l5_0 [x0] j) w (fun e t w=>jJr Tryz.prog true Tryz.f5 e t w K)=F5_1 hk x0 w K:=by kernel_rfl
theorem go5_1 {hk:Hook}{x0:AV}{w:AW}{K:AV→AW→Prop}(h:F5_1 hk x0 w K):G5_1 hk K [x0] w:=
 ⟨x0,rfl,fun j=>jJ1 (big:=true) (n:=59) (adv:=kQe) (by rw[eq5_1];exact h)⟩
noncomputable def b27_0:Code:=match Tryz.f27.body with
 | some c=>c
 | none=> .skip
def yQf(hk:Hook)(size0:Int)(w:AW)(K:AV→AW→Prop):Prop:=
 gd (Nat.ble 400 400&&Nat.ble (400 * 8) (2^47)&&Nat.blt 400 (2^63)&&true) (new w (repl 400 [(ii 0)]) fun b1 w2=>
 new w2 [.nilslice,.nilslice,.nilslice,(.slice b1 0 400 400 none),.nilslice,(ii 0)] fun b3 w4=>
 zJ9 [(ii 1)] w4 fun R5 l_6 w7=>∃i8:Int,l_6=[(ii i8)]∧∀_:Nat→AV,
  ifT (decide (i8≤size0)) (Cl Tryz.prog hk 25 [(ii i8),(ii size0),(ii i8)] w7 fun r9 w10=>
  ∃x11:AV,∃x12:Int,r9= .tup [x11,(ii x12)]∧
  new w10 [(ii 0),(ii 0),(.int .u8 0),(ii 0),(ii 0),(ii 0),(ii 0),(ii 0),.nilslice,.nilslice,(ii 0),.nilslice,.nilslice,.nilslice,.nilslice,(ii 0),(ii 0),(ii 0),.nilslice] fun b13 w14=>
  onA x11 fun cs15=>gd (List.all cs15 qJc) (
  gd (Nat.beq cs15.length 19) (onM (AW.putCells w14 b13 0 cs15) fun w16=>
  ifT (!decide (x12=0)) (K (.tup [(.ptr b3 0),(.bool false)]) w16)
  (onM (ld w16 b3 (0+0)) fun x17=>
  onM (ldN 19 w16 b13 0) fun x18=>
  onA x18 fun cs19=>gd (List.all cs19 qJc) (
  gd (Nat.beq cs19.length 19&&Nat.ble 19 19) (
  new w16 (qJg [(ii 0),(ii 0),(.int .u8 0),(ii 0),(ii 0),(ii 0),(ii 0),(ii 0),.nilslice,.nilslice,(ii 0),.nilslice,.nilslice,.nilslice,.nilslice,(ii 0),(ii 0),(ii 0),.nilslice] 0 cs19) fun b20 w21=>
  ldN 19 w21 b13 0=some x18∧
  ld w21 b3 (0+0)=some x17∧
  onE (appS 19 264 w21 x17 (.slice b20 0 1 1 none)) fun x22 w23=>
  gd (qJc x22) (
  onM (AW.putCells w23 b3 (0+0) [x22]) fun w24=>
  R5 [(ii (wi (i8+1)))] w24)))))))
  (K (.tup [(.ptr b3 0),(.bool true)]) w7))
def zQj:Adv:=(.sq .lv (.sq .lv (.sq (.sq .lv (.bl (.lp [(5,.sc (.int .i64))] (.sq (.sq .lv (.cd .lf .lf)) (.sq (.bl (.sq .lv (.sq (.sq .lv (.cd (.sq .lv .lf) .lf)) .lv))) .lv))))) (.sq .lv .lf))))
set_option maxRecDepth 100000 in
theorem eq27_0(hk:Hook)(size0:Int)(w:AW)(K:AV→AW→Prop):zJk Tryz.prog hk true 37 zQj b27_0 ([(ii size0)]++List.replicate (Tryz.f27.ntmps - List.length [(ii size0)]) Go.Sx.undef) w (fun e t w=>jJr Tryz.prog true Tryz.f27 e t w K)=yQf hk size0 w K:=by kernel_rfl
theorem in27 {hk:Hook}{size0:Int}{w:AW}{K:AV→AW→Prop}(hn:hk 27 [(ii size0)] w=none)(h:yQf hk size0 w K):Cl Tryz.prog hk 27 [(ii size0)] w K:=
 vJw (big:=true) (c:=b27_0) Tryz.func27 hn (by kernel_rfl) (jJ1 (big:=true) (n:=37) (adv:=zQj) (by rw[eq27_0];exact h))
noncomputable def b28_0:Code:=match Tryz.f28.body with
 | some c=>c
 | none=> .skip
def yQe(hk:Hook)(x0 n1:Int)(w:AW)(K:AV→AW→Prop):Prop:=
 ifT (decide (n1≤0)) (K (ii 0) w)
 (∃x2:Int,arith .rem .i64 x0 n1=some (ii x2)∧
 ifT (decide (x2<0)) (K (ii (wi (x2+n1))) w)
 (K (ii x2) w))
def zQi:Adv:=(.sq .lv (.sq (.sq .lv (.cd (.sq .lv .lf) .lf)) (.sq .lv (.sq (.sq .lv (.cd .lv .lf)) (.sq .lv .lf)))))
set_option maxRecDepth 100000 in
theorem eq28_0(hk:Hook)(x0 n1:Int)(w:AW)(K:AV→AW→Prop):zJk Tryz.prog hk true 16 zQi b28_0 ([(ii x0),(ii n1)]++List.replicate (Tryz.f28.ntmps - List.length [(ii x0),(ii n1)]) Go.Sx.undef) w (fun e t w=>jJr Tryz.prog true Tryz.f28 e t w K)=yQe hk x0 n1 w K:=by kernel_rfl
theorem in28 {hk:Hook}{x0 n1:Int}{w:AW}{K:AV→AW→Prop}(hn:hk 28 [(ii x0),(ii n1)] w=none)(h:yQe hk x0 n1 w K):Cl Tryz.prog hk 28 [(ii x0),(ii n1)] w K:=
 vJw (big:=true) (c:=b28_0) Tryz.func28 hn (by kernel_rfl) (jJ1 (big:=true) (n:=16) (adv:=zQi) (by rw[eq28_0];exact h))
noncomputable def b29_0:Code:=match Tryz.f29.body with
 | some c=>c
 | none=> .skip
set_option maxRecDepth 100000 in
def yQd(hk:Hook)(g0:AV)(m1 m2 m3 m4:Int)(w:AW)(K:AV→AW→Prop):Prop:=
 new w [(ii m1),(ii m2),(ii m3),(ii m4)] fun b5 w6=>
 ∃x7:Int,ld w6 b5 (0+1)=some (ii x7)∧
 onP g0 fun b8 o9=>
 onM (ld w6 b8 (o9+0)) fun x10=>
 ∃x11:Int,lenS x10=some (ii x11)∧
 Cl Tryz.prog hk 28 [(ii x7),(ii x11)] w6 fun r12 w13=>
 ∃x14:Int,r12=(ii x14)∧
 ∃x15:Int,ld w13 b5 (0+2)=some (ii x15)∧
 onP g0 fun b16 o17=>
 onM (ld w13 b16 (o17+1)) fun x18=>
 ∃x19:Int,lenS x18=some (ii x19)∧
 Cl Tryz.prog hk 28 [(ii x15),(ii x19)] w13 fun r20 w21=>
 ∃x22:Int,r20=(ii x22)∧
 ∃x23:Int,ld w21 b5 (0+0)=some (ii x23)∧
 join (fun l_24 w25=>∃g27:AV,∃m28 mo29:Nat,∃i30 k31 x32:Int,∃x33:Bool,l_24=[g27,(.ptr m28 mo29),(ii i30),(ii k31),(ii x32),(.bool x33)]∧∀_:Nat→AV,
  ifT x33 (onP g27 fun b34 o35=>
  onM (ld w25 b34 (o35+0)) fun x36=>
  atP (idxS 19 x36 (ii i30)) fun b37 o38=>
  onM (ldN 19 w25 b37 o38) fun x39=>
  ∃x40:Int,ld w25 m28 (mo29+3)=some (ii x40)∧
  new w25 [(ii 0),(ii 0),(.int .u8 0),(ii 0),(ii 0),(ii 0),(ii 0),(ii 0),.nilslice,.nilslice,(ii 0),.nilslice,.nilslice,.nilslice,.nilslice,(ii 0),(ii 0),(ii 0),.nilslice] fun b41 w42=>
  ld w42 m28 (mo29+3)=some (ii x40)∧
  ldN 19 w42 b37 o38=some x39∧
  ld w42 b34 (o35+0)=some x36∧
  Cl Tryz.prog hk 12 [x39,(ii x40)] w42 fun r43 w44=>
  ∃x45 x46:AV,∃x47:Int,r43= .tup [x45,x46,(ii x47)]∧
  onA x45 fun cs48=>gd (List.all cs48 qJc) (
  gd (Nat.beq cs48.length 19) (onM (AW.putCells w44 b41 0 cs48) fun w49=>
  onM (ldN 19 w49 b41 0) fun x50=>
  Cl Tryz.prog hk 33 [g27,(ii i30),x50,x46,(ii x47)] w49 fun r51 w52=>
  ∃x53:Bool,r51=(.bool x53)∧
  K (.bool x53) w52)))
  (join (fun l_54 w55=>∃g57:AV,∃m58 mo59:Nat,∃i60 k61 x62:Int,∃x63:Bool,l_54=[g57,(.ptr m58 mo59),(ii i60),(ii k61),(ii x62),(.bool x63)]∧∀_:Nat→AV,
   ifT x63 (onP g57 fun b64 o65=>
   onM (ld w55 b64 (o65+1)) fun x66=>
   ∃x67:Int,lenS x66=some (ii x67)∧
   ifT (decide (x67=0)) (K (.bool true) w55)
   (onP g57 fun b68 o69=>
   onM (ld w55 b68 (o69+1)) fun x70=>
   atP (idxS 12 x70 (ii k61)) fun b71 o72=>
   ∃x73:List UInt8,∃x74 x75 x76 x77 x78 x79 x80 x81:Int,∃x82:Bool,∃x83 x84:AV,ldN 12 w55 b71 o72=some (.agg [(.str x73),(.int .u8 x74),(ii x75),(ii x76),(ii x77),(ii x78),(ii x79),(ii x80),(ii x81),(.bool x82),x83,x84])∧
   new w55 [(.str []),(.int .u8 0),(ii 0),(ii 0),(ii 0),(ii 0),(ii 0),(ii 0),(ii 0),(.bool false),.nilslice,.nilslice] fun b85 w86=>
   gd (List.all [(.str x73),(.int .u8 x74),(ii x75),(ii x76),(ii x77),(ii x78),(ii x79),(ii x80),(ii x81),(.bool x82),x83,x84] qJc) (
   onM (AW.putCells w86 b85 0 [(.str x73),(.int .u8 x74),(ii x75),(ii x76),(ii x77),(ii x78),(ii x79),(ii x80),(ii x81),(.bool x82),x83,x84]) fun w87=>
   join (fun l_88 w89=>∃g91:AV,∃m92 mo93 x94 xo95:Nat,l_88=[g91,(.ptr m92 mo93),(.ptr x94 xo95)]∧∀_:Nat→AV,
    ∃x96:Int,ld w89 m92 (mo93+0)=some (ii x96)∧
    ifT (decide (x96=9)) (K (.bool true) w89)
    (∃x97:List UInt8,∃x98 x99 x100 x101 x102 x103 x104 x105:Int,∃x106:Bool,∃x107 x108:AV,ldN 12 w89 x94 xo95=some (.agg [(.str x97),(.int .u8 x98),(ii x99),(ii x100),(ii x101),(ii x102),(ii x103),(ii x104),(ii x105),(.bool x106),x107,x108])∧
    ∃x109:Int,ld w89 m92 (mo93+3)=some (ii x109)∧
    Cl Tryz.prog hk 74 [g91,(.agg [(.str x97),(.int .u8 x98),(ii x99),(ii x100),(ii x101),(ii x102),(ii x103),(ii x104),(ii x105),(.bool x106),x107,x108]),(ii x109)] w89 fun r110 w111=>
    ∃x112:Bool,r110=(.bool x112)∧
    K (.bool x112) w111)) fun J90=>
   ∃x113:Int,ld w87 m58 (mo59+0)=some (ii x113)∧
   ifT (!decide (x113=8)) (onP g57 fun b114 o115=>
    onM (ld w87 b114 (o115+1)) fun x116=>
    onM (slS 12 x116 none (some (ii k61)) none) fun x117=>
    onE (appS 12 136 w87 .nilslice x117) fun rest118 w119=>
    onP g57 fun b120 o121=>
    onM (ld w119 b120 (o121+1)) fun x122=>
    onM (slS 12 x122 (some (ii (wi (k61+1)))) none none) fun x123=>
    onE (appS 12 136 w119 rest118 x123) fun x124 w125=>
    onP g57 fun b126 o127=>
    gd (qJc x124) (
    onM (AW.putCells w125 b126 (o127+1) [x124]) fun w128=>
    J90 [g57,(.ptr m58 mo59),(.ptr b85 0)] w128))
   (J90 [g57,(.ptr m58 mo59),(.ptr b85 0)] w87))))
   (join (fun l_129 w130=>∃g132:AV,∃m133 mo134:Nat,∃i135 x136:Int,∃x137:Bool,l_129=[g132,(.ptr m133 mo134),(ii i135),(ii x136),(.bool x137)]∧∀_:Nat→AV,
    ifT x137 (∃x138:Int,ld w130 m133 (mo134+0)=some (ii x138)∧
    Cl Tryz.prog hk 35 [g132,(ii i135),(.bool (decide (x138=12)))] w130 fun r139 w140=>
    ∃x141:Bool,r139=(.bool x141)∧
    K (.bool x141) w140)
    (ifT (decide (x136=13)) (onP g132 fun b142 o143=>
     onM (ld w130 b142 (o143+0)) fun x144=>
     atP (idxS 19 x144 (ii i135)) fun b145 o146=>
     onM (ldN 19 w130 b145 o146) fun x147=>
     ∃x148:Int,ld w130 m133 (mo134+3)=some (ii x148)∧
     new w130 [(ii 0),(ii 0),(.int .u8 0),(ii 0),(ii 0),(ii 0),(ii 0),(ii 0),.nilslice,.nilslice,(ii 0),.nilslice,.nilslice,.nilslice,.nilslice,(ii 0),(ii 0),(ii 0),.nilslice] fun b149 w150=>
     ld w150 m133 (mo134+3)=some (ii x148)∧
     ldN 19 w150 b145 o146=some x147∧
     ld w150 b142 (o143+0)=some x144∧
     Cl Tryz.prog hk 75 [x147,(ii x148)] w150 fun r151 w152=>
     ∃x153:AV,∃x154:Bool,r151= .tup [x153,(.bool x154)]∧
     onA x153 fun cs155=>gd (List.all cs155 qJc) (
     gd (Nat.beq cs155.length 19) (onM (AW.putCells w152 b149 0 cs155) fun w156=>
     ifT x154 (onM (ldN 19 w156 b149 0) fun x157=>
     Cl Tryz.prog hk 33 [g132,(ii i135),x157,.nilslice,(ii 0)] w156 fun r158 w159=>
     ∃x160:Bool,r158=(.bool x160)∧
     K (.bool x160) w159)
     (K (.bool false) w156))))
    (ifT (decide (x136=14)) (onP g132 fun b161 o162=>
     onM (ld w130 b161 (o162+0)) fun x163=>
     atP (idxS 19 x163 (ii i135)) fun b164 o165=>
     onM (ldN 19 w130 b164 o165) fun x166=>
     new w130 [(ii 0),(ii 0),(.int .u8 0),(ii 0),(ii 0),(ii 0),(ii 0),(ii 0),.nilslice,.nilslice,(ii 0),.nilslice,.nilslice,.nilslice,.nilslice,(ii 0),(ii 0),(ii 0),.nilslice] fun b167 w168=>
     onA x166 fun cs169=>gd (List.all cs169 qJc) (
     gd (Nat.beq cs169.length 19) (onM (AW.putCells w168 b167 0 cs169) fun w170=>
     ∃x171:Int,ld w170 b167 (0+10)=some (ii x171)∧
     ∃x172:Int,ld w170 b167 (0+6)=some (ii x172)∧
     ifT (decide (x171=x172)) (K (.bool true) w170)
     (onM (ldN 19 w170 b167 0) fun x173=>
     ∃x174:Int,ld w170 b167 (0+10)=some (ii x174)∧
     ∃x175:Int,ld w170 b167 (0+10)=some (ii x175)∧
     new w170 [(ii 0),(ii 0),(.int .u8 0),(ii 0),(ii 0),(ii 0),(ii 0),(ii 0),.nilslice,.nilslice,(ii 0),.nilslice,.nilslice,.nilslice,.nilslice,(ii 0),(ii 0),(ii 0),.nilslice] fun b176 w177=>
     ld w177 b167 (0+10)=some (ii x175)∧
     ld w177 b167 (0+10)=some (ii x174)∧
     ldN 19 w177 b167 0=some x173∧
     Cl Tryz.prog hk 76 [(ii x175)] w177 fun r178 w179=>
     ld w179 b167 (0+10)=some (ii x174)∧
     ldN 19 w179 b167 0=some x173∧
     Cl Tryz.prog hk 15 [x173,(ii x174),r178] w179 fun r180 w181=>
     ∃x182:AV,∃x183:Int,r180= .tup [x182,(ii x183)]∧
     onA x182 fun cs184=>gd (List.all cs184 qJc) (
     gd (Nat.beq cs184.length 19) (onM (AW.putCells w181 b176 0 cs184) fun w185=>
     onM (ldN 19 w185 b176 0) fun x186=>
     Cl Tryz.prog hk 33 [g132,(ii i135),x186,.nilslice,(ii x183)] w185 fun r187 w188=>
     ∃x189:Bool,r187=(.bool x189)∧
     K (.bool x189) w188))))))
     (K (.bool true) w130)))) fun J131=>
   ifT (decide (x62=10)) (J131 [g57,(.ptr m58 mo59),(ii i60),(ii x62),(.bool (decide (x62=10)))] w55)
   (ifT (decide (x62=11)) (J131 [g57,(.ptr m58 mo59),(ii i60),(ii x62),(.bool (decide (x62=11)))] w55)
    (J131 [g57,(.ptr m58 mo59),(ii i60),(ii x62),(.bool (decide (x62=12)))] w55)))) fun J56=>
  ifT (decide (x32=3)) (J56 [g27,(.ptr m28 mo29),(ii i30),(ii k31),(ii x32),(.bool (decide (x32=3)))] w25)
  (ifT (decide (x32=4)) (J56 [g27,(.ptr m28 mo29),(ii i30),(ii k31),(ii x32),(.bool (decide (x32=4)))] w25)
   (ifT (decide (x32=5)) (J56 [g27,(.ptr m28 mo29),(ii i30),(ii k31),(ii x32),(.bool (decide (x32=5)))] w25)
   (ifT (decide (x32=6)) (J56 [g27,(.ptr m28 mo29),(ii i30),(ii k31),(ii x32),(.bool (decide (x32=6)))] w25)
    (ifT (decide (x32=7)) (J56 [g27,(.ptr m28 mo29),(ii i30),(ii k31),(ii x32),(.bool (decide (x32=7)))] w25)
    (ifT (decide (x32=8)) (J56 [g27,(.ptr m28 mo29),(ii i30),(ii k31),(ii x32),(.bool (decide (x32=8)))] w25)
     (J56 [g27,(.ptr m28 mo29),(ii i30),(ii k31),(ii x32),(.bool (decide (x32=9)))] w25)))))))) fun J26=>
 ifT (decide (x23=0)) (J26 [g0,(.ptr b5 0),(ii x14),(ii x22),(ii x23),(.bool (decide (x23=0)))] w21)
 (ifT (decide (x23=1)) (J26 [g0,(.ptr b5 0),(ii x14),(ii x22),(ii x23),(.bool (decide (x23=1)))] w21)
  (J26 [g0,(.ptr b5 0),(ii x14),(ii x22),(ii x23),(.bool (decide (x23=2)))] w21))
def zQh:Adv:=(.sq .lv (.sq .lv (.sq .lv (.sq (.sq .lv (.bl (.sk [(0,.sc (.opq)),(3,.sc (.ptr)),(5,.sc (.int .i64)),(6,.sc (.int .i64)),(34,.sc (.int .i64)),(35,.sc (.bool))] (.sq .lv (.cd .lf (.sq .lv (.cd .lf .lv)))) (.cd (.sq .lv (.sq .lv .lf)) (.sk [(0,.sc (.opq)),(3,.sc (.ptr)),(5,.sc (.int .i64)),(6,.sc (.int .i64)),(34,.sc (.int .i64)),(59,.sc (.bool))] (.sq .lv (.cd .lf (.sq .lv (.cd .lf (.sq .lv (.cd .lf (.sq .lv (.cd .lf (.sq .lv (.cd .lf (.sq .lv (.cd .lf .lv)))))))))))) (.cd (.sq (.sq .lv (.cd (.sq .lv .lf) .lf)) (.sq .lv (.sk [(0,.sc (.opq)),(3,.sc (.ptr)),(10,.sc (.ptr))] (.sq .lv (.cd (.sq .lv (.sq .lv .lv)) .lf)) (.sq .lv .lf)))) (.sk [(0,.sc (.opq)),(3,.sc (.ptr)),(5,.sc (.int .i64)),(34,.sc (.int .i64)),(113,.sc (.bool))] (.sq .lv (.cd .lf (.sq .lv (.cd .lf .lv)))) (.cd (.sq .lv .lf) (.sq .lv (.cd (.sq .lv (.sq .lv .lf)) (.sq .lv (.cd (.sq .lv (.sq (.sq .lv (.cd (.sq .lv .lf) .lf)) (.sq .lv (.sq .lv .lf)))) .lf)))))))))))) (.sq .lv .lf)))))
set_option maxRecDepth 100000 in
theorem eq29_0(hk:Hook)(g0:AV)(m1 m2 m3 m4:Int)(w:AW)(K:AV→AW→Prop):zJk Tryz.prog hk true 174 zQh b29_0 ([g0,(.agg [(ii m1),(ii m2),(ii m3),(ii m4)])]++List.replicate (Tryz.f29.ntmps - List.length [g0,(.agg [(ii m1),(ii m2),(ii m3),(ii m4)])]) Go.Sx.undef) w (fun e t w=>jJr Tryz.prog true Tryz.f29 e t w K)=yQd hk g0 m1 m2 m3 m4 w K:=by kernel_rfl
theorem in29 {hk:Hook}{g0:AV}{m1 m2 m3 m4:Int}{w:AW}{K:AV→AW→Prop}(hn:hk 29 [g0,(.agg [(ii m1),(ii m2),(ii m3),(ii m4)])] w=none)(h:yQd hk g0 m1 m2 m3 m4 w K):Cl Tryz.prog hk 29 [g0,(.agg [(ii m1),(ii m2),(ii m3),(ii m4)])] w K:=
 vJw (big:=true) (c:=b29_0) Tryz.func29 hn (by kernel_rfl) (jJ1 (big:=true) (n:=174) (adv:=zQh) (by rw[eq29_0];exact h))
noncomputable def b30_0:Code:=match Tryz.f30.body with
 | some c=>c
 | none=> .skip
def yQc(hk:Hook)(g0:AV)(i1:Int)(w:AW)(K:AV→AW→Prop):Prop:=
 onP g0 fun b2 o3=>
 onM (ld w b2 (o3+0)) fun x4=>
 atP (idxS 19 x4 (ii i1)) fun b5 o6=>
 onM (ldN 19 w b5 o6) fun x7=>
 Cl Tryz.prog hk 21 [x7] w fun r8 w9=>
 ∃x10 x11:AV,∃x12:Int,r8= .tup [x10,x11,(ii x12)]∧
 new w9 [(ii 0),(ii 0),(.int .u8 0),(ii 0),(ii 0),(ii 0),(ii 0),(ii 0),.nilslice,.nilslice,(ii 0),.nilslice,.nilslice,.nilslice,.nilslice,(ii 0),(ii 0),(ii 0),.nilslice] fun b13 w14=>
 onA x10 fun cs15=>gd (List.all cs15 qJc) (
 gd (Nat.beq cs15.length 19) (onM (AW.putCells w14 b13 0 cs15) fun w16=>
 ifT (!decide (x12=0)) (K (.tup [.nilslice,(.bool false)]) w16)
 (onP g0 fun b17 o18=>
 onM (ld w16 b17 (o18+0)) fun x19=>
 onM (ldN 19 w16 b13 0) fun x20=>
 atP (idxS 19 x19 (ii i1)) fun b21 o22=>
 onA x20 fun cs23=>gd (List.all cs23 qJc) (
 gd (Nat.beq cs23.length 19) (onM (AW.putCells w16 b21 o22 cs23) fun w24=>
 zJ9 [(ii 0)] w24 fun R25 l_26 w27=>∃k28:Int,l_26=[(ii k28)]∧∀_:Nat→AV,
  ∃x29:Int,lenS x11=some (ii x29)∧
  ifT (decide (k28<x29)) (atP (idxS 3 x11 (ii k28)) fun b30 o31=>
  ∃x32:Int,ld w27 b30 (o31+0)=some (ii x32)∧
  gd (!(decide (x32<0))) (
  atP (idxS 3 x11 (ii k28)) fun b33 o34=>
  ∃x35:Int,ld w27 b33 (o34+0)=some (ii x35)∧
  onP g0 fun b36 o37=>
  onM (ld w27 b36 (o37+4)) fun x38=>
  ∃x39:Int,lenS x38=some (ii x39)∧
  gd (!(decide (x39≤x35))) (
  atP (idxS 3 x11 (ii k28)) fun b40 o41=>
  ∃x42:Int,ld w27 b40 (o41+1)=some (ii x42)∧
  onP g0 fun b43 o44=>
  onM (ld w27 b43 (o44+4)) fun x45=>
  atP (idxS 3 x11 (ii k28)) fun b46 o47=>
  ∃x48:Int,ld w27 b46 (o47+0)=some (ii x48)∧
  atP (idxS 1 x45 (ii x48)) fun b49 o50=>
  ∃x51:Int,ld w27 b49 o50=some (ii x51)∧
  ifT (decide (x42<x51)) (K (.tup [x11,(.bool false)]) w27)
  (R25 [(ii (wi (k28+1)))] w27))))
  (K (.tup [x11,(.bool true)]) w27))))))
def zQg:Adv:=(.sq .lv (.sq .lv (.sq (.sq .lv (.cd (.sq .lv .lf) .lf)) (.sq .lv (.sq (.sq .lv (.bl (.lp [(9,.sc (.int .i64))] (.sq (.sq .lv (.cd .lf .lf)) (.sq (.bl (.sq .fv (.cd (.sq .lv .lf) .lf))) .lv))))) (.sq .lv .lf))))))
set_option maxRecDepth 100000 in
theorem eq30_0(hk:Hook)(g0:AV)(i1:Int)(w:AW)(K:AV→AW→Prop):zJk Tryz.prog hk true 77 zQg b30_0 ([g0,(ii i1)]++List.replicate (Tryz.f30.ntmps - List.length [g0,(ii i1)]) Go.Sx.undef) w (fun e t w=>jJr Tryz.prog true Tryz.f30 e t w K)=yQc hk g0 i1 w K:=by kernel_rfl
theorem in30 {hk:Hook}{g0:AV}{i1:Int}{w:AW}{K:AV→AW→Prop}(hn:hk 30 [g0,(ii i1)] w=none)(h:yQc hk g0 i1 w K):Cl Tryz.prog hk 30 [g0,(ii i1)] w K:=
 vJw (big:=true) (c:=b30_0) Tryz.func30 hn (by kernel_rfl) (jJ1 (big:=true) (n:=77) (adv:=zQg) (by rw[eq30_0];exact h))
noncomputable def b31_0:Code:=match Tryz.f31.body with
 | some c=>c
 | none=> .skip
def yQb(hk:Hook)(g0:AV)(w:AW)(K:AV→AW→Prop):Prop:=
 zJ9 [(ii 0)] w fun R1 l_2 w3=>∃a4:Int,l_2=[(ii a4)]∧∀_:Nat→AV,
  onP g0 fun b5 o6=>
  onM (ld w3 b5 (o6+0)) fun x7=>
  ∃x8:Int,lenS x7=some (ii x8)∧
  ifT (decide (a4<x8)) (zJ9 [(ii 0)] w3 fun R9 l_10 w11=>∃b12:Int,l_10=[(ii b12)]∧∀_:Nat→AV,
  ifT (decide (b12<a4)) (onP g0 fun b13 o14=>
  onM (ld w11 b13 (o14+0)) fun x15=>
  atP (idxS 19 x15 (ii a4)) fun b16 o17=>
  onM (ldN 19 w11 b16 o17) fun x18=>
  onP g0 fun b19 o20=>
  onM (ld w11 b19 (o20+0)) fun x21=>
  atP (idxS 19 x21 (ii b12)) fun b22 o23=>
  onM (ldN 19 w11 b22 o23) fun x24=>
  new w11 [(ii 0),(ii 0),(.int .u8 0),(ii 0),(ii 0),(ii 0),(ii 0),(ii 0),.nilslice,.nilslice,(ii 0),.nilslice,.nilslice,.nilslice,.nilslice,(ii 0),(ii 0),(ii 0),.nilslice] fun b25 w26=>
  new w26 [(ii 0),(ii 0),(.int .u8 0),(ii 0),(ii 0),(ii 0),(ii 0),(ii 0),.nilslice,.nilslice,(ii 0),.nilslice,.nilslice,.nilslice,.nilslice,(ii 0),(ii 0),(ii 0),.nilslice] fun b27 w28=>
  ldN 19 w28 b22 o23=some x24∧
  ld w28 b19 (o20+0)=some x21∧
  ldN 19 w28 b16 o17=some x18∧
  ld w28 b13 (o14+0)=some x15∧
  onA x18 fun cs29=>gd (List.all cs29 qJc) (
  gd (Nat.beq cs29.length 19) (onM (AW.putCells w28 b25 0 cs29) fun w30=>
  ldN 19 w30 b22 o23=some x24∧
  ld w30 b19 (o20+0)=some x21∧
  onA x24 fun cs31=>gd (List.all cs31 qJc) (
  gd (Nat.beq cs31.length 19) (onM (AW.putCells w30 b27 0 cs31) fun w32=>
  ∃x33:Int,ld w32 b25 (0+6)=some (ii x33)∧
  ∃x34:Int,ld w32 b27 (0+6)=some (ii x34)∧
  zJ9 [(ii (wi ((imax x33 x34)+1)))] w32 fun R35 l_36 w37=>∃i38:Int,l_36=[(ii i38)]∧∀_:Nat→AV,
   onM (ldN 19 w37 b25 0) fun x39=>
   onM (ldN 19 w37 b27 0) fun x40=>
   Cl Tryz.prog hk 36 [x39] w37 fun r41 w42=>
   ∃x43:Int,r41=(ii x43)∧
   ldN 19 w42 b27 0=some x40∧
   Cl Tryz.prog hk 36 [x40] w42 fun r44 w45=>
   ∃x46:Int,r44=(ii x46)∧
   ifT (decide (i38≤(imin x43 x46))) (onM (ld w45 b25 (0+9)) fun x47=>
   ∃x48:Int,ld w45 b25 (0+6)=some (ii x48)∧
   atP (idxS 2 x47 (ii (wi ((wi (i38 - x48)) - 1)))) fun b49 o50=>
   ∃x51:Int,∃x52:AV,ldN 2 w45 b49 o50=some (.agg [(ii x51),x52])∧
   onM (ld w45 b27 (0+9)) fun x53=>
   ∃x54:Int,ld w45 b27 (0+6)=some (ii x54)∧
   atP (idxS 2 x53 (ii (wi ((wi (i38 - x54)) - 1)))) fun b55 o56=>
   ∃x57:Int,∃x58:AV,ldN 2 w45 b55 o56=some (.agg [(ii x57),x58])∧
   new w45 [(ii 0),.nilslice] fun b59 w60=>
   new w60 [(ii 0),.nilslice] fun b61 w62=>
   ldN 2 w62 b55 o56=some (.agg [(ii x57),x58])∧
   ld w62 b27 (0+6)=some (ii x54)∧
   ld w62 b27 (0+9)=some x53∧
   ldN 2 w62 b49 o50=some (.agg [(ii x51),x52])∧
   ld w62 b25 (0+6)=some (ii x48)∧
   ld w62 b25 (0+9)=some x47∧
   gd (List.all [(ii x51),x52] qJc) (
   onM (AW.putCells w62 b59 0 [(ii x51),x52]) fun w63=>
   ldN 2 w63 b55 o56=some (.agg [(ii x57),x58])∧
   ld w63 b27 (0+6)=some (ii x54)∧
   ld w63 b27 (0+9)=some x53∧
   gd (List.all [(ii x57),x58] qJc) (
   onM (AW.putCells w63 b61 0 [(ii x57),x58]) fun w64=>
   ∃x65:Int,ld w64 b59 (0+0)=some (ii x65)∧
   ∃x66:Int,ld w64 b61 (0+0)=some (ii x66)∧
   ifT (decide (x65=x66)) (onM (ld w64 b59 (0+1)) fun x67=>
   onM (ld w64 b61 (0+1)) fun x68=>
   Cl Tryz.prog hk 61 [x67,x68] w64 fun r69 w70=>
   ∃x71:Bool,r69=(.bool x71)∧
   ifT (!x71) (K (.bool false) w70)
   (R35 [(ii (wi (i38+1)))] w70))
   (R35 [(ii (wi (i38+1)))] w64))))
   (R9 [(ii (wi (b12+1)))] w45))))))
  (R1 [(ii (wi (a4+1)))] w11))
  (K (.bool true) w3)
def zQf:Adv:=(.sq .lv (.sq (.sq .lv (.bl (.lp [(3,.sc (.int .i64))] (.sq (.sq .lv (.cd .lf .lf)) (.sq (.bl (.sq .lv (.bl (.lp [(4,.sc (.int .i64))] (.sq (.sq .lv (.cd .lf .lf)) (.sq (.bl (.sq .lv (.sq .lv (.bl (.lp [(7,.sc (.int .i64))] (.sq (.sq .lv (.cd .lf .lf)) (.sq (.bl (.sq .lv (.sq .lv (.cd (.sq .lv .lf) .lf)))) .lv))))))) .lv)))))) .lv))))) (.sq .lv .lf)))
set_option maxRecDepth 100000 in
theorem eq31_0(hk:Hook)(g0:AV)(w:AW)(K:AV→AW→Prop):zJk Tryz.prog hk true 84 zQf b31_0 ([g0]++List.replicate (Tryz.f31.ntmps - List.length [g0]) Go.Sx.undef) w (fun e t w=>jJr Tryz.prog true Tryz.f31 e t w K)=yQb hk g0 w K:=by kernel_rfl
theorem in31 {hk:Hook}{g0:AV}{w:AW}{K:AV→AW→Prop}(hn:hk 31 [g0] w=none)(h:yQb hk g0 w K):Cl Tryz.prog hk 31 [g0] w K:=
 vJw (big:=true) (c:=b31_0) Tryz.func31 hn (by kernel_rfl) (jJ1 (big:=true) (n:=84) (adv:=zQf) (by rw[eq31_0];exact h))
noncomputable def b33_0:Code:=match Tryz.f33.body with
 | some c=>c
 | none=> .skip
def yQa(hk:Hook)(g0:AV)(i1:Int)(n2 out3:AV)(e4:Int)(w:AW)(K:AV→AW→Prop):Prop:=
 onA n2 fun cs5=>gd (List.all cs5 qJc) (
 new w cs5 fun b6 w7=>
 ifT (!decide (e4=0)) (K (.bool false) w7)
 (onP g0 fun b8 o9=>
 onM (ld w7 b8 (o9+0)) fun x10=>
 onM (ldN 19 w7 b6 0) fun x11=>
 atP (idxS 19 x10 (ii i1)) fun b12 o13=>
 onA x11 fun cs14=>gd (List.all cs14 qJc) (
 gd (Nat.beq cs14.length 19) (onM (AW.putCells w7 b12 o13 cs14) fun w15=>
 Cl Tryz.prog hk 77 [g0,out3] w15 fun r16 w17=>
 r16= .tup []∧
 onM (ldN 19 w17 b6 0) fun x18=>
 Cl Tryz.prog hk 78 [g0,x18] w17 fun r19 w20=>
 ∃x21:Bool,r19=(.bool x21)∧
 K (.bool x21) w20))))
def zQe:Adv:=(.sq .lv (.sq (.sq .lv (.cd (.sq .lv .lf) .lf)) (.sq .lv (.sq .lv (.sq .lv .lf)))))
set_option maxRecDepth 100000 in
theorem eq33_0(hk:Hook)(g0:AV)(i1:Int)(n2 out3:AV)(e4:Int)(w:AW)(K:AV→AW→Prop):zJk Tryz.prog hk true 26 zQe b33_0 ([g0,(ii i1),n2,out3,(ii e4)]++List.replicate (Tryz.f33.ntmps - List.length [g0,(ii i1),n2,out3,(ii e4)]) Go.Sx.undef) w (fun e t w=>jJr Tryz.prog true Tryz.f33 e t w K)=yQa hk g0 i1 n2 out3 e4 w K:=by kernel_rfl
theorem in33 {hk:Hook}{g0:AV}{i1:Int}{n2 out3:AV}{e4:Int}{w:AW}{K:AV→AW→Prop}(hn:hk 33 [g0,(ii i1),n2,out3,(ii e4)] w=none)(h:yQa hk g0 i1 n2 out3 e4 w K):Cl Tryz.prog hk 33 [g0,(ii i1),n2,out3,(ii e4)] w K:=
 vJw (big:=true) (c:=b33_0) Tryz.func33 hn (by kernel_rfl) (jJ1 (big:=true) (n:=26) (adv:=zQe) (by rw[eq33_0];exact h))
noncomputable def b35_0:Code:=match Tryz.f35.body with
 | some c=>c
 | none=> .skip
def vQb(hk:Hook)(g0:AV)(i1:Int)(read2:Bool)(w:AW)(K:AV→AW→Prop):Prop:=
 onP g0 fun b3 o4=>
 onM (ld w b3 (o4+0)) fun x5=>
 atP (idxS 19 x5 (ii i1)) fun b6 o7=>
 onM (ldN 19 w b6 o7) fun x8=>
 new w [(ii 0),(ii 0),(.int .u8 0),(ii 0),(ii 0),(ii 0),(ii 0),(ii 0),.nilslice,.nilslice,(ii 0),.nilslice,.nilslice,.nilslice,.nilslice,(ii 0),(ii 0),(ii 0),.nilslice] fun b9 w10=>
 onA x8 fun cs11=>gd (List.all cs11 qJc) (
 gd (Nat.beq cs11.length 19) (onM (AW.putCells w10 b9 0 cs11) fun w12=>
 ifT (!read2) (onP g0 fun b13 o14=>
  ∃x15:Int,ld w12 b13 (o14+5)=some (ii x15)∧
  onP g0 fun b16 o17=>
  onM (AW.putCells w12 b16 (o17+5) [(ii (wi (x15+1)))]) fun w18=>
  onM (ldN 19 w18 b9 0) fun x19=>
  onP g0 fun b20 o21=>
  ∃x22:Int,ld w18 b20 (o21+5)=some (ii x22)∧
  be (IntKind.wrap .u8 (shrI .i64 x22 8)) fun x23=>
  onP g0 fun b24 o25=>
  ∃x26:Int,ld w18 b24 (o25+5)=some (ii x26)∧
  new w18 [(.int .u8 x23),(.int .u8 (IntKind.wrap .u8 x26))] fun b27 w28=>
  new w28 [(ii 0),(ii 0),(.int .u8 0),(ii 0),(ii 0),(ii 0),(ii 0),(ii 0),.nilslice,.nilslice,(ii 0),.nilslice,.nilslice,.nilslice,.nilslice,(ii 0),(ii 0),(ii 0),.nilslice] fun b29 w30=>
  ld w30 b24 (o25+5)=some (ii x26)∧
  ld w30 b20 (o21+5)=some (ii x22)∧
  ldN 19 w30 b9 0=some x19∧
  Cl Tryz.prog hk 13 [x19,(.slice b27 0 2 2 none)] w30 fun r31 w32=>
  ∃x33:AV,∃x34:Int,∃x35:AV,∃x36:Int,r31= .tup [x33,(ii x34),x35,(ii x36)]∧
  onA x33 fun cs37=>gd (List.all cs37 qJc) (
  gd (Nat.beq cs37.length 19) (onM (AW.putCells w32 b29 0 cs37) fun w38=>
  ifT (!decide (x36=0)) (ifT (decide (x36=220)) (∃x39:Int,ld w38 b9 (0+2)=some (.int .u8 x39)∧
  K (.bool (!decide (x39=3))) w38)
  (K (.bool false) w38))
  (onM (ldN 19 w38 b29 0) fun x40=>
  Cl Tryz.prog hk 36 [x40] w38 fun r41 w42=>
  ∃x43:Int,r41=(ii x43)∧
  ifT (decide (x34=x43)) (onM (ldN 19 w42 b29 0) fun x44=>
  Cl Tryz.prog hk 33 [g0,(ii i1),x44,x35,(ii x36)] w42 fun r45 w46=>
  ∃x47:Bool,r45=(.bool x47)∧
  K (.bool x47) w46)
  (K (.bool false) w42)))))
 (onM (ldN 19 w12 b9 0) fun x48=>
 onP g0 fun b49 o50=>
 onM (ld w12 b49 (o50+4)) fun x51=>
 ∃x52:Int,lenS x51=some (ii x52)∧
 new w12 [(ii 0),(ii 0),(.int .u8 0),(ii 0),(ii 0),(ii 0),(ii 0),(ii 0),.nilslice,.nilslice,(ii 0),.nilslice,.nilslice,.nilslice,.nilslice,(ii 0),(ii 0),(ii 0),.nilslice] fun b53 w54=>
 ld w54 b49 (o50+4)=some x51∧
 ldN 19 w54 b9 0=some x48∧
 Cl Tryz.prog hk 14 [x48,(ii x52)] w54 fun r55 w56=>
 ∃x57 x58:AV,∃x59:Int,r55= .tup [x57,x58,(ii x59)]∧
 onA x57 fun cs60=>gd (List.all cs60 qJc) (
 gd (Nat.beq cs60.length 19) (onM (AW.putCells w56 b53 0 cs60) fun w61=>
 ifT (!decide (x59=0)) (ifT (decide (x59=220)) (K (.bool true) w61)
  (K (.bool (decide (x59=5))) w61))
 (onP g0 fun b62 o63=>
 onM (ld w61 b62 (o63+4)) fun x64=>
 onP g0 fun b65 o66=>
 onM (ld w61 b65 (o66+2)) fun x67=>
 ∃x68:Int,lenS x67=some (ii x68)∧
 new w61 [(ii x68)] fun b69 w70=>
 ld w70 b65 (o66+2)=some x67∧
 ld w70 b62 (o63+4)=some x64∧
 onE (appS 1 8 w70 x64 (.slice b69 0 1 1 none)) fun x71 w72=>
 onP g0 fun b73 o74=>
 gd (qJc x71) (
 onM (AW.putCells w72 b73 (o74+4) [x71]) fun w75=>
 onM (ldN 19 w75 b53 0) fun x76=>
 Cl Tryz.prog hk 33 [g0,(ii i1),x76,x58,(ii x59)] w75 fun r77 w78=>
 ∃x79:Bool,r77=(.bool x79)∧
 K (.bool x79) w78)))))))
def zQd:Adv:=(.sq .lv (.sq .lv (.sq (.sq .lv (.cd (.sq .lv (.sq .lv (.sq (.sq .lv (.cd (.sq .lv .lf) .lf)) (.sq .lv .lf)))) .lf)) (.sq .lv (.sq (.sq .lv (.cd (.sq .lv .lf) .lf)) (.sq .lv (.sq .lv .lf)))))))
set_option maxRecDepth 100000 in
theorem eq35_0(hk:Hook)(g0:AV)(i1:Int)(read2:Bool)(w:AW)(K:AV→AW→Prop):zJk Tryz.prog hk true 110 zQd b35_0 ([g0,(ii i1),(.bool read2)]++List.replicate (Tryz.f35.ntmps - List.length [g0,(ii i1),(.bool read2)]) Go.Sx.undef) w (fun e t w=>jJr Tryz.prog true Tryz.f35 e t w K)=vQb hk g0 i1 read2 w K:=by kernel_rfl
theorem in35 {hk:Hook}{g0:AV}{i1:Int}{read2:Bool}{w:AW}{K:AV→AW→Prop}(hn:hk 35 [g0,(ii i1),(.bool read2)] w=none)(h:vQb hk g0 i1 read2 w K):Cl Tryz.prog hk 35 [g0,(ii i1),(.bool read2)] w K:=
 vJw (big:=true) (c:=b35_0) Tryz.func35 hn (by kernel_rfl) (jJ1 (big:=true) (n:=110) (adv:=zQd) (by rw[eq35_0];exact h))
noncomputable def b61_0:Code:=match Tryz.f61.body with
 | some c=>c
 | none=> .skip
def wQ9(hk:Hook)(a0 b1:AV)(w:AW)(K:AV→AW→Prop):Prop:=
 ∃x2:List UInt8,b2s w a0=some (.str x2)∧
 ∃x3:List UInt8,b2s w b1=some (.str x3)∧
 K (.bool (x2==x3)) w
def zQc:Adv:=(.sq .lv (.sq .lv .lf))
set_option maxRecDepth 100000 in
theorem eq61_0(hk:Hook)(a0 b1:AV)(w:AW)(K:AV→AW→Prop):zJk Tryz.prog hk true 10 zQc b61_0 ([a0,b1]++List.replicate (Tryz.f61.ntmps - List.length [a0,b1]) Go.Sx.undef) w (fun e t w=>jJr Tryz.prog true Tryz.f61 e t w K)=wQ9 hk a0 b1 w K:=by kernel_rfl
theorem in61 {hk:Hook}{a0 b1:AV}{w:AW}{K:AV→AW→Prop}(hn:hk 61 [a0,b1] w=none)(h:wQ9 hk a0 b1 w K):Cl Tryz.prog hk 61 [a0,b1] w K:=
 vJw (big:=true) (c:=b61_0) Tryz.func61 hn (by kernel_rfl) (jJ1 (big:=true) (n:=10) (adv:=zQc) (by rw[eq61_0];exact h))
noncomputable def b74_0:Code:=match Tryz.f74.body with
 | some c=>c
 | none=> .skip
def wQ8(hk:Hook)(g0:AV)(m1:List UInt8)(m2 m3 m4 m5 m6 m7 m8 m9:Int)(m10:Bool)(m11 m12:AV)(draw13:Int)(w:AW)(K:AV→AW→Prop):Prop:=
 gd (List.all [(.str m1),(.int .u8 m2),(ii m3),(ii m4),(ii m5),(ii m6),(ii m7),(ii m8),(ii m9),(.bool m10),m11,m12] qJc) (
 new w [(.str m1),(.int .u8 m2),(ii m3),(ii m4),(ii m5),(ii m6),(ii m7),(ii m8),(ii m9),(.bool m10),m11,m12] fun b14 w15=>
 onP g0 fun b16 o17=>
 onM (ld w15 b16 (o17+0)) fun x18=>
 ∃x19:Int,ld w15 b14 (0+3)=some (ii x19)∧
 atP (idxS 19 x18 (ii (wi (x19 - 1)))) fun b20 o21=>
 onM (ldN 19 w15 b20 o21) fun x22=>
 ∃x23:List UInt8,∃x24 x25 x26 x27 x28 x29 x30 x31:Int,∃x32:Bool,∃x33 x34:AV,ldN 12 w15 b14 0=some (.agg [(.str x23),(.int .u8 x24),(ii x25),(ii x26),(ii x27),(ii x28),(ii x29),(ii x30),(ii x31),(.bool x32),x33,x34])∧
 new w15 [(ii 0),(ii 0),(.int .u8 0),(ii 0),(ii 0),(ii 0),(ii 0),(ii 0),.nilslice,.nilslice,(ii 0),.nilslice,.nilslice,.nilslice,.nilslice,(ii 0),(ii 0),(ii 0),.nilslice] fun b35 w36=>
 ldN 12 w36 b14 0=some (.agg [(.str x23),(.int .u8 x24),(ii x25),(ii x26),(ii x27),(ii x28),(ii x29),(ii x30),(ii x31),(.bool x32),x33,x34])∧
 ldN 19 w36 b20 o21=some x22∧
 ld w36 b14 (0+3)=some (ii x19)∧
 ld w36 b16 (o17+0)=some x18∧
 Cl Tryz.prog hk 10 [x22,(.agg [(.str x23),(.int .u8 x24),(ii x25),(ii x26),(ii x27),(ii x28),(ii x29),(ii x30),(ii x31),(.bool x32),x33,x34]),(ii draw13)] w36 fun r37 w38=>
 ∃x39 x40:AV,∃x41:Int,r37= .tup [x39,x40,(ii x41)]∧
 onA x39 fun cs42=>gd (List.all cs42 qJc) (
 gd (Nat.beq cs42.length 19) (onM (AW.putCells w38 b35 0 cs42) fun w43=>
 ∃x44:Int,ld w43 b14 (0+3)=some (ii x44)∧
 onM (ldN 19 w43 b35 0) fun x45=>
 Cl Tryz.prog hk 33 [g0,(ii (wi (x44 - 1))),x45,x40,(ii x41)] w43 fun r46 w47=>
 ∃x48:Bool,r46=(.bool x48)∧
 K (.bool x48) w47)))
def zQb:Adv:=(.sq .lv (.sq .lv (.sq .lv .lf)))
set_option maxRecDepth 100000 in
theorem eq74_0(hk:Hook)(g0:AV)(m1:List UInt8)(m2 m3 m4 m5 m6 m7 m8 m9:Int)(m10:Bool)(m11 m12:AV)(draw13:Int)(w:AW)(K:AV→AW→Prop):zJk Tryz.prog hk true 34 zQb b74_0 ([g0,(.agg [(.str m1),(.int .u8 m2),(ii m3),(ii m4),(ii m5),(ii m6),(ii m7),(ii m8),(ii m9),(.bool m10),m11,m12]),(ii draw13)]++List.replicate (Tryz.f74.ntmps - List.length [g0,(.agg [(.str m1),(.int .u8 m2),(ii m3),(ii m4),(ii m5),(ii m6),(ii m7),(ii m8),(ii m9),(.bool m10),m11,m12]),(ii draw13)]) Go.Sx.undef) w (fun e t w=>jJr Tryz.prog true Tryz.f74 e t w K)=wQ8 hk g0 m1 m2 m3 m4 m5 m6 m7 m8 m9 m10 m11 m12 draw13 w K:=by kernel_rfl
theorem in74 {hk:Hook}{g0:AV}{m1:List UInt8}{m2 m3 m4 m5 m6 m7 m8 m9:Int}{m10:Bool}{m11 m12:AV}{draw13:Int}{w:AW}{K:AV→AW→Prop}(hn:hk 74 [g0,(.agg [(.str m1),(.int .u8 m2),(ii m3),(ii m4),(ii m5),(ii m6),(ii m7),(ii m8),(ii m9),(.bool m10),m11,m12]),(ii draw13)] w=none)(h:wQ8 hk g0 m1 m2 m3 m4 m5 m6 m7 m8 m9 m10 m11 m12 draw13 w K):Cl Tryz.prog hk 74 [g0,(.agg [(.str m1),(.int .u8 m2),(ii m3),(ii m4),(ii m5),(ii m6),(ii m7),(ii m8),(ii m9),(.bool m10),m11,m12]),(ii draw13)] w K:=
 vJw (big:=true) (c:=b74_0) Tryz.func74 hn (by kernel_rfl) (jJ1 (big:=true) (n:=34) (adv:=zQb) (by rw[eq74_0];exact h))
noncomputable def b75_0:Code:=match Tryz.f75.body with
 | some c=>c
 | none=> .skip
def wQ7(hk:Hook)(n0:AV)(draw1:Int)(w:AW)(K:AV→AW→Prop):Prop:=
 onA n0 fun cs2=>gd (List.all cs2 qJc) (
 new w cs2 fun b3 w4=>
 new w4 [(ii 0),(ii 0),(.int .u8 0),(ii 0),(ii 0),(ii 0),(ii 0),(ii 0),.nilslice,.nilslice,(ii 0),.nilslice,.nilslice,.nilslice,.nilslice,(ii 0),(ii 0),(ii 0),.nilslice] fun b5 w6=>
 ∃x7:Int,ld w6 b3 (0+0)=some (ii x7)∧
 ∃x8:Int,ld w6 b3 (0+1)=some (ii x8)∧
 Cl Tryz.prog hk 25 [(ii x7),(ii x8),(ii draw1)] w6 fun r9 w10=>
 ∃x11:AV,∃x12:Int,r9= .tup [x11,(ii x12)]∧
 new w10 [(ii 0),(ii 0),(.int .u8 0),(ii 0),(ii 0),(ii 0),(ii 0),(ii 0),.nilslice,.nilslice,(ii 0),.nilslice,.nilslice,.nilslice,.nilslice,(ii 0),(ii 0),(ii 0),.nilslice] fun b13 w14=>
 onA x11 fun cs15=>gd (List.all cs15 qJc) (
 gd (Nat.beq cs15.length 19) (onM (AW.putCells w14 b13 0 cs15) fun w16=>
 ∃x17:Int,ld w16 b3 (0+3)=some (ii x17)∧
 ∃x18:Int,ld w16 b3 (0+4)=some (ii x18)∧
 onM (AW.putCells w16 b13 (0+3) [(ii x17)]) fun w19=>
 ld w19 b3 (0+4)=some (ii x18)∧
 onM (AW.putCells w19 b13 (0+4) [(ii x18)]) fun w20=>
 ∃x21:Int,ld w20 b3 (0+6)=some (ii x21)∧
 ∃x22:Int,ld w20 b3 (0+7)=some (ii x22)∧
 onM (ld w20 b3 (0+8)) fun x23=>
 onM (AW.putCells w20 b13 (0+6) [(ii x21)]) fun w24=>
 ld w24 b3 (0+8)=some x23∧
 ld w24 b3 (0+7)=some (ii x22)∧
 onM (AW.putCells w24 b13 (0+7) [(ii x22)]) fun w25=>
 ld w25 b3 (0+8)=some x23∧
 gd (qJc x23) (
 onM (AW.putCells w25 b13 (0+8) [x23]) fun w26=>
 onM (ld w26 b3 (0+9)) fun x27=>
 gd (qJc x27) (
 onM (AW.putCells w26 b13 (0+9) [x27]) fun w28=>
 ∃x29:Int,ld w28 b3 (0+6)=some (ii x29)∧
 onM (AW.putCells w28 b13 (0+10) [(ii x29)]) fun w30=>
 onM (ldN 19 w30 b13 0) fun x31=>
 onA x31 fun cs32=>gd (List.all cs32 qJc) (
 gd (Nat.beq cs32.length 19) (onM (AW.putCells w30 b5 0 cs32) fun w33=>
 onM (ldN 19 w33 b5 0) fun res34=>
 K (.tup [res34,(.bool (decide (x12=0)))]) w33)))))))
def zQa:Adv:=(.sq .lv (.sq .lv (.sq .lv (.sq .lv (.sq .lv (.sq .lv (.sq .lv .lf)))))))
set_option maxRecDepth 100000 in
theorem eq75_0(hk:Hook)(n0:AV)(draw1:Int)(w:AW)(K:AV→AW→Prop):zJk Tryz.prog hk true 41 zQa b75_0 ([n0,(ii draw1)]++List.replicate (Tryz.f75.ntmps - List.length [n0,(ii draw1)]) Go.Sx.undef) w (fun e t w=>jJr Tryz.prog true Tryz.f75 e t w K)=wQ7 hk n0 draw1 w K:=by kernel_rfl
theorem in75 {hk:Hook}{n0:AV}{draw1:Int}{w:AW}{K:AV→AW→Prop}(hn:hk 75 [n0,(ii draw1)] w=none)(h:wQ7 hk n0 draw1 w K):Cl Tryz.prog hk 75 [n0,(ii draw1)] w K:=
 vJw (big:=true) (c:=b75_0) Tryz.func75 hn (by kernel_rfl) (jJ1 (big:=true) (n:=41) (adv:=zQa) (by rw[eq75_0];exact h))
noncomputable def b76_0:Code:=match Tryz.f76.body with
 | some c=>c
 | none=> .skip
def wQ6(hk:Hook)(index0:Int)(w:AW)(K:AV→AW→Prop):Prop:=
 be (IntKind.wrap .u8 (shrI .i64 index0 8)) fun x1=>
 new w [(.int .u8 x1),(.int .u8 (IntKind.wrap .u8 index0))] fun b2 w3=>
 K (.slice b2 0 2 2 none) w3
def qQ9:Adv:=(.sq .lv (.sq .lv .lf))
set_option maxRecDepth 100000 in
theorem eq76_0(hk:Hook)(index0:Int)(w:AW)(K:AV→AW→Prop):zJk Tryz.prog hk true 9 qQ9 b76_0 ([(ii index0)]++List.replicate (Tryz.f76.ntmps - List.length [(ii index0)]) Go.Sx.undef) w (fun e t w=>jJr Tryz.prog true Tryz.f76 e t w K)=wQ6 hk index0 w K:=by kernel_rfl
theorem in76 {hk:Hook}{index0:Int}{w:AW}{K:AV→AW→Prop}(hn:hk 76 [(ii index0)] w=none)(h:wQ6 hk index0 w K):Cl Tryz.prog hk 76 [(ii index0)] w K:=
 vJw (big:=true) (c:=b76_0) Tryz.func76 hn (by kernel_rfl) (jJ1 (big:=true) (n:=9) (adv:=qQ9) (by rw[eq76_0];exact h))
noncomputable def b77_0:Code:=match Tryz.f77.body with
 | some c=>c
 | none=> .skip
def wQ5(hk:Hook)(g0 out1:AV)(w:AW)(K:AV→AW→Prop):Prop:=
 onP g0 fun b2 o3=>
 onM (ld w b2 (o3+1)) fun x4=>
 onE (appS 12 136 w x4 out1) fun x5 w6=>
 onP g0 fun b7 o8=>
 gd (qJc x5) (
 onM (AW.putCells w6 b7 (o8+1) [x5]) fun w9=>
 onP g0 fun b10 o11=>
 onM (ld w9 b10 (o11+1)) fun x12=>
 ∃x13:Int,lenS x12=some (ii x13)∧
 ifT (decide (80<x13)) (onP g0 fun b14 o15=>
  onM (ld w9 b14 (o15+1)) fun x16=>
  onP g0 fun b17 o18=>
  onM (ld w9 b17 (o18+1)) fun x19=>
  ∃x20:Int,lenS x19=some (ii x20)∧
  onM (slS 12 x16 (some (ii (wi (x20 - 80)))) none none) fun x21=>
  onP g0 fun b22 o23=>
  gd (qJc x21) (
  onM (AW.putCells w9 b22 (o23+1) [x21]) fun w24=>
  K (.tup []) w24))
 (K (.tup []) w9))
def qQ8:Adv:=(.sq .lv (.sq .lv (.cd .lv .lf)))
set_option maxRecDepth 100000 in
theorem eq77_0(hk:Hook)(g0 out1:AV)(w:AW)(K:AV→AW→Prop):zJk Tryz.prog hk true 33 qQ8 b77_0 ([g0,out1]++List.replicate (Tryz.f77.ntmps - List.length [g0,out1]) Go.Sx.undef) w (fun e t w=>jJr Tryz.prog true Tryz.f77 e t w K)=wQ5 hk g0 out1 w K:=by kernel_rfl
theorem in77 {hk:Hook}{g0 out1:AV}{w:AW}{K:AV→AW→Prop}(hn:hk 77 [g0,out1] w=none)(h:wQ5 hk g0 out1 w K):Cl Tryz.prog hk 77 [g0,out1] w K:=
 vJw (big:=true) (c:=b77_0) Tryz.func77 hn (by kernel_rfl) (jJ1 (big:=true) (n:=33) (adv:=qQ8) (by rw[eq77_0];exact h))
noncomputable def wQx:Code:=match Tryz.f78.body with
 | some c=>c
 | none=> .skip
def wQ4(hk:Hook)(g0 n1:AV)(w:AW)(K:AV→AW→Prop)(J:List AV→AW→Prop):Prop:=
 onA n1 fun cs2=>gd (List.all cs2 qJc) (
 new w cs2 fun b3 w4=>
 onM (ldN 19 w4 b3 0) fun x5=>
 Cl Tryz.prog hk 8 [x5] w4 fun r6 w7=>
 ∃x8:Bool,r6=(.bool x8)∧
 gd (!(!x8)) (
 ∃x9:Int,ld w7 b3 (0+6)=some (ii x9)∧
 onP g0 fun b10 o11=>
 onM (ld w7 b10 (o11+2)) fun x12=>
 ∃x13:Int,lenS x12=some (ii x13)∧
 ifT (decide (x13<x9)) (K (.bool false) w7)
 (∃x14:Int,ld w7 b3 (0+6)=some (ii x14)∧
 ifT (decide (0<x14)) (onM (ld w7 b3 (0+8)) fun x15=>
 ∃x16:Int,ld w7 b3 (0+6)=some (ii x16)∧
 Cl Tryz.prog hk 76 [(ii x16)] w7 fun r17 w18=>
 ld w18 b3 (0+8)=some x15∧
 Cl Tryz.prog hk 61 [x15,r17] w18 fun r19 w20=>
 ∃x21:Bool,r19=(.bool x21)∧
 ifT (!x21) (K (.bool false) w20)
 (J [g0,(.ptr b3 0)] w20))
 (J [g0,(.ptr b3 0)] w7))))
def qQ7:Adv:=(.sq .lv (.sq (.sq .fv (.cd (.sq .lv .lf) .lf)) (.sq .lv (.cd (.sq .lv .lf) .lf))))
def jQ1:List (Tmp×Sh):=[(0,.sc (.opq)),(3,.sc (.ptr))]
noncomputable def b78_1:Code:=qQj 2 wQx
set_option maxRecDepth 100000 in
theorem eq78_0(hk:Hook)(g0 n1:AV)(w:AW)(K:AV→AW→Prop)(J:List AV→AW→Prop):zJk Tryz.prog hk true 143 qQ7 (oJ9 2 wQx) ([g0,n1]++List.replicate (Tryz.f78.ntmps - List.length [g0,n1]) Go.Sx.undef) w (segK 143 jQ1 J (fun e t w=>jJr Tryz.prog true Tryz.f78 e t w K))=wQ4 hk g0 n1 w K J:=by kernel_rfl
def G78_1(hk:Hook)(K:AV→AW→Prop)(vs:List AV)(w:AW):Prop:=∃x0:AV,∃b1 o2:Nat,vs=[x0,(.ptr b1 o2)]∧∀j:Nat→AV,vJm Tryz.prog hk none b78_1 (lJt 143 jQ1 [x0,(.ptr b1 o2)] j) [] w (fun e t w=>jJr Tryz.prog true Tryz.f78 e t w K)
theorem in78 {hk:Hook}{g0 n1:AV}{w:AW}{K:AV→AW→Prop}(hn:hk 78 [g0,n1] w=none)(J:List AV→AW→Prop)(h:wQ4 hk g0 n1 w K J)(hJ:∀vs w,J vs w→G78_1 hk K vs w):Cl Tryz.prog hk 78 [g0,n1] w K:=
 vJw (big:=true) (c:=wQx) Tryz.func78 hn (by kernel_rfl) (vQl (big:=true) (n:=143) (m:=2) (adv:=qQ7) (l:=jQ1) (J:=J) (by kernel_rfl) (by rw[eq78_0];exact h) hJ)
def vQa(hk:Hook)(x0:AV)(b1 o2:Nat)(w:AW)(K:AV→AW→Prop):Prop:=
 ∃x3:Int,ld w b1 (o2+6)=some (ii x3)∧
 zJ9 [(ii (wi (x3+1)))] w fun R4 l_5 w6=>∃i7:Int,l_5=[(ii i7)]∧∀_:Nat→AV,
  ∃x8:Int,ld w6 b1 (o2+10)=some (ii x8)∧
  ifT (decide (i7≤x8)) (onM (ld w6 b1 (o2+9)) fun x9=>
  ∃x10:Int,ld w6 b1 (o2+6)=some (ii x10)∧
  atP (idxS 2 x9 (ii (wi ((wi (i7 - x10)) - 1)))) fun b11 o12=>
  ∃x13:Int,∃x14:AV,ldN 2 w6 b11 o12=some (.agg [(ii x13),x14])∧
  new w6 [(ii 0),.nilslice] fun b15 w16=>
  gd (List.all [(ii x13),x14] qJc) (
  onM (AW.putCells w16 b15 0 [(ii x13),x14]) fun w17=>
  join (fun l_18 w19=>∃g21:AV,∃n22 no23:Nat,∃i24:Int,∃e25 eo26:Nat,l_18=[g21,(.ptr n22 no23),(ii i24),(.ptr e25 eo26)]∧∀_:Nat→AV,
  onP g21 fun b27 o28=>
  onM (ld w19 b27 (o28+2)) fun x29=>
  atP (idxS 2 x29 (ii (wi (i24 - 1)))) fun b30 o31=>
  ∃x32:Int,ld w19 b30 (o31+0)=some (ii x32)∧
  ∃x33:Int,ld w19 e25 (eo26+0)=some (ii x33)∧
  gd (!(!decide (x32=x33))) (
  onP g21 fun b34 o35=>
  onM (ld w19 b34 (o35+2)) fun x36=>
  atP (idxS 2 x36 (ii (wi (i24 - 1)))) fun b37 o38=>
  onM (ld w19 b37 (o38+1)) fun x39=>
  onM (ld w19 e25 (eo26+1)) fun x40=>
  Cl Tryz.prog hk 61 [x39,x40] w19 fun r41 w42=>
  ∃x43:Bool,r41=(.bool x43)∧
  ifT (!x43) (K (.bool false) w42)
  (R4 [(ii (wi (i24+1)))] w42))) fun J20=>
  onP x0 fun b44 o45=>
  onM (ld w17 b44 (o45+2)) fun x46=>
  ∃x47:Int,lenS x46=some (ii x47)∧
  ifT (decide (x47<i7)) (onP x0 fun b48 o49=>
  onM (ld w17 b48 (o49+2)) fun x50=>
  ∃x51:Int,ld w17 b15 (0+0)=some (ii x51)∧
  onM (ld w17 b15 (0+1)) fun x52=>
  Cl Tryz.prog hk 46 [x52] w17 fun r53 w54=>
  gd (qJc r53) (
  gd (List.all [(ii x51),r53] qJc) (
  new w54 [(ii x51),r53] fun b55 w56=>
  ld w56 b15 (0+0)=some (ii x51)∧
  ld w56 b48 (o49+2)=some x50∧
  onE (appS 2 32 w56 x50 (.slice b55 0 1 1 none)) fun x57 w58=>
  onP x0 fun b59 o60=>
  gd (qJc x57) (
  onM (AW.putCells w58 b59 (o60+2) [x57]) fun w61=>
  J20 [x0,(.ptr b1 o2),(ii i7),(.ptr b15 0)] w61))))
  (J20 [x0,(.ptr b1 o2),(ii i7),(.ptr b15 0)] w17)))
  (join (fun l_62 w63=>∃g65:AV,∃n66 no67:Nat,∃x68:Bool,l_62=[g65,(.ptr n66 no67),(.bool x68)]∧∀_:Nat→AV,
  ifT x68 (join (fun l_69 w70=>∃g72:AV,∃n73 no74:Nat,l_69=[g72,(.ptr n73 no74)]∧∀_:Nat→AV,
   onP g72 fun b75 o76=>
   onM (ld w70 b75 (o76+3)) fun x77=>
   ∃x78:Int,ld w70 n73 (no74+3)=some (ii x78)∧
   ∃x79:Int,ld w70 n73 (no74+0)=some (ii x79)∧
   atP (idxS 1 x77 (ii x78)) fun b80 o81=>
   onM (AW.putCells w70 b80 o81 [(ii x79)]) fun w82=>
   K (.bool true) w82) fun J71=>
  onP g65 fun b83 o84=>
  onM (ld w63 b83 (o84+3)) fun x85=>
  ∃x86:Int,ld w63 n66 (no67+3)=some (ii x86)∧
  atP (idxS 1 x85 (ii x86)) fun b87 o88=>
  ∃x89:Int,ld w63 b87 o88=some (ii x89)∧
  ifT (!decide (x89=0)) (onP g65 fun b90 o91=>
  onM (ld w63 b90 (o91+3)) fun x92=>
  ∃x93:Int,ld w63 n66 (no67+3)=some (ii x93)∧
  atP (idxS 1 x92 (ii x93)) fun b94 o95=>
  ∃x96:Int,ld w63 b94 o95=some (ii x96)∧
  ∃x97:Int,ld w63 n66 (no67+0)=some (ii x97)∧
  ifT (!decide (x96=x97)) (K (.bool false) w63)
  (J71 [g65,(.ptr n66 no67)] w63))
  (J71 [g65,(.ptr n66 no67)] w63))
  (K (.bool true) w63)) fun J64=>
 ∃x98:Int,ld w6 b1 (o2+2)=some (.int .u8 x98)∧
 ifT (decide (x98=3)) (∃x99:Int,ld w6 b1 (o2+3)=some (ii x99)∧
 onP x0 fun b100 o101=>
 onM (ld w6 b100 (o101+3)) fun x102=>
 ∃x103:Int,lenS x102=some (ii x103)∧
 J64 [x0,(.ptr b1 o2),(.bool (decide (x99<x103)))] w6)
 (J64 [x0,(.ptr b1 o2),(.bool false)] w6))
def qQ6:Adv:=(.sq (.sq .lv (.bl (.lp [(5,.sc (.int .i64))] (.sq (.sq .lv (.cd .lf .lf)) (.sq (.bl (.sq .lv (.sk [(0,.sc (.opq)),(3,.sc (.ptr)),(5,.sc (.int .i64)),(6,.sc (.ptr))] (.sq .lv (.cd .lv .lf)) (.sq .fv (.cd (.sq .lv .lf) .lf))))) .lv))))) (.sq (.sk [(0,.sc (.opq)),(3,.sc (.ptr)),(111,.sc (.bool))] .lv (.cd (.sk [(0,.sc (.opq)),(3,.sc (.ptr))] (.sq .lv (.cd (.sq .lv .lf) .lf)) .lv) .lf)) (.sq .lv .lf)))
set_option maxRecDepth 100000 in
theorem eq78_1(hk:Hook)(x0:AV)(b1 o2:Nat)(w:AW)(K:AV→AW→Prop)(j:Nat→AV):zJk Tryz.prog hk true 143 qQ6 b78_1 (lJt 143 jQ1 [x0,(.ptr b1 o2)] j) w (fun e t w=>jJr Tryz.prog true Tryz.f78 e t w K)=vQa hk x0 b1 o2 w K:=by kernel_rfl
theorem go78_1 {hk:Hook}{x0:AV}{b1 o2:Nat}{w:AW}{K:AV→AW→Prop}(h:vQa hk x0 b1 o2 w K):G78_1 hk K [x0,(.ptr b1 o2)] w:=
 ⟨x0,b1,o2,rfl,fun j=>jJ1 (big:=true) (n:=143) (adv:=qQ6) (by rw[eq78_1];exact h)⟩
end Go.Proofs.YtghoifolghelnaaGreat
/-
 What is settled stands in every later leader's log.
 No condition beyond those that each theorem names.
-/
open Go.Sx
namespace Go.Proofs.YtghoifolghelnaaGreat
def tA(P:List Ent)(k:Nat):Int:=if k=0 then 0 else(P.getD (k - 1) (0,[])).1
def lst(P:List Ent):Int:=tA P P.length
theorem vJ6 {P Q:List Ent}(h:P<+:Q){k:Nat}(hk:k≤P.length):tA Q k=tA P k:=by
 obtain⟨R,rfl⟩:=h;unfold tA;split
 ·rfl
 ·rw[yQj,yQj,gQa (by omega)]
theorem dJr {P:List Ent}{k j:Nat}(h:j≤k):tA (P.take k) j=tA P j:=by
 unfold tA;split
 ·rfl
 ·rw[yQj,yQj,List.getElem?_take,if_pos (by omega)]
theorem cJ1 {P:List Ent}{k:Nat}(h1:1≤k)(hk:k≤P.length):∃e∈P,tA P k=e.1:=by
 unfold tA;rw[if_neg (by omega),yQj,yQn (by omega)];exact⟨P[k - 1],gQp _,rfl⟩
theorem hJb {α:Type}{P Q R:List α}(h1:P<+:R)(h2:Q<+:R)(hl:P.length≤Q.length):P<+:Q:=List.prefix_of_prefix_length_le h1 h2 hl
theorem kQz {α:Type}{P Q R:List α}(h1:P<+:R)(h2:Q<+:R):P<+:Q∨Q<+:P:=by
 rcases Nat.le_total P.length Q.length with h | h
 ·exact .inl (hJb h1 h2 h)
 ·exact .inr (hJb h2 h1 h)
theorem xJv {α:Type}{P Q:List α}(h:P<+:Q){k:Nat}(hk:k≤P.length):Q.take k=P.take k:=by
 obtain⟨R,rfl⟩:=h;rw[gQk hk]
theorem yJe {α:Type}{P Q:List α}(h:P<+:Q):P=Q.take P.length:=List.prefix_iff_eq_take.1 h
theorem zJ8 {α:Type}{P:List α}{j k:Nat}(h:j≤k):P.take j<+:P.take k:=by
 have:P.take j=(P.take k).take j:=by rw[List.take_take,Nat.min_eq_left h]
 rw[this];exact gQu _ _
structure Srt(P:List Ent):Prop where
 srt:P.Pairwise (fun a b=>a.1≤b.1)
 pos:∀e∈P,1≤e.1
theorem Srt.nil:Srt []:=⟨List.Pairwise.nil,by simp⟩
theorem Srt.pre {P Q:List Ent}(h:Srt Q)(hp:P<+:Q):Srt P:=⟨h.srt.sublist hp.sublist,fun e he=>h.pos e (hp.subset he)⟩
theorem Srt.tA_le {P:List Ent}(h:Srt P){j k:Nat}(hj:j≤k)(hk:k≤P.length):tA P j≤tA P k:=by
 unfold tA;by_cases h0:j=0
 ·rw[if_pos h0];split
  ·exact yQo _
  ·rw[yQj,yQn (by omega)];have:=h.pos P[k - 1] (gQp _);show 0≤P[k - 1].1;omega
 ·rw[if_neg h0,if_neg (by omega),yQj,yQj,yQn (by omega),yQn (by omega)];show P[j - 1].1≤P[k - 1].1;by_cases e:j=k
  ·subst e;exact yQo _
  ·exact List.pairwise_iff_getElem.1 h.srt (j - 1) (k - 1) (by omega) (by omega) (by omega)
theorem Srt.snoc {P:List Ent}{e:Ent}(h:Srt P)(h1:1≤e.1)(h2:∀x∈P,x.1≤e.1):Srt (P++[e]):=by
 refine⟨List.pairwise_append.2 ⟨h.srt,by simp,fun a ha b hb=>?_⟩,fun x hx=>?_⟩
 ·simp at hb;subst hb;exact h2 a ha
 ·rcases yQ1.1 hx with hx | hx
  ·exact h.pos x hx
  ·simp at hx;subst hx;exact h1
theorem lst_le {P:List Ent}{t:Int}(h0:0≤t)(h:∀e∈P,e.1≤t):lst P≤t:=by
 unfold lst;by_cases hp:P.length=0
 ·unfold tA;rw[if_pos hp];exact h0
 ·obtain⟨e,he,h1⟩:=cJ1 (P:=P) (k:=P.length) (by omega) (yQm _);rw[h1];exact h e he
def maj(N:Nat)(p:Nat→Bool):Prop:=N<2 * ((List.range N).filter p).length
theorem aJ8 {p q:Nat→Bool}:∀l:List Nat,(l.filter p).length+(l.filter q).length≤l.length+(l.filter fun i=>p i&&q i).length
  | []=>by simp
  | a::l=>by
    have:=aJ8 (p:=p) (q:=q) l;cases hp:p a<;>cases hq:q a<;>simp[List.filter_cons,hp,hq]<;>omega
theorem pJ9 {N:Nat}{p q:Nat→Bool}(hp:maj N p)(hq:maj N q):∃i,i<N∧p i=true∧q i=true:=by
 have h:=aJ8 (p:=p) (q:=q) (List.range N);unfold maj at hp hq;rw[List.length_range]at h;have:0<((List.range N).filter fun i=>p i&&q i).length:=by omega
 obtain⟨i,hi⟩:=List.exists_mem_of_length_pos this;obtain⟨h1,h2⟩:=List.mem_filter.1 hi;rw[gQ3]at h2;exact⟨i,List.mem_range.1 h1,h2⟩
theorem bJy {p q:Nat→Bool}:∀l:List Nat,(∀i∈l,p i=true→q i=true)→(l.filter p).length≤(l.filter q).length
  | [],_=>by simp
  | a::l,h=>by
    have:=bJy (p:=p) (q:=q) l fun i hi=>h i (yQq _ hi);have ha:=h a yQu;cases hp:p a<;>cases hq:q a<;>simp[List.filter_cons,hp,hq]
    · omega
    · omega
    · rw[hp,hq]at ha;exact absurd (ha rfl) (by decide)
    · omega
theorem oJg {N:Nat}{p q:Nat→Bool}(h:∀i,i<N→p i=true→q i=true)(hp:maj N p):maj N q:=by
 have:=bJy (p:=p) (q:=q) (List.range N) fun i hi=>h i (List.mem_range.1 hi);unfold maj at hp ⊢;omega
theorem pJq {α:Type}(f:α→Bool)(l:List α)(d:α):(l.filter f).length=((List.range l.length).filter fun i=>f (l.getD i d)).length:=by
 have e:l=(List.range l.length).map fun i=>l.getD i d:=by
  apply List.ext_getElem
  ·simp
  ·intro i h1 h2;simp[yQj,yQn h1]
 conv=>lhs;rw[e,List.filter_map,yQr]
 rfl
theorem jQt {l:List Bool}{N:Nat}(hl:l.length=N)(h:(N:Int)<2 * (cntT l:Int)):maj N fun i=>l.getD i false:=by
 unfold cntT at h;rw[pJq id l false,hl]at h;unfold maj;simp only[id]at h;omega
theorem aJl {l:List Int}{N:Nat}{r:Int}(hl:l.length=N)(h:l.length<2 * cnt r l):maj N fun i=>decide (r≤l.getD i 0):=by
 unfold cnt at h;rw[pJq _ l 0,hl]at h;exact h
/-! ### What was -/
structure Gh where
 L:Int→List Ent
 B:Int→List Ent
 ld:Int→Nat
 Q:Int→Nat→Bool
 V:Int→Nat→Nat
 X:Int→Nat→List Ent
 A:Int→Nat→Nat
 C:Int→Nat
 H:Nat→List Ent
 S:List Ent
def Gh.Pre(G:Gh)(P:List Ent):Prop:=Srt P∧∀k,1≤k→k≤P.length→P.take k<+:G.L (tA P k)
def Gh.CP(G:Gh)(P:List Ent):Prop:=P=[]∨∃t,G.C t≠0∧P<+:(G.L t).take (G.C t)
def Gh.CT(G:Gh)(T:Int)(P:List Ent):Prop:=P=[]∨∃t,t≤T∧G.C t≠0∧P<+:(G.L t).take (G.C t)
def Utd(P X:List Ent):Prop:=lst X<lst P∨(lst X=lst P∧X.length≤P.length)
def Gh.Rv(G:Gh)(t':Int)(i:Nat):Prop:=∀t k,t<t'→k≤G.A t i→(G.L t).take k<+:G.X t' i∨∃t2,t<t2∧t2<t'∧G.ld t2≠0∧¬ (G.L t).take k<+:G.B t2
structure GI(G:Gh)(N:Nat)(T:Nat→Int):Prop where
 z:∀t,G.ld t=0→G.L t=[]∧(∀i,G.A t i=0)∧G.C t=0
 ldN:∀t,G.ld t≤N
 led:∀t,G.ld t≠0→1≤t∧(∃E,G.L t=G.B t++E∧∀e∈E,e.1=t)∧(∀e∈G.B t,e.1<t)∧G.Pre (G.B t)
 ele:∀t,G.ld t≠0→maj N (G.Q t)∧∀i,i<N→G.Q t i=true→G.V t i=G.ld t∧Utd (G.B t) (G.X t i)∧G.Rv t i
 vot:∀t i,i<N→G.ld t=0→G.V t i≠0→G.Rv t i
 ret:∀i,i<N→∀t k,k≤G.A t i→(G.L t).take k<+:G.H i∨∃t2,t<t2∧t2≤T i∧G.ld t2≠0∧¬ (G.L t).take k<+:G.B t2
 ack:∀t i,i<N→G.A t i≤(G.L t).length∧(G.A t i≠0→t≤T i)
 top:∀t i,G.ld t=i+1→t≤T i
 vt:∀t i,i<N→G.V t i≠0→t≤T i∧G.Pre (G.X t i)∧1≤t
 com:∀t,G.C t≠0→tA (G.L t) (G.C t)=t∧G.C t≤(G.L t).length∧maj N fun i=>decide (G.C t≤G.A t i)
 log:∀i,i<N→G.Pre (G.H i)∧∀e∈G.H i,e.1≤T i
 set:G.CP G.S
 std:∀t k c,k<N→G.V t k=c+1→G.V t c=c+1
section
variable {G:Gh}{N:Nat}{T:Nat→Int}{P Q:List Ent}
theorem Gh.Pre.nil:G.Pre []:=⟨Srt.nil,fun k h1 h2=>by simp at h2;omega⟩
theorem Gh.Pre.pre(h:G.Pre Q)(hp:P<+:Q):G.Pre P:=⟨h.1.pre hp,fun k h1 h2=>by
 have hl:=hp.length_le;have:=h.2 k h1 (by omega);rw[xJv hp h2,vJ6 hp h2]at this;exact this⟩
theorem GI.BL(g:GI G N T){t:Int}(h:G.ld t≠0):G.B t<+:G.L t:=by
 obtain⟨_,⟨E,h1,_⟩,_⟩:=g.led t h;rw[h1];exact List.prefix_append _ _
theorem GI.ld_of(g:GI G N T){t:Int}(h:G.L t≠[]):G.ld t≠0:=fun e=>h (g.z t e).1
theorem GI.C_ld(g:GI G N T){t:Int}(h:G.C t≠0):G.ld t≠0:=fun e=>h (g.z t e).2.2
theorem GI.Lterm(g:GI G N T){t:Int}(h:G.ld t≠0):∀e∈G.L t,e.1≤t:=by
 obtain⟨_,⟨E,h1,h3⟩,h4,_⟩:=g.led t h;intro e he;rw[h1]at he;rcases yQ1.1 he with he | he
 ·exact Int.le_of_lt (h4 e he)
 ·rw[h3 e he];exact yQo _
theorem GI.Lpre(g:GI G N T){t:Int}(h:G.ld t≠0):G.Pre (G.L t):=by
 obtain⟨h0,⟨E,h1,h3⟩,h4,h5⟩:=g.led t h;refine⟨⟨?_,?_⟩,fun k k1 k2=>?_⟩
 ·rw[h1];refine List.pairwise_append.2 ⟨h5.1.srt,?_,fun a ha b hb=>by rw[h3 b hb];exact Int.le_of_lt (h4 a ha)⟩;exact List.Pairwise.imp_of_mem (R:=fun _ _=>True) (fun {a b} ha hb _=>by rw[h3 a ha,h3 b hb];exact yQo _) (List.pairwise_of_forall fun _ _=>trivial)
 ·intro e he;rw[h1]at he;rcases yQ1.1 he with he | he
  ·exact h5.1.pos e he
  ·rw[h3 e he];exact h0
 ·by_cases hk:k≤(G.B t).length
  ·have:=h5.2 k k1 hk;rw[xJv (g.BL h) hk,vJ6 (g.BL h) hk];exact this
  ·have e:tA (G.L t) k=t:=by
    unfold tA;rw[if_neg (by omega),h1,yQj,gQg (by omega)];rw[h1,yQs]at k2;rw[yQn (by omega)];exact h3 _ (gQp _)
   rw[e];exact gQu _ _
theorem pJ4(h1:G.Pre P)(h2:G.Pre Q){k:Nat}(hp:k≤P.length)(hq:k≤Q.length)(he:tA P k=tA Q k):P.take k=Q.take k:=by
 by_cases h0:k=0
 ·subst h0;simp
 ·have a:=h1.2 k (by omega) hp;have b:=h2.2 k (by omega) hq;rw[he]at a;have l1:(P.take k).length=k:=by rw[yQ9];omega
  have l2:(Q.take k).length=k:=by rw[yQ9];omega
  have:=yJe (hJb a b (by omega));rw[l1,List.take_take,Nat.min_self]at this;exact this
theorem GI.lc(g:GI G N T):∀(n:Nat) {t t':Int} {k:Nat},(t' - t).toNat≤n→1≤k→k≤(G.L t).length→tA (G.L t) k=t→maj N (fun i=>decide (k≤G.A t i))→t<t'→G.ld t'≠0→(G.L t).take k<+:G.B t'
  | 0,t,t',k,hn,_,_,_,_,hlt,_=>by omega
  | n+1,t,t',k,hn,h1,hk,ht,hm,hlt,hld=>by
    obtain⟨hq,hv⟩:=g.ele t' hld;obtain⟨i,hiN,hi1,hi2⟩:=pJ9 hm hq;have hi1:=of_decide_eq_true hi1;obtain⟨v1,v2,v3⟩:=hv i hiN hi2;have hPX:(G.L t).take k<+:G.X t' i:=by
      rcases v3 t k hlt hi1 with h | ⟨t2,h3,h4,h5,h6⟩
      · exact h
      · exact absurd (GI.lc g n (by omega) h1 hk ht hm h3 h5) h6
    have hXp:=(g.vt t' i hiN (by rw[v1];exact hld)).2.1;obtain⟨_,_,hBt,hBp⟩:=g.led t' hld;have hlk:((G.L t).take k).length=k:=by rw[yQ9];omega
    have hXl:k≤(G.X t' i).length:=by have:=hPX.length_le;omega
    have hXt:tA (G.X t' i) k=t:=by rw[vJ6 hPX (by omega),dJr (yQm _),ht]
    have hXge:t≤lst (G.X t' i):=by
      have:=hXp.1.tA_le hXl (yQm _);unfold lst;omega
    have hldt:G.ld t≠0:=g.ld_of fun e=>by rw[e]at hk;simp at hk;omega
    have ht1:=(g.led t hldt).1;have hBl:1≤(G.B t').length:=by
      rcases Nat.eq_zero_or_pos (G.B t').length with h0 | h0
      · have e:lst (G.B t')=0:=by unfold lst tA;rw[if_pos h0]
        rcases v2 with h | ⟨h,h'⟩<;>omega
      · exact h0
    have hBL:=hBp.2 _ hBl (yQm _);rw[gQi]at hBL;have eB:tA (G.B t') (G.B t').length=lst (G.B t'):=rfl;rw[eB]at hBL;rcases v2 with hl | ⟨he,hle⟩
    · -- a later last term
      have hτ:lst (G.B t')<t':=by
        obtain⟨e,he1,he2⟩:=cJ1 hBl (yQm _);rw[←eB,he2];exact hBt e he1
      have hldτ:G.ld (lst (G.B t'))≠0:=g.ld_of fun e=>by
        rw[e]at hBL;have:=hBL.length_le;rw[gQw]at this;omega
      have hIH:=GI.lc g n (t:=t) (t':=lst (G.B t')) (by omega) h1 hk ht hm (by omega) hldτ;have hL:=hIH.trans (g.BL hldτ);rcases Nat.le_total k (G.B t').length with hkB | hkB
      · exact hJb hL hBL (by omega)
      · exfalso
        have hsub:G.B t'<+:(G.L t).take k:=hJb hBL hL (by omega);have e1:tA ((G.L t).take k) (G.B t').length=lst (G.B t'):=vJ6 hsub (yQm _);obtain⟨e,he1,he2⟩:=cJ1 (P:=(G.L t).take k) hBl (by omega);have:=g.Lterm hldt e (gQz he1);omega
    · -- the same last term
      have hX:=hXp.2 _ (by omega) (yQm _);rw[gQi]at hX;have eX:tA (G.X t' i) (G.X t' i).length=lst (G.X t' i):=rfl;rw[eX,he]at hX;exact hPX.trans (hJb hX hBL hle)
theorem GI.CT_L(g:GI G N T){t t':Int}(h:G.CT t P)(ht:t≤t')(hld:G.ld t'≠0):P<+:G.L t':=by
 rcases h with rfl | ⟨t0,h0,h1,h2⟩
 ·exact List.nil_prefix
 ·obtain⟨c1,c2,c3⟩:=g.com t0 h1;by_cases e:t0=t'
  ·subst e;exact h2.trans (gQu _ _)
  ·exact h2.trans ((g.lc _ (yQm _) (by omega) c2 c1 c3 (by omega) hld).trans (g.BL hld))
theorem Gh.CT.le {t t':Int}(h:G.CT t P)(ht:t≤t'):G.CT t' P:=by
 rcases h with rfl | ⟨t0,h0,h1,h2⟩
 ·exact .inl rfl
 ·exact .inr ⟨t0,by omega,h1,h2⟩
theorem Gh.CT.cp {t:Int}(h:G.CT t P):G.CP P:=by
 rcases h with rfl | ⟨t0,_,h1,h2⟩
 ·exact .inl rfl
 ·exact .inr ⟨t0,h1,h2⟩
theorem Gh.CT.pre {t:Int}(h:G.CT t Q)(hp:P<+:Q):G.CT t P:=by
 rcases h with rfl | ⟨t0,h0,h1,h2⟩
 ·exact .inl (List.prefix_nil.1 hp)
 ·exact .inr ⟨t0,h0,h1,hp.trans h2⟩
theorem GI.CP_cmp(g:GI G N T)(h:G.CP P)(h':G.CP Q):P<+:Q∨Q<+:P:=by
 rcases h with rfl | ⟨t,h1,h2⟩
 ·exact .inl List.nil_prefix
 ·rcases h' with rfl | ⟨t',h1',h2'⟩
  ·exact .inr List.nil_prefix
  ·have key:∀{P Q:List Ent} {t t':Int},G.C t≠0→P<+:(G.L t).take (G.C t)→G.C t'≠0→Q<+:(G.L t').take (G.C t')→t≤t'→P<+:Q∨Q<+:P:=fun h1 h2 h1' h2' hle=>
    kQz (g.CT_L (.inr ⟨_,yQo _,h1,h2⟩) hle (g.C_ld h1')) (h2'.trans (gQu _ _))
   rcases Int.le_total t t' with hle | hle
   ·exact key h1 h2 h1' h2' hle
   ·exact(key h1' h2' h1 h2 hle).symm
end
end Go.Proofs.YtghoifolghelnaaGreat
/-
 What nodes and messages are,of what was; a step of one node.
 No condition beyond those that each theorem names.
-/
open Go.Sx
namespace Go.Proofs.YtghoifolghelnaaGreat
def uJc(i:Int):Byts:=[UInt8.ofNat (i.toNat / 256),UInt8.ofNat i.toNat]
structure NI(G:Gh)(N:Nat)(i:Nat)(n:Nd):Prop where
 right:qJl n
 size:n.size=N
 id:n.id=i+1
 bl:n.base.toNat≤(G.H i).length
 log:n.log=(G.H i).drop n.base.toNat
 bt:n.bt=tA (G.H i) n.base.toNat
 vote:(G.V n.term i:Int)=n.vote
 vnew:∀t,n.term<t→G.V t i=0
 lead:n.role=3→G.ld n.term=i+1∧G.H i=G.L n.term∧(G.C n.term:Int)≤n.commit∧∀k,k<N→n.mtch.getD k 0≤G.A n.term k
 cand:n.role=2→G.ld n.term≠i+1∧∀k,k<N→n.votes.getD k false=true→G.V n.term k=i+1
 utd:n.role=2→G.ld n.term=0→∀k,k<N→G.V n.term k=i+1→Utd (G.H i) (G.X n.term k)
 ct:G.CT n.term ((G.H i).take n.commit.toNat)
 st:(G.H i).take n.commit.toNat<+:G.S
 snap:0<n.base→n.snap=uJc n.base
structure MI(G:Gh)(N:Nat)(nd:Nat→Nd)(m:Msg):Prop where
 ok:∀n:Nd,n.id=m.dst→n.size=N→MsgP n m
 src:∃s,s<N∧m.src=s+1∧m.term≤(nd s).term∧
  (m.kind=1→G.V m.term s=s+1∧((nd s).term=m.term→(nd s).role=2→m.index=(G.H s).length∧m.lt=lst (G.H s)))∧
  (m.kind=2→m.ok=true→(G.V m.term s:Int)=m.dst)∧
  (m.kind=3→G.ld m.term=s+1∧m.index.toNat+m.ents.length≤(G.L m.term).length∧m.ents=((G.L m.term).drop m.index.toNat).take m.ents.length∧m.lt=tA (G.L m.term) m.index.toNat∧m.commit.toNat≤(G.L m.term).length∧G.CT m.term ((G.L m.term).take m.commit.toNat)∧(G.L m.term).take m.commit.toNat<+:G.S)∧
  (m.kind=5→G.ld m.term=s+1∧m.index.toNat≤(G.L m.term).length∧1≤m.index∧m.lt=tA (G.L m.term) m.index.toNat∧G.CT m.term ((G.L m.term).take m.index.toNat)∧(G.L m.term).take m.index.toNat<+:G.S∧m.snap=uJc m.index)∧
  (m.kind=4→m.ok=true→m.index≤G.A m.term s)
 dst:∃d,d<N∧m.dst=d+1
 rd:3≤m.kind→(m.round≠0→G.ld m.term≠0)∧∀k,k<N→(nd k).role=3→(nd k).term=m.term→m.round≤(nd k).round
 sh:m.kind≠3→m.ents=[]
structure INV(G:Gh)(N M:Nat)(nd:Nat→Nd)(bag:List Msg):Prop where
 gi:GI G N fun i=>(nd i).term
 ni:∀i,i<N→NI G N i (nd i)
 mi:∀m∈bag,MI G N nd m
 len:∀t,(G.L t).length≤M
def fu(nd:Nat→Nd)(i:Nat)(n:Nd):Nat→Nd:=fun k=>if k=i then n else nd k
theorem qJ8 {nd:Nat→Nd}{i:Nat}{n:Nd}:fu nd i n i=n:=if_pos rfl
theorem cJe {nd:Nat→Nd}{i k:Nat}{n:Nd}(h:k≠i):fu nd i n k=nd k:=if_neg h
structure Ext(G G':Gh)(i:Nat):Prop where
 L:∀t,G.L t<+:G'.L t
 ld:∀t,G.ld t≠0→G'.ld t=G.ld t∧G'.B t=G.B t
 Lo:∀t,G.ld t≠0→G.ld t≠i+1→G'.L t=G.L t∧G'.C t=G.C t
 nw:∀t,G.ld t=0→G'.ld t≠0→G'.ld t=i+1
 V:∀t k,G.V t k≠0→G'.V t k=G.V t k∧G'.X t k=G.X t k
 Vo:∀t k,k≠i→G'.V t k=G.V t k∧G'.X t k=G.X t k
 A:∀t k,G.A t k≤G'.A t k
 C:∀t,G.C t≤G'.C t
 Ho:∀k,k≠i→G'.H k=G.H k
 S:G.S<+:G'.S
section
variable {G G':Gh}{N M M' i j:Nat}{T:Nat→Int}{P Q:List Ent}{n n':Nd}{nd:Nat→Nd}{bag out:List Msg}{m:Msg}
theorem Ext.refl:Ext G G i:=⟨fun _=>gQf,fun _ _=>⟨rfl,rfl⟩,fun _ _ _=>⟨rfl,rfl⟩,fun _ h h'=>absurd h h',fun _ _ _=>⟨rfl,rfl⟩,fun _ _ _=>⟨rfl,rfl⟩,fun _ _=>yQm _,fun _=>yQm _,fun _ _=>rfl,gQf⟩
theorem Ext.trans {G'':Gh}(e:Ext G G' i)(e':Ext G' G'' i):Ext G G'' i:=by
 refine⟨fun t=>(e.L t).trans (e'.L t),fun t h=>?_,fun t h h2=>?_,fun t h h2=>?_,fun t k h=>?_,fun t k h=>?_,fun t k=>gQt (e.A t k) (e'.A t k),fun t=>gQt (e.C t) (e'.C t),fun k h=>(e'.Ho k h).trans (e.Ho k h),e.S.trans e'.S⟩
 ·obtain⟨a,b⟩:=e.ld t h;obtain⟨c,d⟩:=e'.ld t (by rw[a];exact h);exact⟨c.trans a,d.trans b⟩
 ·obtain⟨a,b⟩:=e.ld t h;obtain⟨c,d⟩:=e.Lo t h h2;obtain⟨c',d'⟩:=e'.Lo t (by rw[a];exact h) (by rw[a];exact h2);exact⟨c'.trans c,d'.trans d⟩
 ·by_cases h3:G'.ld t=0
  ·exact e'.nw t h3 h2
  ·rw[(e'.ld t h3).1];exact e.nw t h h3
 ·obtain⟨a,b⟩:=e.V t k h;obtain⟨c,d⟩:=e'.V t k (by rw[a];exact h);exact⟨c.trans a,d.trans b⟩
 ·obtain⟨a,b⟩:=e.Vo t k h;obtain⟨c,d⟩:=e'.Vo t k h;exact⟨c.trans a,d.trans b⟩
theorem Ext.CT(e:Ext G G' i)(g:GI G N T){t:Int}(h:G.CT t P):G'.CT t P:=by
 rcases h with rfl | ⟨t0,h0,h1,h2⟩
 ·exact .inl rfl
 ·have hc:=(g.com t0 h1).2.1;have:=e.C t0;refine .inr ⟨t0,h0,by omega,h2.trans ?_⟩;rw[←xJv (e.L t0) hc];exact zJ8 (e.C t0)
theorem Ext.CP(e:Ext G G' i)(g:GI G N T)(h:G.CP P):G'.CP P:=by
 rcases h with rfl | ⟨t0,h1,h2⟩
 ·exact .inl rfl
 ·exact(e.CT g (t:=t0) (.inr ⟨t0,yQo _,h1,h2⟩)).cp
theorem Ext.Pre(e:Ext G G' i)(h:G.Pre P):G'.Pre P:=⟨h.1,fun k h1 h2=>(h.2 k h1 h2).trans (e.L _)⟩
theorem NI.ext(h:NI G N j n)(e:Ext G G' i)(g:GI G N T)(hji:j≠i)(hv:G.V n.term i=0→G'.V n.term i=j+1→Utd (G.H j) (G'.X n.term i)):NI G' N j n:=by
 obtain⟨a1,a2,a3,a4,a5,a6,a7,a7b,a8,a9,a10,a11,a12,a13⟩:=h;have eH:=e.Ho j hji;refine⟨a1,a2,a3,by rw[eH];exact a4,by rw[eH];exact a5,by rw[eH];exact a6,by rw[(e.Vo n.term j hji).1];exact a7,fun t ht=>by rw[(e.Vo t j hji).1];exact a7b t ht,fun hr=>?_,fun hr=>?_,fun hr h0 k hk hV=>?_,by rw[eH];exact e.CT g a11,by rw[eH];exact a12.trans e.S,a13⟩
 ·obtain⟨b1,b2,b3,b4⟩:=a8 hr;obtain⟨c1,_⟩:=e.ld n.term (by omega);obtain⟨d1,d2⟩:=e.Lo n.term (by omega) (by omega);exact⟨by omega,by rw[eH,d1];exact b2,by rw[d2];exact b3,fun k hk=>by have:=b4 k hk;have:=e.A n.term k;omega⟩
 ·obtain⟨b1,b2⟩:=a9 hr;refine⟨fun h=>?_,fun k hk hv=>by
   have:=b2 k hk hv;rw[(e.V n.term k (by omega)).1];exact this⟩
  by_cases h0:G.ld n.term=0
  ·have:=e.nw n.term h0 (by omega);omega
  ·rw[(e.ld n.term h0).1]at h;exact b1 h
 ·have h0':G.ld n.term=0:=Classical.byContradiction fun h=>h (by rw[(e.ld n.term h).1]at h0;exact h0);rw[eH];by_cases hki:k=i
  ·subst hki;by_cases hV0:G.V n.term k=0
   ·exact hv hV0 hV
   ·obtain⟨c1,c2⟩:=e.V n.term k hV0;rw[c2];exact a10 hr h0' k hk (by rw[←c1];exact hV)
  ·obtain⟨c1,c2⟩:=e.Vo n.term k hki;rw[c2];exact a10 hr h0' k hk (by rw[←c1];exact hV)
theorem eJv {α:Type}{P Q:List α}(h:P<+:Q){a b:Nat}(hab:a+b≤P.length):(Q.drop a).take b=(P.drop a).take b:=by
 obtain⟨R,rfl⟩:=h;rw[List.drop_append_of_le_length (by omega),gQk (by rw[yQ3];omega)]
theorem MI.ext(h:MI G N nd m)(e:Ext G G' i)(g:GI G N T)(hi:i<N)(ht:(nd i).term≤n'.term)
  (hc:n'.role=2→n'.term=(nd i).term→(nd i).role=2∧G'.H i=G.H i)
  (hl:n'.role=3→((nd i).role=3∧n'.term=(nd i).term∧(nd i).round≤n'.round)∨(G.ld n'.term=0∧0≤n'.round)):MI G' N (fu nd i n') m:=by
 obtain⟨ok,⟨s,hs,hsrc,h0,k1,k2,k3,k5,k4⟩,hd,rd,sh⟩:=h;refine⟨ok,⟨s,hs,hsrc,?_,fun hk=>?_,fun hk hok=>?_,fun hk=>?_,fun hk=>?_,fun hk hok=>?_⟩,hd,fun hk=>?_,sh⟩
 ·unfold fu;split
  ·rename_i e;subst e;omega
  ·exact h0
 ·obtain⟨b1,b2⟩:=k1 hk;refine⟨by rw[(e.V m.term s (by omega)).1];exact b1,fun h1 h2=>?_⟩;by_cases hsi:s=i
  ·subst hsi;rw[qJ8]at h1 h2;obtain⟨c1,c2⟩:=hc h2 (by omega);rw[c2];exact b2 (by omega) c1
  ·rw[cJe hsi]at h1 h2;rw[e.Ho s hsi];exact b2 h1 h2
 ·have:=k2 hk hok;obtain⟨d,_,hd⟩:=hd;rw[(e.V m.term s (by omega)).1];exact this
 ·obtain⟨b1,b2,b3,b4,b5,b6,b7⟩:=k3 hk;have hL:=e.L m.term;have hle:=hL.length_le;refine⟨by rw[(e.ld m.term (by omega)).1];exact b1,by omega,?_,?_,by omega,?_,?_⟩
  ·rw[eJv hL b2];exact b3
  ·rw[vJ6 hL (by omega)];exact b4
  ·rw[xJv hL b5];exact e.CT g b6
  ·rw[xJv hL b5];exact b7.trans e.S
 ·obtain⟨b1,b2,b3,b4,b5,b6,b7⟩:=k5 hk;have hL:=e.L m.term;have hle:=hL.length_le;refine⟨by rw[(e.ld m.term (by omega)).1];exact b1,by omega,b3,?_,?_,?_,b7⟩
  ·rw[vJ6 hL b2];exact b4
  ·rw[xJv hL b2];exact e.CT g b5
  ·rw[xJv hL b2];exact b6.trans e.S
 ·have:=k4 hk hok;have:=e.A m.term s;omega
 ·obtain⟨b1,b2⟩:=rd hk;refine⟨fun h=>by have:=b1 h;rw[(e.ld m.term this).1];exact this,fun k hk2 hr htm=>?_⟩;by_cases hki:k=i
  ·subst hki;rw[qJ8]at hr htm ⊢;rcases hl hr with⟨c1,c2,c3⟩ | ⟨c1,c2⟩
   ·have:=b2 k hk2 c1 (by omega);omega
   ·by_cases h0:m.round=0
    ·omega
    ·exact absurd c1 (by rw[htm];exact b1 h0)
  ·rw[cJe hki]at hr htm ⊢;exact b2 k hk2 hr htm
theorem INV.sub(h:INV G N M nd bag)(hb:∀m∈out,m∈bag):INV G N M nd out:=⟨h.gi,h.ni,fun m hm=>h.mi m (hb m hm),h.len⟩
theorem INV.add(h:INV G N M nd bag)(hb:∀m∈out,MI G N nd m):INV G N M nd (bag++out):=⟨h.gi,h.ni,fun m hm=>(yQ1.1 hm).elim (h.mi m) (hb m),h.len⟩
theorem INV.step(h:INV G N M nd bag)(hi:i<N)(e:Ext G G' i)(g':GI G' N fun k=>(fu nd i n' k).term)(hn:NI G' N i n')(ht:(nd i).term≤n'.term)
  (hv:∀j,j<N→j≠i→G.V (nd j).term i=0→G'.V (nd j).term i=j+1→(nd j).role=2→G.ld (nd j).term=0→Utd (G.H j) (G'.X (nd j).term i))
  (hc:n'.role=2→n'.term=(nd i).term→(nd i).role=2∧G'.H i=G.H i)
  (hl:n'.role=3→((nd i).role=3∧n'.term=(nd i).term∧(nd i).round≤n'.round)∨(G.ld n'.term=0∧0≤n'.round)) (hlen:∀t,(G'.L t).length≤M'):INV G' N M' (fu nd i n') bag:=by
 refine⟨g',fun j hj=>?_,fun m hm=>(h.mi m hm).ext e h.gi hi ht hc hl,hlen⟩;by_cases hji:j=i
 ·subst hji;rw[qJ8];exact hn
 ·rw[cJe hji];have a:=h.ni j hj;by_cases hr:(nd j).role=2∧G.ld (nd j).term=0
  ·exact a.ext e h.gi hji fun h1 h2=>hv j hj hji h1 h2 hr.1 hr.2
  ·-- not a candidate of an open term: what votes are plays no part
   obtain⟨a1,a2,a3,a4,a5,a6,a7,a7b,a8,a9,a10,a11,a12,a13⟩:=a;have hb:NI {G with V:=G.V} N j (nd j):=⟨a1,a2,a3,a4,a5,a6,a7,a7b,a8,a9,a10,a11,a12,a13⟩;have eH:=e.Ho j hji;refine⟨a1,a2,a3,by rw[eH];exact a4,by rw[eH];exact a5,by rw[eH];exact a6,by rw[(e.Vo _ j hji).1];exact a7,fun t ht=>by rw[(e.Vo t j hji).1];exact a7b t ht,fun hr=>?_,fun hr2=>?_,fun hr2 h0=>?_,by rw[eH];exact e.CT h.gi a11,by rw[eH];exact a12.trans e.S,a13⟩
   ·obtain⟨b1,b2,b3,b4⟩:=a8 hr;obtain⟨c1,_⟩:=e.ld (nd j).term (by omega);obtain⟨d1,d2⟩:=e.Lo (nd j).term (by omega) (by omega);exact⟨by omega,by rw[eH,d1];exact b2,by rw[d2];exact b3,fun k hk=>by have:=b4 k hk;have:=e.A (nd j).term k;omega⟩
   ·obtain⟨b1,b2⟩:=a9 hr2;refine⟨fun h=>?_,fun k hk hv=>by
     have:=b2 k hk hv;rw[(e.V (nd j).term k (by omega)).1];exact this⟩
    by_cases h0:G.ld (nd j).term=0
    ·have:=e.nw (nd j).term h0 (by omega);omega
    ·rw[(e.ld (nd j).term h0).1]at h;exact b1 h
   ·have h0':G.ld (nd j).term=0:=Classical.byContradiction fun h=>h (by rw[(e.ld (nd j).term h).1]at h0;exact h0);exact absurd ⟨hr2,h0'⟩ hr
theorem GI.mono {T':Nat→Int}(g:GI G N T)(h:∀i,T i≤T' i):GI G N T':=by
 obtain⟨a1,a2,a3,a4,a5,a6,a7,a8,a9,a10,a11,a12,a13⟩:=g;refine⟨a1,a2,a3,a4,a5,fun i hi t k hk=>?_,fun t i hi=>⟨(a7 t i hi).1,fun h0=>gQy ((a7 t i hi).2 h0) (h i)⟩,fun t i ht=>gQy (a8 t i ht) (h i),fun t i hi hV=>⟨gQy (a9 t i hi hV).1 (h i),(a9 t i hi hV).2⟩,a10,fun i hi=>⟨(a11 i hi).1,fun e he=>gQy ((a11 i hi).2 e he) (h i)⟩,a12,a13⟩;rcases a6 i hi t k hk with h1 | ⟨t2,h1,h2,h3⟩
 ·exact .inl h1
 ·exact .inr ⟨t2,h1,gQy h2 (h i),h3⟩
theorem wJf(ht:(nd i).term≤n'.term):∀k,(nd k).term≤(fu nd i n' k).term:=fun k=>by
 unfold fu;split
 ·rename_i e;subst e;exact ht
 ·exact yQo _
theorem INV.node(h:INV G N M nd bag)(hi:i<N)(hn:NI G N i n')(ht:(nd i).term≤n'.term)
  (hc:n'.role=2→n'.term=(nd i).term→(nd i).role=2)
  (hl:n'.role=3→(nd i).role=3∧n'.term=(nd i).term∧(nd i).round≤n'.round):INV G N M (fu nd i n') bag:=
 h.step hi Ext.refl (h.gi.mono (wJf ht)) hn ht (fun j _ _ h1 h2=>absurd h1 (by omega)) (fun a b=>⟨hc a b,rfl⟩) (fun a=> .inl (hl a)) h.len
/-! ### What a node's numbers say of its whole log -/
theorem NI.lastI(h:NI G N i n):qJi n=(G.H i).length:=by
 have h1:=h.bl;have h2:=h.right.base;unfold qJi;rw[h.log,yQ3];omega
theorem NI.tAt(h:NI G N i n){x:Int}(h1:n.base≤x)(h2:x≤(G.H i).length):termAt n.base n.bt (n.log.map (·.1)) x=(tA (G.H i) x.toNat,true):=by
 have h3:=h.right.base;have h4:=h.bl;unfold Go.Proofs.YtghoifolghelnaaGreat.termAt;by_cases e:x=n.base
 ·rw[if_pos e,h.bt,e]
 ·have hl:n.log.length=(G.H i).length - n.base.toNat:=by rw[h.log,yQ3]
  rw[if_neg e,if_neg (by rw[yQr];omega)];congr 1;rw[yQj,gQn,h.log,gQj,show n.base.toNat+(x - n.base - 1).toNat=x.toNat - 1 by omega];unfold tA;rw[if_neg (by omega),yQj,yQn (by omega)];rfl
theorem NI.tAt_ok(h:NI G N i n){x:Int}(h1:(Go.Proofs.YtghoifolghelnaaGreat.termAt n.base n.bt (n.log.map (·.1)) x).2=true):n.base≤x∧x≤(G.H i).length:=by
 have:=dJp h1;have hl:=h.lastI;unfold qJi at hl;rw[yQr]at this;omega
theorem NI.lastTm(h:NI G N i n):lastT n=lst (G.H i):=by
 have h1:=h.lastI;have h2:=h.bl;have h3:=h.right.base;unfold Go.Proofs.YtghoifolghelnaaGreat.lastT;rw[h1,h.tAt (by omega) (yQo _)];rfl
end
end Go.Proofs.YtghoifolghelnaaGreat
