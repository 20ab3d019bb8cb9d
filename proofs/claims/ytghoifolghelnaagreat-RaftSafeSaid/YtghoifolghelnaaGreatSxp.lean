/-
 Reading the abstract memory,new memory,rows that grow or are written: what a formula needs.
 No condition beyond those that each theorem names.
-/
import Derived.Test.YtghoifolghelnaaGreatSxu
set_option linter.unusedVariables false
set_option linter.unusedSimpArgs false
/-! Reading memory, new memory: what a function's formula needs. -/
namespace Go.Sx
structure Mem(w:AW):Prop where
 lt:∀b o,w.get b=some o→b<w.size
 fam:∀b cs f own d,w.get b=some (.cells cs f own d)→f≤b
structure Fr(n:Nat)(w w':AW):Prop where
 size:w.size≤w'.size
 old:∀b,b<n→w'.get b=w.get b
 mem:Mem w'
theorem Fr.refl {n:Nat}{w:AW}(h:Mem w):Fr n w w:=⟨yQm _,fun _ _=>rfl,h⟩
theorem Fr.trans {n m:Nat}{w w1 w2:AW}(h:Fr n w w1)(h':Fr m w1 w2)(hm:n≤m):Fr n w w2:=
 ⟨gQt h.size h'.size,fun b hb=>(h'.old b (Nat.lt_of_lt_of_le hb hm)).trans (h.old b hb),h'.mem⟩
theorem Fr.trans' {n:Nat}{w w1 w2:AW}(h:Fr n w w1)(h':Fr w1.size w1 w2)(hn:n≤w.size):Fr n w w2:=h.trans h' (gQt hn h.size)
theorem Fr.le {n m:Nat}{w w':AW}(h:Fr n w w')(hm:m≤n):Fr m w w':=⟨h.size,fun b hb=>h.old b (Nat.lt_of_lt_of_le hb hm),h.mem⟩
theorem Mem.cells_fam {w:AW}(h:Mem w){b:Nat}{cs:List AV}(hc:w.cells? b=some cs):∃x,w.fam? b=some x∧b<w.size∧x.1≤b:=by
 obtain⟨x,o,d,h1,h2,h3⟩:=AW.cells?_iff.1 hc;exact⟨x,h1,h.lt _ _ h3,h.fam _ _ _ _ _ h3⟩
theorem Fr.cells {n:Nat}{w w':AW}(h:Fr n w w')(hm:Mem w){b:Nat}{cs:List AV}(hc:w.cells? b=some cs)(hn:w.size≤n):w'.cells? b=some cs:=by
 obtain⟨x,h1,h2,h3⟩:=hm.cells_fam hc;rw[AW.cells?_congr h1 (h.old b (by omega)) (h.old x.1 (by omega))];exact hc
theorem Fr.map {n:Nat}{w w':AW}(h:Fr n w w')(hm:Mem w){r:Nat}{m:List (AV×AV)×Nat}(hc:xJk w r=some m)(hn:w.size≤n):xJk w' r=some m:=by
 unfold xJk at *
 cases hg:w.get r with
 | none=>rw[hg]at hc;cases hc
 | some o=>rw[h.old r (by have:=hm.lt _ _ hg;omega)];exact hc
def Rs(w:AW)(sz n:Nat)(v:AV)(cs:List AV):Prop:=
 (v= .nilslice∧n=0∧cs=[])∨∃b o cap ex all,v= .slice b o n cap ex∧w.cells? b=some all∧o+n * sz≤all.length∧cs=(all.drop o).take (n * sz)
theorem Rs.fr {w w':AW}{sz n k:Nat}{v:AV}{cs:List AV}(h:Rs w sz n v cs)(hm:Mem w)(hf:Fr k w w')(hk:w.size≤k):Rs w' sz n v cs:=by
 rcases h with h | ⟨b,o,cap,ex,all,h1,h2,h3,h4⟩
 ·exact .inl h
 ·exact .inr ⟨b,o,cap,ex,all,h1,hf.cells hm h2 hk,h3,h4⟩
theorem Rs.length {w:AW}{sz n:Nat}{v:AV}{cs:List AV}(h:Rs w sz n v cs):cs.length=n * sz:=by
 rcases h with⟨_,rfl,rfl⟩ | ⟨b,o,cap,ex,all,h1,h2,h3,rfl⟩
 ·simp
 ·simp;omega
theorem Rs.nil {w:AW}{sz:Nat}:Rs w sz 0 .nilslice []:= .inl ⟨rfl,rfl,rfl⟩
theorem Rs.len {w:AW}{sz n:Nat}{v:AV}{cs:List AV}(h:Rs w sz n v cs):lenS v=some (.int .i64 n):=by
 rcases h with⟨rfl,rfl,rfl⟩ | ⟨b,o,cap,ex,all,rfl,_⟩<;>rfl
theorem Rs.ok {w:AW}{sz n:Nat}{v:AV}{cs:List AV}(h:Rs w sz n v cs):qJc v=true:=by
 rcases h with⟨rfl,rfl,rfl⟩ | ⟨b,o,cap,ex,all,rfl,_⟩<;>rfl
theorem qJ6 {cs:List AV}{o n:Nat}(h:o+n≤cs.length):qJz cs o n=some ((cs.drop o).take n):=by
 unfold qJz;rw[if_pos h]
theorem Rs.read {w:AW}{sz n:Nat}{v:AV}{cs:List AV}(h:Rs w sz n v cs):zJp w sz v=some (n,cs):=by
 rcases h with⟨rfl,rfl,rfl⟩ | ⟨b,o,cap,ex,all,rfl,h2,h3,rfl⟩
 ·rfl
 ·simp only[zJp,AW.read,h2,qJ6 h3,Option.map_some]
theorem Rs.at {w:AW}{sz n:Nat}{v:AV}{cs:List AV}(h:Rs w sz n v cs){i:Int}(h0:0≤i)(h1:i<n){K:Nat→Nat→Prop}
  (hK:∀b o,(∀f,f<sz→ld w b (o+f)=cs[i.toNat * sz+f]?)→(ldN sz w b o=some (.agg ((cs.drop (i.toNat * sz)).take sz)))→K b o):atP (idxS sz v (.int .i64 i)) K:=by
 rw[vJg];rcases h with⟨rfl,rfl,rfl⟩ | ⟨b,o,cap,ex,all,rfl,h2,h3,rfl⟩
 ·exact absurd h1 (by simp;omega)
 ·obtain⟨k,rfl⟩:=yQ8 h0;have hk:k<n:=by omega
  have hmul:(k+1) * sz≤n * sz:=yQ7 _ hk;rw[gQl,Nat.one_mul]at hmul;have hb:Nat.blt k n=true:=by simp[gQm,hk]
  have hk':Int.toNat (k:Int)=k:=rfl;refine⟨b,o+k * sz,?_,hK _ _ (fun f hf=>?_) ?_⟩
  ·show(asN (.int .i64 (Int.ofNat k))).bind _=_;simp only[asN,Option.bind_some,hb,qJf,cond_true]
  ·simp only[ld,h2,Option.bind_some,hk'];rw[gQr (by omega),gQj];congr 1;omega
  ·simp only[ldN,h2,Option.bind_some,hk'];rw[qJ6 (by omega)];simp only[Option.map_some,yQx,AV.agg.injEq];rw[←gQs,List.drop_take,List.take_take,Nat.min_eq_left (by omega)]
/-! ### New memory -/
theorem Mem.push {w:AW}(h:Mem w){o:AO}(ho:∀cs f own d,o= .cells cs f own d→f≤w.size):Mem (w.push o):=by
 constructor
 ·intro b x hx;rw[AW.push_get]at hx;split at hx
  ·rename_i e;subst e;simp
  ·have:=h.lt _ _ hx;simp;omega
 ·intro b cs f own d hx;rw[AW.push_get]at hx;split at hx
  ·rename_i e;subst e;exact ho _ _ _ _ (gQb hx)
  ·exact h.fam _ _ _ _ _ hx
theorem Fr.push {w:AW}(h:Mem w){o:AO}(ho:∀cs f own d,o= .cells cs f own d→f≤w.size):Fr w.size w (w.push o):=
 ⟨by simp,fun b hb=>by simp[Nat.ne_of_lt hb],h.push ho⟩
def Box(w:AW)(b:Nat)(cs:List AV):Prop:=w.get b=some (.cells cs b b false)
theorem Box.cells {w:AW}{b:Nat}{cs:List AV}(h:Box w b cs):w.cells? b=some cs:=by
 have hr:w.root? b=some (b,b,false):=AW.root?_iff.2 ⟨cs,h,rfl⟩;exact AW.cells?_iff.2 ⟨(b,b,false),b,false,AW.fam?_iff.2 ⟨cs,b,false,h,hr⟩,.inl rfl,h⟩
theorem Box.fam {w:AW}{b:Nat}{cs:List AV}(h:Box w b cs):w.fam? b=some (b,b,false):=
 AW.fam?_iff.2 ⟨cs,b,false,h,AW.root?_iff.2 ⟨cs,h,rfl⟩⟩
theorem Box.ld {w:AW}{b o:Nat}{cs:List AV}(h:Box w b cs):Sx.ld w b o=cs[o]? :=by simp[Sx.ld,h.cells]
theorem Box.lt {w:AW}{b:Nat}{cs:List AV}(h:Box w b cs)(hm:Mem w):b<w.size:=hm.lt _ _ h
theorem Box.fr {w w':AW}{b n:Nat}{cs:List AV}(h:Box w b cs)(hf:Fr n w w')(hb:b<n):Box w' b cs:=(hf.old b hb).trans h
theorem Box.ldN {w:AW}{b o n:Nat}{cs:List AV}(h:Box w b cs)(hn:o+n≤cs.length):Sx.ldN n w b o=some (.agg ((cs.drop o).take n)):=by
 simp[Sx.ldN,h.cells,qJ6 hn]
theorem new_of {w:AW}{cs:List AV}{K:Nat→AW→Prop}(hm:Mem w)(h:∀w',Fr w.size w w'→Box w' w.size cs→w'.size=w.size+1→K w.size w'):new w cs K:=
 h _ (Fr.push hm fun cs' f own d e=>by cases e;exact yQm _) (by simp[Box,newCells,qJ4]) (by simp[newCells])
theorem Box.put {w:AW}{b o:Nat}{cs vs:List AV}(h:Box w b cs)(hb:b≠0)(hl:o+vs.length≤cs.length):w.putCells b o vs=some (w.set b (.cells (qJg cs o vs) b b false)):=by
 unfold AW.putCells;rw[h.fam,h.cells];simp only[];rw[if_neg (by omega),if_pos (by simp)];unfold AW.setCs;have h:w.get b=some (.cells cs b b false):=h;rw[h]
theorem Mem.set {w:AW}(h:Mem w){b:Nat}{o:AO}(hb:b<w.size)(ho:∀cs f own d,o= .cells cs f own d→f≤b):Mem (w.set b o):=by
 constructor
 ·intro c x hx;rw[AW.set_get]at hx;split at hx
  ·rename_i e;subst e;exact hb
  ·exact h.lt _ _ hx
 ·intro c cs f own d hx;rw[AW.set_get]at hx;split at hx
  ·rename_i e;subst e;exact ho _ _ _ _ (gQb hx)
  ·exact h.fam _ _ _ _ _ hx
structure Ch(X:List Nat)(w w':AW):Prop where
 size:w.size≤w'.size
 old:∀b,b<w.size→b∉X→w'.get b=w.get b
 mem:Mem w'
theorem Ch.set {w:AW}(h:Mem w){b:Nat}{o:AO}(hb:b<w.size)(ho:∀cs f own d,o= .cells cs f own d→f≤b):Ch [b] w (w.set b o):=
 ⟨yQm _,fun c _ hx=>by simp at hx;simp[hx],h.set hb ho⟩
def Acc(n0:Nat)(w:AW)(sz:Nat)(v:AV)(cs:List AV):Prop:=
 (v= .nilslice∧cs=[])∨∃b f n o d,v= .slice b 0 n n (some sz)∧n * sz=cs.length∧0<n∧n0≤f∧f≠0∧w.get b=some (.cells cs f o d)∧w.root? f=some (f,b,false)
theorem Acc.nil {n0:Nat}{w:AW}{sz:Nat}:Acc n0 w sz .nilslice []:= .inl ⟨rfl,rfl⟩
theorem Acc.fr {n0:Nat}{w w':AW}{sz:Nat}{v:AV}{cs:List AV}(h:Acc n0 w sz v cs)(hm:Mem w){k:Nat}(hf:Fr k w w')(hk:w.size≤k):Acc n0 w' sz v cs:=by
 rcases h with h | ⟨b,f,n,o,d,h0,h1,hn,h2,h3,h4,h5⟩
 ·exact .inl h
 ·obtain⟨c,hc,_⟩:=AW.root?_iff.1 h5;have hb:=hm.lt _ _ h4;have hf':=hm.lt _ _ hc;exact .inr ⟨b,f,n,o,d,h0,h1,hn,h2,h3,(hf.old b (by omega)).trans h4,by rw[AW.root?_congr (hf.old f (by omega))];exact h5⟩
def blk:AV→Option Nat
 | .slice b _ _ _ _=>some b
 | _=>none
structure Grow(n0:Nat)(v v':AV)(w w':AW):Prop where
 fr:Fr n0 w w'
 cells:∀c all,w.cells? c=some all→w'.cells? c=some all
 maps:∀r m,xJk w r=some m→xJk w' r=some m
 box:∀c cs,Box w c cs→blk v≠some c→Box w' c cs
 acc:∀s2 v2 c2,Acc n0 w s2 v2 c2→blk v2≠blk v→Acc n0 w' s2 v2 c2
 obj:∀c o,w.get c=some o→(∀cs f own d,o≠ .cells cs f own d)→w'.get c=some o
 blk:∀c,blk v'=some c→c<w.size→v'=v
theorem Acc.app {n0:Nat}{w:AW}{sz bytes:Nat}{v x:AV}{cs new:List AV}{k:Nat}(h:Acc n0 w sz v cs)(hm:Mem w)(hn0:n0≤w.size)(hw:0<w.size)(hs:0<sz)(hx:Rs w sz k x new)
    (hb:(2 * (cs.length / sz+k)+1000) * bytes<2^48) (hb2:cs.length / sz+k<2^62) {K:AV→AW→Prop}
    (hK:∀v' w',Acc n0 w' sz v' (cs++new)→Grow n0 v v' w w'→K v' w'):onE (appS sz bytes w v x) K:=by
  rw[yJw];have hl:=hx.length;by_cases hk:k=0
  · subst hk
    have hnil:new=[]:=by simpa using hl
    subst hnil;refine⟨v,w,?_,hK v w (by simpa using h) ⟨Fr.refl hm,fun _ _ h=>h,fun _ _ h=>h,fun _ _ h _=>h,fun _ _ _ h _=>h,fun _ _ h _=>h,fun _ _ _=>rfl⟩⟩;simp only[appS,hx.read,Option.bind_some];rcases h with⟨rfl,_⟩ | ⟨b,f,n,o,d,rfl,_⟩<;>rfl
  have hk0:Nat.beq k 0=false:=zJ5 hk;have hsz:(!Nat.beq sz 0)=true:=by rw[zJ5 (by omega)];rfl
  have hsrc:fJw x new=true:=by
    rcases hx with⟨rfl,rfl,_⟩ | ⟨b,o,cap,ex,all,rfl,_⟩
    · exact absurd rfl hk
    · rfl
  have hnb:k * bytes≤(2 * (cs.length / sz+k)+1000) * bytes:=yQ7 _ (by generalize cs.length / sz=q;omega);rcases h with⟨rfl,rfl⟩ | ⟨b,f,n,o,d,rfl,h1,hn,h2,h3,h4,h5⟩
  · refine⟨.slice w.size 0 k k (some sz),newCells w new,?_,hK _ _ ?_ ?_⟩
    · simp only[appS,hx.read,Option.bind_some,hk0,cond_false,hsz,hsrc,Bool.true_and,qJf,cond_true]
      have e1:Nat.ble (k * bytes) room=true:=by rw[Nat.ble_eq];unfold room;omega
      have e2:Nat.blt k (2^62)=true:=by rw[gQm];simp at hb2;omega
      rw[e1,e2];rfl
    · have hb:Box (newCells w new) w.size new:=by simp[Box,newCells,qJ4]
      exact .inr ⟨w.size,w.size,k,w.size,false,rfl,by simp[hl],by omega,hn0,by omega,hb,AW.root?_iff.2 ⟨_,hb,rfl⟩⟩
    · have hfr:Fr w.size w (newCells w new):=Fr.push hm fun cs' f own d e=>by cases e;exact yQm _
      exact⟨hfr.le hn0,fun c all h=>hfr.cells hm h (yQm _),fun r m h=>hfr.map hm h (yQm _),fun c cs h _=>h.fr hfr (h.lt hm),fun s2 v2 c2 h _=>h.fr hm hfr (yQm _),fun c o h _=>(hfr.old c (hm.lt _ _ h)).trans h,fun c hc hlt=>by
        simp only[Sx.blk,yQx]at hc;omega⟩
  · have hdiv:cs.length / sz=n:=by rw[←h1];exact gQ2 _ hs
    rw[hdiv]at hb hb2;obtain⟨c0,hc0,_⟩:=AW.root?_iff.1 h5;simp only[]at hc0;have hblt:=hm.lt _ _ h4;have hflt:=hm.lt _ _ hc0;have hfam:w.fam? b=some (f,b,false):=AW.fam?_iff.2 ⟨cs,o,d,h4,h5⟩;have hcells:w.cells? b=some cs:=AW.cells?_iff.2 ⟨(f,b,false),o,d,hfam, .inl rfl,h4⟩
    -- the memory behind
    let w1:=w.set f (.cells c0 f w.size false)
    let w':=w1.push (.cells (cs++new) f 0 false)
    have hset:w.setFam f w.size false=w1:=by unfold AW.setFam;rw[hc0]
    have happ:appS sz bytes w (.slice b 0 n n (some sz)) x=some (.slice w.size 0 (n+k) (n+k) (some sz),w'):=by
      simp only[appS,hx.read,Option.bind_some,hk0,cond_false,hsz,hsrc,Bool.true_and,qJf,cond_true];have e0:Nat.ble (n+k) n=false:=by
        cases he:Nat.ble (n+k) n with
        | false=>rfl
        | true=>rw[Nat.ble_eq]at he;omega
      have e1:Nat.blt ((2 * (n+k)+1000) * bytes) room=true:=by rw[gQm];unfold room;exact hb
      have e2:Nat.blt (n+k) (2^62)=true:=by rw[gQm];exact hb2
      rw[e0,e1,e2];simp only[cond_false,Bool.and_self,cond_true,bJv,hcells,Option.bind_some];rw[qJ6 (by omega)];simp only[Option.bind_some,Nat.beq_refl,qJf,Bool.true_and];have e3:Nat.beq (0+n * sz) cs.length=true:=by rw[Nat.zero_add,h1];simp
      rw[e3];have e4:(cs.drop 0).take (n * sz)=cs:=by rw[h1];simp
      simp only[cond_true,e4,AW.heir,hfam];rw[if_pos ⟨h3,trivial⟩];rw[hset];rfl
    have hm1:Mem w1:=hm.set hflt fun cs f own d e=>by cases e;exact yQm _
    have hm':Mem w':=hm1.push fun cs f own d e=>by cases e;simpa [w1]using Nat.le_of_lt hflt
    have hget:∀c,w'.get c=if c=w.size then some (.cells (cs++new) f 0 false)else if c=f then some (.cells c0 f w.size false)else w.get c:=fun c=>by
      simp only[w',w1,AW.push_get,AW.set_get,AW.set_size]
    have hroot:w'.root? f=some (f,w.size,false):=AW.root?_iff.2 ⟨c0,by rw[hget,if_neg (by omega),if_pos rfl],rfl⟩;have hcellsK:∀c all,w.cells? c=some all→w'.cells? c=some all:=fun c all h=>by
      obtain⟨y,o',d',g1,g2,g3⟩:=AW.cells?_iff.1 h;have hclt:=hm.lt _ _ g3;by_cases hyf:y.1=f
      · refine AW.cells?_iff.2 ⟨(f,w.size,false),if c=f then w.size else o',if c=f then false else d',AW.fam?_iff.2 ⟨all,if c=f then w.size else o',if c=f then false else d',?_,hroot⟩, .inl rfl,?_⟩
        all_goals
          rw[hget,if_neg (by omega)];by_cases hcf:c=f
          · subst hcf
            rw[if_pos rfl,if_pos rfl,if_pos rfl];rw[hc0]at g3;cases g3;rfl
          · rw[if_neg hcf,if_neg hcf,if_neg hcf]
            rw[g3,hyf]
      · have hylt:y.1<w.size:=Nat.lt_of_le_of_lt (hm.fam _ _ _ _ _ g3) hclt
        have hcf:c≠f:=fun e=>by
          subst e;rw[hc0]at g3;cases g3;exact hyf rfl
        rw[AW.cells?_congr g1 (by rw[hget,if_neg (by omega),if_neg hcf]) (by rw[hget,if_neg (by omega),if_neg hyf])];exact h
    refine⟨_,w',happ,hK _ _ ?_ ⟨⟨by simp[w',w1],fun c hc=>?_,hm'⟩,hcellsK,fun r m hr=>?_,fun c cs' hc hne=>?_,fun s2 v2 c2 ha hne=>?_,fun c ob hg hno=>?_,fun c hc hlt=>?_⟩⟩
    · refine .inr ⟨w.size,f,n+k,0,false,rfl,?_,by omega,h2,h3,?_,hroot⟩
      · rw[gQl,yQs,h1,hl]
      · rw[hget,if_pos rfl]
    · rw[hget,if_neg (by omega),if_neg (by omega)]
    · unfold xJk at *
      cases hg:w.get r with
      | none=>rw[hg]at hr;cases hr
      | some ob=>
        have hrl:=hm.lt _ _ hg;have hrf:r≠f:=fun e=>by subst e;rw[hc0]at hr;cases hr
        rw[hget,if_neg (by omega),if_neg hrf];exact hr
    · have hcl:=hc.lt hm
      have hcf:c≠f:=fun e=>by
        subst e;have hc':w.get c=some (.cells cs' c c false):=hc;rw[hc0]at hc';cases hc';exact hne rfl
      unfold Box;rw[hget,if_neg (by omega),if_neg hcf];exact hc
    · rcases ha with ha | ⟨b2,f2,n2,o2,d2,rfl,g1,g2,g3,g4,g5,g6⟩
      · exact .inl ha
      · obtain⟨c2',hc2,_⟩:=AW.root?_iff.1 g6
        simp only[]at hc2;have hb2l:=hm.lt _ _ g5;have hf2l:=hm.lt _ _ hc2;have hff:f2≠f:=fun e=>by
          subst e;rw[hc0]at hc2;cases hc2;exact hne rfl
        have hbf:b2≠f:=fun e=>by
          subst e;rw[hc0]at g5;cases g5;exact hff rfl
        refine .inr ⟨b2,f2,n2,o2,d2,rfl,g1,g2,g3,g4,by rw[hget,if_neg (by omega),if_neg hbf];exact g5,AW.root?_iff.2 ⟨c2',by rw[hget,if_neg (by omega),if_neg hff];exact hc2,rfl⟩⟩
    · have hcl:=hm.lt _ _ hg
      have hcf:c≠f:=fun e=>by
        subst e;rw[hc0]at hg;cases hg;exact hno _ _ _ _ rfl
      rw[hget,if_neg (by omega),if_neg hcf];exact hg
    · simp only[Sx.blk,yQx]at hc;omega
end Go.Sx
namespace Go.Sx
/-! ### Numbers -/
theorem qJq {x:Int}(h1:-9223372036854775808≤x)(h2:x<9223372036854775808):wi x=x:=by
 have:wi x=(x+9223372036854775808) % 18446744073709551616 - 9223372036854775808:=by
  simp only[wi,IntKind.wrap,IntKind.bits,IntKind.signed,Bool.true_and,decide_eq_true_eq];simp only[show(2^64:Int)=18446744073709551616 from rfl,show((2:Int)^(64 - 1))=9223372036854775808 from rfl];by_cases h:x % 18446744073709551616≥9223372036854775808
  ·rw[if_pos (decide_eq_true h)];omega
  ·rw[if_neg (by simpa using h)];omega
 rw[this];omega
theorem qJ3 {A B:Prop}(h:A):ifT true A B:=h
theorem qJ0 {A B:Prop}(h:B):ifT false A B:=h
theorem qJh {p:Prop}[Decidable p]{A B:Prop}(h1:p→A)(h2:¬ p→B):ifT (decide p) A B:=by
 by_cases h:p
 ·rw[decide_eq_true h];exact h1 h
 ·rw[decide_eq_false h];exact h2 h
theorem vJv {p:Prop}[Decidable p]{A B:Prop}(h1:¬ p→A)(h2:p→B):ifT (!decide p) A B:=by
 by_cases h:p
 ·rw[decide_eq_true h];exact h2 h
 ·rw[decide_eq_false h];exact h1 h
theorem gd_t {A:Prop}{b:Bool}(hb:b=true)(h:A):gd b A:=by rw[hb];exact h
theorem qJd {α:Type}{x:Option α}{K:α→Prop}{v:α}(h:x=some v)(hK:K v):onM x K:=by rw[h];exact hK
theorem yJv {x:Option (AV×AW)}{K:AV→AW→Prop}{v:AV}{w:AW}(h:x=some (v,w))(hK:K v w):onE x K:=by rw[h];exact hK
def RsI(w:AW)(v:AV)(l:List Int):Prop:=Rs w 1 l.length v (l.map (AV.int .i64))
theorem RsI.len {w:AW}{v:AV}{l:List Int}(h:RsI w v l):lenS v=some (.int .i64 l.length):=Rs.len h
theorem RsI.fr {w w':AW}{v:AV}{l:List Int}(h:RsI w v l)(hm:Mem w){k:Nat}(hf:Fr k w w')(hk:w.size≤k):RsI w' v l:=Rs.fr h hm hf hk
theorem RsI.at {w:AW}{v:AV}{l:List Int}(h:RsI w v l){i:Int}(h0:0≤i)(h1:i<l.length){K:Nat→Nat→Prop}
  (hK:∀b o,ld w b o=some (.int .i64 (l.getD i.toNat 0))→K b o):atP (idxS 1 v (.int .i64 i)) K:=
 Rs.at h h0 h1 fun b o hf _=>hK b o (by
  have h2:=hf 0 (by omega);rw[Nat.add_zero]at h2;rw[h2,Nat.mul_one,Nat.add_zero,gQn,yQj,yQn (by omega)];rfl)
theorem RsI.atN {w:AW}{v:AV}{l:List Int}(h:RsI w v l){i:Nat}(h1:i<l.length){K:Nat→Nat→Prop}
  (hK:∀b o,ld w b o=some (.int .i64 l[i])→K b o):atP (idxS 1 v (.int .i64 (i:Int))) K:=
 h.at (by omega) (by omega) fun b o hl=>hK b o (by rw[hl];simp[yQj,h1])
end Go.Sx
/-! A slice of one's own numbers, written in its place. -/
namespace Go.Sx
def Own(n0:Nat)(w:AW)(sz:Nat)(v:AV)(cs:List AV):Prop:=
 (v= .nilslice∧cs=[])∨∃b n cap ex f o d dd,v= .slice b 0 n cap ex∧n * sz=cs.length∧n0≤f∧f≠0∧w.get b=some (.cells cs f o d)∧w.root? f=some (f,b,dd)
theorem Acc.own {n0:Nat}{w:AW}{sz:Nat}{v:AV}{cs:List AV}(h:Acc n0 w sz v cs):Own n0 w sz v cs:=by
 rcases h with h | ⟨b,f,n,o,d,h1,h2,h3,h4,h5,h6,h7⟩
 ·exact .inl h
 ·exact .inr ⟨b,n,n,some sz,f,o,d,false,h1,h2,h4,h5,h6,h7⟩
theorem Own.rs {n0:Nat}{w:AW}{sz:Nat}{v:AV}{cs:List AV}(h:Own n0 w sz v cs)(hs:0<sz):Rs w sz (cs.length / sz) v cs:=by
 rcases h with⟨rfl,rfl⟩ | ⟨b,n,cap,ex,f,o,d,dd,rfl,h1,_,h2,h3,h4⟩
 ·exact .inl ⟨rfl,by simp,rfl⟩
 ·have:cs.length / sz=n:=by rw[←h1];exact gQ2 _ hs
  rw[this];refine .inr ⟨b,0,cap,ex,cs,rfl,AW.cells?_iff.2 ⟨(f,b,dd),o,d,AW.fam?_iff.2 ⟨cs,o,d,h3,h4⟩,.inr rfl,h3⟩,by omega,?_⟩;simp[h1]
theorem Own.put {n0:Nat}{w:AW}{sz b n cap:Nat}{ex:Option Nat}{cs vs:List AV}{i:Nat}(h:Own n0 w sz (.slice b 0 n cap ex) cs)(hm:Mem w)(hl:i+vs.length≤cs.length):
  ∃w',w.putCells b i vs=some w'∧Fr n0 w w'∧Own n0 w' sz (.slice b 0 n cap ex) (qJg cs i vs)∧w'.size=w.size:=by
 rcases h with⟨h,_⟩ | ⟨b',n',cap',ex',f,o,d,dd,h0,h1,h2,h3,h4,h5⟩
 ·cases h
 cases h0;have hfam:w.fam? b=some (f,b,dd):=AW.fam?_iff.2 ⟨cs,o,d,h4,h5⟩;have hcells:w.cells? b=some cs:=AW.cells?_iff.2 ⟨(f,b,dd),o,d,hfam,.inr rfl,h4⟩;have hex:∃w',w.putCells b i vs=some w':=by
  unfold AW.putCells;rw[hfam,hcells];simp only[];rw[if_neg (by omega)];split<;>exact⟨_,rfl⟩
 obtain⟨w',hw⟩:=hex;have hlen:(qJg cs i vs).length=cs.length:=by simp[qJg];omega
 obtain⟨c0,hc0,_⟩:=AW.root?_iff.1 h5;simp only[]at hc0;have hfb:=hm.fam _ _ _ _ _ h4;have hbl:=hm.lt _ _ h4;obtain⟨f',own',dirty',cs',own1,dirty1,cs0,g1,g2,g3,g4,g5,g6,g7,g8⟩:=vJu hw;rw[hfam]at g1;cases g1;rw[hcells]at g2;cases g2;rw[h4]at g6;cases g6;refine⟨w',hw,?_,?_,g5⟩
 ·-- the frame
  have hget:∀c,c≠b→c≠f→w'.get c=w.get c:=fun c hc hcf=>by
   rcases g8 with⟨_,_,_,g⟩ | ⟨_,_,g⟩ | ⟨_,g⟩<;>simp[g,hc,hcf]
  refine⟨by omega,fun c hc=>hget c (by omega) (by omega),?_⟩;constructor
  ·intro c x hx;by_cases hcb:c=b
   ·subst hcb;omega
   ·by_cases hcf:c=f
    ·subst hcf;omega
    ·rw[hget c hcb hcf]at hx;have:=hm.lt _ _ hx;omega
  ·intro c cs2 f2 o2 d2 hx;rcases g8 with⟨e1,_,_,g⟩ | ⟨_,e1,g⟩ | ⟨_,g⟩<;>rw[g]at hx
   ·split at hx
    ·rename_i e;cases hx;omega
    ·exact hm.fam _ _ _ _ _ hx
   ·split at hx
    ·rename_i e;cases hx;omega
    ·exact hm.fam _ _ _ _ _ hx
   ·split at hx
    ·rename_i e;cases hx;omega
    ·split at hx
     ·rename_i e;cases hx;omega
     ·exact hm.fam _ _ _ _ _ hx
 ·rcases g8 with⟨e1,_,_,g⟩ | ⟨_,e1,g⟩ | ⟨e1,g⟩
  ·subst e1;refine .inr ⟨f,n,cap,ex,f,f,false,false,rfl,by rw[hlen,h1],h2,h3,by rw[g];simp,AW.root?_iff.2 ⟨qJg cs i vs,by rw[g];simp,rfl⟩⟩
  ·subst e1;refine .inr ⟨f,n,cap,ex,f,f,true,true,rfl,by rw[hlen,h1],h2,h3,by rw[g];simp,AW.root?_iff.2 ⟨qJg cs i vs,by rw[g];simp,rfl⟩⟩
  ·refine .inr ⟨b,n,cap,ex,f,o,d,true,rfl,by rw[hlen,h1],h2,h3,by rw[g];simp,AW.root?_iff.2 ⟨cs0,by rw[g,if_neg e1,if_pos rfl],rfl⟩⟩
theorem Own.at {n0:Nat}{w:AW}{sz b n cap:Nat}{ex:Option Nat}{cs:List AV}(h:Own n0 w sz (.slice b 0 n cap ex) cs){i:Nat}(hi:i<n):idxS sz (.slice b 0 n cap ex) (.int .i64 i)=some (.ptr b (0+i * sz)):=by
 show(asN (.int .i64 (Int.ofNat i))).bind _=_;have hb:Nat.blt i n=true:=by rw[gQm];exact hi
 simp only[asN,Option.bind_some,hb,qJf,cond_true]
section
variable {P:Program}{hk:Hook}
theorem tJn {f:FuncId}{args:List AV}{w w':AW}{v:AV}{K:AV→AW→Prop}(h:hk f args w=some (some (v,w')))(hK:K v w'):Cl P hk f args w K:=by
 refine qJy (t:= .call f args w) ?_;show yJl P _ hk f args w _;unfold yJl;rw[h];exact⟨v,w',rfl,hK⟩
end
end Go.Sx
/-! Ranges over functions: a step of each kind. -/
namespace Go.Sx
section
variable {P:Program}{hk:Hook}
theorem sJ0 {n:Nat}{ro:Option Nat}{c b:Code}{t:Tm}{ds:List Nat}{w:AW}{Q:Res→Prop}{Kn:Tm→AW→Prop}(h:zJk P hk false n .lf c t w fun e t' w'=>e= .normal∧Kn t' w')
  (rest:∀t' w',Kn t' w'→wpL P hk (.code ro b ⟨t',ds,w'⟩) Q):wpL P hk (.code ro (.seq c b) ⟨t,ds,w⟩) Q:=by
 refine qJy (t:= .code ro _ _) (qJu _ _ _ (qJx fun e s hs=>?_) (zJw (ro:=ro) (ds:=ds) h));obtain⟨h1,_,rfl,h2⟩:=hs;obtain⟨t',ds',w'⟩:=s;simp only at h1;subst h1;exact rest t' w' h2
theorem lf_end {n:Nat}{ro:Option Nat}{c:Code}{t:Tm}{ds:List Nat}{w:AW}{Q:zJo→St→Prop}{Kn:Tm→AW→Prop}(h:zJk P hk false n .lf c t w fun e t' w'=>e= .normal∧Kn t' w')
  (rest:∀t' w',Kn t' w'→Q .normal ⟨t',ds,w'⟩):wpL P hk (.code ro c ⟨t,ds,w⟩) (exK Q):=by
 refine qJu _ _ _ (qJx fun e s hs=>?_) (zJw (ro:=ro) (ds:=ds) h);obtain⟨h1,_,rfl,h2⟩:=hs;obtain⟨t',ds',w'⟩:=s;simp only at h1;subst h1;exact rest t' w' h2
theorem zQp {l:Nat}{args:List AV}{w:AW}{K:AV→AW→Prop}{r:LoopA}{n:Nat}{t2:Tm}(hr:zJ4 w l=some r)(hlen:args.length=r.params.length)(hst:r.st= .ready)
  (ha:∀Kn:Tm→AW→Prop,Kn t2 w→zJk P hk false n .lf r.assign (zJx (r.params.zip args) r.tmps) w fun e t' w'=>e= .normal∧Kn t' w')
  (hb:vJm P hk (some l) r.body t2 [] (w.set l (LoopA.ob {r with st:= .busy})) fun e t w'=>e= .normal∧∃r',zJ4 w' l=some r'∧K (.bool true) (w'.set l (LoopA.ob {r' with st:= .ready,pending:=none}))):
  wpL P hk (.yield l args w) (valK K):=by
 refine qJy (t:= .yield l args w) ⟨r,hr,hlen,?_⟩;refine lf_end (ds:=[]) (Kn:=fun t' w'=>t'=t2∧w'=w) (ha _ ⟨rfl,rfl⟩) fun t' w' h=>?_;obtain⟨rfl,rfl⟩:=h;refine⟨rfl,r,hr,hst,qJu _ _ _ (qJx fun e s hs=>?_) hb⟩;obtain⟨h1,rfl,r',h2,h3⟩:=hs;exact⟨r',h2,h3⟩
end
end Go.Sx
/-! Bytes, maps with whole keys. -/
namespace Go.Sx
theorem wJo:∀(s:List UInt8),zJs (qJk s)=some s
  | []=>rfl
  | a::s=>by
    show zJs (.int .u8 (a.toNat:Int)::qJk s)=_;simp only[zJs,wJo s,Option.map_some];congr 2;have:((a.toNat:Int)).toNat=a.toNat:=rfl;rw[this];exact UInt8.ofNat_toNat
def RsB(w:AW)(v:AV)(s:List UInt8):Prop:=Rs w 1 s.length v (qJk s)
theorem RsB.str {w:AW}{v:AV}{s:List UInt8}(h:RsB w v s):b2s w v=some (.str s):=by
 have hr:=Rs.read h;rcases h with⟨rfl,h2,_⟩ | ⟨b,o,cap,ex,all,rfl,h2,h3,h4⟩
 ·have:s=[]:=List.eq_nil_of_length_eq_zero h2;subst this;rfl
 ·simp only[b2s];simp only[zJp,Nat.mul_one,yQl]at hr;obtain⟨cs,h5,h6⟩:=hr;cases h6;rw[h5,Option.bind_some,wJo];rfl
theorem Box.put' {w:AW}{b o:Nat}{cs vs:List AV}(h:Box w b cs)(hm:Mem w)(hb:b≠0)(hl:o+vs.length≤cs.length){K:AW→Prop}(hK:∀w',Ch [b] w w'→Box w' b (qJg cs o vs)→w'.size=w.size→K w'):onM (w.putCells b o vs) K:=by
 refine qJd (h.put hb hl) (hK _ (Ch.set hm (h.lt hm) fun cs f own d e=>by cases e;exact yQm _) (by simp[Box]) rfl)
/-! ### Maps with whole keys -/
section maps
variable {α:Type}(key:α→Int)(val:AW→α→AV→Prop)
variable {key val}
end maps
end Go.Sx
