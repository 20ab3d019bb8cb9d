/-
 Operations that change no memory: the model does what the abstract machine says (the second part).
 No condition beyond those that each theorem names.
-/
import Derived.Test.YtghoifolghelnaaGreatSxf
import Derived.Laws.BytesString
import Derived.Laws.Tables
set_option linter.unusedVariables false
set_option linter.unusedSimpArgs false
namespace Go.Sx
section
variable {P:Program}{W0:World}{N0:Nat}{m:Emb}{w:AW}{W:World}
theorem xQv {cs:List AV}{l:List UInt8}{vs:List Value}(h:zJs cs=some l)(hv:VRs m cs vs):
    ∃ns:List Int,vs=ns.map (Value.int .u8)∧l=ns.map fun n=>UInt8.ofNat n.toNat:=by
  induction cs generalizing l vs with
  | nil=>simp[zJs]at h;subst h;simp only[VRs]at hv;subst hv;exact⟨[],rfl,rfl⟩
  | cons c cs ih=>
    simp only[VRs]at hv;obtain⟨v,vs',rfl,hc,hs⟩:=hv;unfold zJs at h;split at h
    · rename_i heq;simp at heq
    · rename_i n cs' heq
      cases heq;simp only[yQl]at h;obtain⟨l',hl',rfl⟩:=h;obtain⟨ns,rfl,rfl⟩:=ih hl' hs;simp only[VR]at hc;subst hc;exact⟨n::ns,rfl,rfl⟩
    · simp at h
theorem hJa:∀(ns:List Int) (s:ByteArray),(ns.foldl (fun r n=>r.push (UInt8.ofNat n.toNat)) s).data.toList=s.data.toList++ns.map fun n=>UInt8.ofNat n.toNat
  | [],s=>by simp
  | n::ns,s=>by
    rw[List.foldl_cons,hJa ns];simp[ByteArray.push]
theorem iJd(h:Rel W0 N0 m w W){s d:TypeId}{a v:AV}{ca:Value}(hc:tJe P w s d a=some v)(ha:VR m a ca):
    ∃cv W',(convert s d ca).run P W= .ok cv W'∧VR m v cv∧Soft N0 W W':=by
  unfold tJe at hc;simp only[yQi]at hc;obtain⟨us,hus,ud,hud,hc⟩:=hc;cases a<;>simp only[]at hc<;>(try (simp at hc;done))<;>simp only[VR]at ha
  case int k n=>
    simp only[yQi,yQl]at hc;obtain⟨k1,h1,k2,h2,rfl⟩:=hc;rw[mJy]at h1 h2;subst h1 h2 ha;refine⟨.int k2 (k2.wrap n),W,?_,by simp[VR],Soft.refl _ _⟩;rw[convert,qJb (qJa hus),qJb (qJa hud)];rfl
  case str l=>
    obtain⟨hg,h2⟩:=qJe.1 hc;simp only[gQ3,zJl]at hg;obtain⟨rfl,rfl⟩:=hg;cases h2;obtain⟨bs,rfl,hb⟩:=ha;refine⟨.string bs,W,?_,by simp only[VR];exact⟨bs,rfl,hb⟩,Soft.refl _ _⟩;rw[convert,qJb (qJa hus),qJb (qJa hud)];rfl
  case nilslice=>
    simp only[yQi]at hc;obtain⟨e,he,ue,hue,hc⟩:=hc;obtain⟨hg,h2⟩:=qJe.1 hc;simp only[gQ3,zJl,dJq]at hg;rw[vJp]at he;obtain⟨rfl,rfl⟩:=hg;subst he;cases h2;subst ha;refine⟨.string .empty,W,?_,by simp only[VR];exact⟨_,rfl,rfl⟩,Soft.refl _ _⟩;rw[convert,qJb (qJa hus),qJb (qJa hud)];simp only[];rw[qJb (qJa hue)];rfl
  case slice b o n c ex=>
    simp only[yQi]at hc;obtain⟨e,he,ue,hue,hc⟩:=hc;obtain⟨hg,h2⟩:=qJe.1 hc;rw[dJq]at hg;rw[vJp]at he;subst hg he;obtain⟨q,ad,cc,hq,rfl,hlc,hcr,had⟩:=ha
    cases hts:zJi ud with
    | true=>
      rw[hts]at h2;rw[zJl]at hts;subst hts;simp only[cond_true,yQi,yQl]at h2;obtain⟨cs,hcs,l,hl,rfl⟩:=h2
      -- the cells
      unfold AW.read at hcs;split at hcs
      · rename_i cells hcells
        obtain⟨hle,rfl⟩:=zJq hcs;obtain⟨crow,el,fr,hW,hroom,hlen,hok,hv⟩:=h.row hq hcells;have hseg:=hv.seg hle;obtain⟨ns,hns,rfl⟩:=xQv hl hseg;refine⟨.string (ns.foldl (fun r n=>r.push (UInt8.ofNat n.toNat)) ByteArray.empty),W,?_,?_,Soft.refl _ _⟩
        · rw[convert,qJb (qJa hus),qJb (qJa hud)]
          simp only[];rw[qJb (qJa hue)];simp only[];refine run_bytesToString W ad n cc ns ?_;by_cases hn:n=0
          · subst hn
            simp at hns;subst hns;rfl
          · have hcc:cc≠0:=by
              cases ex with
              | none=>simp only[CapR]at hcr;omega
              | some s=>simp only[CapR]at hcr;omega
            rw[had hcc,jJy hW (by omega),hns]
        · simp only[VR]
          refine⟨_,rfl,?_⟩;rw[hJa];rfl
      · simp at hcs
    | false=>
      rw[hts]at h2;simp only[cond_false,yQi]at h2;obtain⟨e',he',x,hx,h3⟩:=h2;obtain⟨hg,h4⟩:=qJe.1 h3;simp only[gQ3,Bool.not_eq_true']at hg;have hsd:=yQp hg.1.1;have hc0:c≠0:=fun e=>by subst e;simp at hg
      have hx0:x.1≠0:=fun e=>by rw[e]at hg;simp at hg
      subst hsd;rw[hus]at hud;cases hud;cases h4;have hcc:cc≠0:=by
        cases ex with
        | none=>simp only[CapR]at hcr;omega
        | some s=>simp only[CapR]at hcr;omega
      have hadr:=had hcc
      -- the block
      obtain⟨ob,hgb,hob⟩:=h.obj b q hq;obtain⟨cs0,ow,dd,hgx,_⟩:=AW.fam?_iff.1 hx;rw[hgx]at hgb;cases hgb;obtain⟨crow,el,fr,x',hW,hroom,hx',_,hN,_⟩:=hob;rw[hx]at hx';cases hx';obtain⟨hN1,hfr⟩:=hN hx0
      let fr':Nat×Nat:=if fr.1==fr.2 then(crow.size,crow.size+1)else(min fr.1 crow.size,max fr.2 (crow.size+1))
      have hmark:(markStringish ad).run P W= .ok () (zJh W q.blk (.cells crow el fr')):=by
        rw[hadr];have hshape:W.shape? q.blk=some (el,crow.size):=by simp[World.shape?,hW]
        unfold markStringish;rw[qJb (a:=some (el,crow.size)) (W':=W) (by simp[shape,Sem.run,hshape])];simp only[freeze,Sem.run];congr 1;have hb:q.blk<W.heap.size:=(gQe.1 hW).1;have hgb:W.heap[q.blk]= .cells crow el fr:=(gQe.1 hW).2;simp only[World.freeze,zJh,Nat.one_ne_zero,if_false];congr 1;apply Array.ext_getElem?;intro k;rw[Array.getElem?_modify,Array.getElem?_setIfInBounds];by_cases hk:q.blk=k
        · subst hk
          simp[hb,hgb,fr']
        · simp[hk]
      refine⟨.slice (some ad) n cc,zJh W q.blk (.cells crow el fr'),?_,by simp only[VR];exact⟨q,ad,cc,hq,rfl,hlc,hcr,had⟩,?_⟩
      · rw[convert,qJb (qJa hus),qJb (qJa hus)]
        simp only[];rw[qJb (qJa hue)];simp only[beq_self_eq_true];rw[qJb hmark,qJo]
      · refine⟨⟨rfl,rfl⟩,by simp,fun k=>?_⟩
        by_cases hk:k=q.blk
        · subst hk
          refine .inr ⟨hN1,crow,el,fr,fr',hW,zJu hW,fun _=>?_⟩;simp only[fr'];split
          · exact .inr (yQm _)
          · rename_i hne
            right;rcases hfr with e | e
            · simp[e]at hne
            · simp;omega
        · exact .inl (zJb hk)
theorem iJb {t:TypeId}{a v:AV}{ca:Value}(h:zQ3 P t a=some v)(ha:VR m a ca):∃cv,(Instr.arrayAt t ca).run P W= .ok cv W∧VR m v cv:=by
 unfold zQ3 at h;split at h
 ·rename_i b o len cap ex;simp only[yQi]at h;obtain⟨ar,har,h1⟩:=h;obtain⟨hg,h2⟩:=qJe.1 h1;rw[kJe]at har;simp only[VR]at ha;obtain⟨q,ad,cc,hq,rfl,hlc,hcr,had⟩:=ha;cases h2;simp only[gQ3,Bool.not_eq_true']at hg;have hle:ar.1≤len:=by simpa using hg.1
  have h0:ar.1≠0:=fun e=>by rw[e]at hg;simp at hg
  have hcc:cc≠0:=by
   cases ex with
   | none=>simp only[CapR]at hcr;omega
   | some s=>simp only[CapR]at hcr;omega
  refine⟨.pointer (some ad),?_,?_⟩
  ·rw[Instr.arrayAt,qJb (qJa har)];simp only[];rw[if_neg (by omega),qJo]
  ·simp only[VR];exact⟨q,hq,by rw[had hcc]⟩
 ·simp at h
theorem nJ1 {t:TypeId}{a v:AV}{ca:Value}(h:fJz P t a=some v)(ha:VR m a ca):∃cv,(Instr.makeInterface t ca).run P W= .ok cv W∧VR m v cv:=by
 unfold fJz at h;rw[yQi]at h;obtain⟨u,hu,h1⟩:=h;obtain⟨hg,h2⟩:=qJe.1 h1;cases h2;refine⟨.iface t ca,?_,by simp only[VR];exact⟨ca,rfl,ha⟩⟩;rw[Instr.makeInterface,qJb (qJa hu)];cases u<;>first | rfl | simp[jJw]at hg
end
end Go.Sx
namespace Go.Sx
section
variable {P:Program}{m:Emb}{W:World}
theorem qQx {k k':IntKind}{n n':Int}:(AV.int k n).beq (.int k' n')=(decide (k=k')&&decide (n=n')):=by
 simp only[AV.beq];rw[Bool.eq_iff_iff];simp
theorem qQw {l l':List UInt8}:(AV.str l).beq (.str l')=decide (l=l'):=by
 simp only[AV.beq];rw[Bool.eq_iff_iff];simp
theorem oJn {k a:AV}{ck ca:Value}{u:TypeDesc}(hk:VR m k ck)(ha:VR m a ca)(hl:pJ2 k a=true)(hu:okKT k u=true):
  Instr.sameNow u ck ca=some (a.beq k):=by
 cases k<;>cases a<;>simp[pJ2]at hl<;>simp only[VR]at hk ha
 case int k1 n1 k2 n2=>
  subst hl hk ha;cases u<;>simp[okKT]at hu;simp only[Instr.sameNow,if_true,qQx];congr 1;rw[Bool.eq_iff_iff];simp;exact eq_comm
 case str=>
  obtain⟨s,rfl,hs⟩:=hk;obtain⟨s',rfl,hs'⟩:=ha;cases u<;>simp[okKT]at hu;subst hs hs';simp only[Instr.sameNow,bJ5,qQw];congr 1;rw[Bool.eq_iff_iff];simp;exact eq_comm
theorem aJn {k a:AV}(hl:pJ2 k a=true)(hb:a.beq k=true):a=k:=by
 cases k<;>cases a<;>simp[pJ2]at hl
 ·simp only[qQx,gQ3,decide_eq_true_eq]at hb;rw[hb.1,hb.2]
 ·simp only[qQw,decide_eq_true_eq]at hb;rw[hb]
theorem EsR.mem {es:List (AV×AV)}{l:List MapEntry}(h:EsR m es l){e:MapEntry}(he:e∈l):
    ∃e1 e2 l1 l2 a b,es=e1++(a,b)::e2∧l=l1++e::l2∧VR m a e.key∧VR m b e.val∧EsR m e1 l1∧EsR m e2 l2:=by
  induction es generalizing l with
  | nil=>simp only[EsR]at h;subst h;simp at he
  | cons x es ih=>
    obtain⟨k,v⟩:=x;obtain⟨e0,l',rfl,hk,hv,hs⟩:=h;rcases yQw.1 he with rfl | he
    · exact⟨[],es,[],l',k,v,rfl,rfl,hk,hv,rfl,hs⟩
    · obtain⟨e1,e2,l1,l2,a,b,rfl,rfl,ha,hb,h1,h2⟩:=ih hs he
      exact⟨(k,v)::e1,e2,e0::l1,l2,a,b,rfl,rfl,ha,hb,⟨e0,l1,rfl,hk,hv,h1⟩,h2⟩
theorem EsR.mem' {es:List (AV×AV)}{l:List MapEntry}(h:EsR m es l){x:AV×AV}(hx:x∈es):∃e,e∈l∧VR m x.1 e.key:=by
  induction es generalizing l with
  | nil=>simp at hx
  | cons y es ih=>
    obtain⟨k,v⟩:=y;obtain⟨e0,l',rfl,hk,hv,hs⟩:=h;rcases yQw.1 hx with rfl | hx
    · exact⟨e0,by simp,hk⟩
    · obtain⟨e,he,hr⟩:=ih hs hx
      exact⟨e,by simp[he],hr⟩
theorem EsR.append {es es':List (AV×AV)}{l l':List MapEntry}(h:EsR m es l)(h':EsR m es' l'):EsR m (es++es') (l++l'):=by
  induction es generalizing l with
  | nil=>simp only[EsR]at h;subst h;exact h'
  | cons x es ih=>
    obtain⟨k,v⟩:=x;obtain⟨e0,l0,rfl,hk,hv,hs⟩:=h;exact⟨e0,l0++l',rfl,hk,hv,ih hs⟩
theorem EsR.length {es:List (AV×AV)}{l:List MapEntry}(h:EsR m es l):es.length=l.length:=by
  induction es generalizing l with
  | nil=>simp only[EsR]at h;subst h;rfl
  | cons x es ih=>
    obtain⟨k,v⟩:=x;obtain⟨e0,l0,rfl,hk,hv,hs⟩:=h;simp[ih hs]
theorem MapR.length {es:List (AV×AV)}{l:List MapEntry}(h:MapR m es l):es.length=l.length:=by
 obtain⟨⟨l',hp,he⟩,_⟩:=h;rw[he.length,hp.length_eq]
theorem bJx(p:MapEntry→Bool):∀l:List MapEntry,(∀e∈l,p e=false)∨∃l1 e l2,l=l1++e::l2∧(∀x∈l1,p x=false)∧p e=true
  | []=> .inl (by simp)
  | e::l=>by
    by_cases he:p e=true
    · exact .inr ⟨[],e,l,rfl,by simp,he⟩
    · rcases bJx p l with h | ⟨l1,e',l2,rfl,h1,h2⟩
      · exact .inl (by simpa [gQh]using⟨by simpa using he,h⟩)
      · exact .inr ⟨e::l1,e',l2,rfl,by simpa using⟨by simpa using he,h1⟩,h2⟩
theorem hJm {k:AV}:∀{es:List (AV×AV)},(∀x∈es,x.1.beq k=false)→pJ1 k es=none
  | [],_=>rfl
  | (a,u)::es,h=>by
    have h0:=h (a,u) (by simp);simp only[pJ1,h0,cond_false];exact hJm fun x hx=>h x (by simp[hx])
theorem iJv {k a v:AV}{e1 e2:List (AV×AV)}(h:∀x∈e1,x.1.beq k=false)(ha:a.beq k=true):pJ1 k (e1++(a,v)::e2)=some v:=by
  induction e1 with
  | nil=>simp[pJ1,ha]
  | cons x e1 ih=>
    obtain⟨b,u⟩:=x;have h0:=h (b,u) (by simp);simp only[List.cons_append,pJ1,h0,cond_false];exact ih fun x hx=>h x (by simp[hx])
theorem lJh {k v:AV}:∀{es:List (AV×AV)},(∀x∈es,x.1.beq k=false)→insM k v es=es++[(k,v)]
  | [],_=>rfl
  | (a,u)::es,h=>by
    have h0:=h (a,u) (by simp);simp only[insM,h0,cond_false,List.cons_append];rw[lJh fun x hx=>h x (by simp[hx])]
theorem aJv {k a u v:AV}{e1 e2:List (AV×AV)}(h:∀x∈e1,x.1.beq k=false)(ha:a.beq k=true):insM k v (e1++(a,u)::e2)=e1++(k,v)::e2:=by
  induction e1 with
  | nil=>simp[insM,ha]
  | cons x e1 ih=>
    obtain⟨b,u'⟩:=x;have h0:=h (b,u') (by simp);simp only[List.cons_append,insM,h0,cond_false];rw[ih fun x hx=>h x (by simp[hx])]
theorem lJ1 {k:AV}:∀{es:List (AV×AV)},(∀x∈es,x.1.beq k=false)→delM k es=es
  | [],_=>rfl
  | (a,u)::es,h=>by
    have h0:=h (a,u) (by simp);simp only[delM,h0,cond_false];rw[lJ1 fun x hx=>h x (by simp[hx])]
theorem qQk {k a u:AV}{e1 e2:List (AV×AV)}(h:∀x∈e1,x.1.beq k=false)(ha:a.beq k=true):delM k (e1++(a,u)::e2)=e1++e2:=by
  induction e1 with
  | nil=>simp[delM,ha]
  | cons x e1 ih=>
    obtain⟨b,u'⟩:=x;have h0:=h (b,u') (by simp);simp only[List.cons_append,delM,h0,cond_false];rw[ih fun x hx=>h x (by simp[hx])]
theorem pJp {u:TypeDesc}{ck:Value}:∀(l:List MapEntry) (i:Nat),(∀e∈l,Instr.sameNow u ck e.key=some false)→Instr.findNow u ck l i=some none
  | [],_,_=>rfl
  | e::l,i,h=>by
    simp only[Instr.findNow,h e (by simp)];exact pJp l (i+1) fun x hx=>h x (by simp[hx])
theorem pJo {u:TypeDesc}{ck:Value}{e:MapEntry}{l2:List MapEntry}:∀(l1:List MapEntry) (i:Nat),(∀e∈l1,Instr.sameNow u ck e.key=some false)→Instr.sameNow u ck e.key=some true→
    Instr.findNow u ck (l1++e::l2) i=some (some (i+l1.length,e.val))
  | [],i,_,h=>by simp[Instr.findNow,h]
  | x::l1,i,h1,h=>by
    simp only[List.cons_append,Instr.findNow,h1 x (by simp)];rw[pJo l1 (i+1) (fun y hy=>h1 y (by simp[hy])) h];simp;omega
theorem fJ3 {es:List (AV×AV)}{l:List MapEntry}(h:MapR m es l){k:AV}{ck:Value}{u:TypeDesc}(hk:VR m k ck)(hu:okKT k u=true)
  (hl:es.all (fun e=>pJ2 k e.1)=true):
  (Instr.findNow u ck l 0=some none∧pJ1 k es=none∧delM k es=es∧∀(v:AV) (e:MapEntry),VR m k e.key→VR m v e.val→MapR m (insM k v es) (l++[e]))∨
  (∃l1 e l2 v,l=l1++e::l2∧Instr.findNow u ck l 0=some (some (l1.length,e.val))∧pJ1 k es=some v∧VR m v e.val∧VR m k e.key∧MapR m (delM k es) (l1++l2)∧
   ∀(v:AV) (e:MapEntry),VR m k e.key→VR m v e.val→MapR m (insM k v es) (l1++e::l2)):=by
 obtain⟨⟨l',hp,he⟩,hd⟩:=h;rw[yQv]at hl;have same:∀e∈l,∃e1 e2 p1 p2 a b,es=e1++(a,b)::e2∧l'=p1++e::p2∧VR m a e.key∧VR m b e.val∧EsR m e1 p1∧EsR m e2 p2∧pJ2 k a=true∧Instr.sameNow u ck e.key=some (a.beq k):=by
  intro e hel;obtain⟨e1,e2,p1,p2,a,b,rfl,rfl,ha,hb,h1,h2⟩:=he.mem (hp.mem_iff.2 hel);have hla:=hl (a,b) (by simp);exact⟨e1,e2,p1,p2,a,b,rfl,rfl,ha,hb,h1,h2,hla,oJn hk ha hla hu⟩
 rcases bJx (fun e=>Instr.sameNow u ck e.key==some true) l with hn | ⟨l1,e,l2,rfl,h1,h2⟩
 ·left;have hno:∀x∈es,x.1.beq k=false:=by
   intro x hx;obtain⟨e,hel,hr⟩:=he.mem' hx;have hs:=oJn hk hr (hl x hx) hu;have:=hn e (hp.mem_iff.1 hel);simp only[hs]at this;simpa using this
  refine⟨pJp l 0 ?_,hJm hno,lJ1 hno,?_⟩
  ·intro e hel;obtain⟨_,_,_,_,a,b,_,_,_,_,_,_,_,hs⟩:=same e hel;have:=hn e hel;simp only[hs]at this ⊢;congr 1;simpa using this
  ·intro v e hke hve;rw[lJh hno];refine⟨⟨l'++[e],hp.append_right [e],he.append ⟨e,[],rfl,hke,hve,rfl⟩⟩,?_⟩;rw[List.map_append,List.pairwise_append];refine⟨hd,by simp,?_⟩;intro a ha b hb;simp at hb;subst hb;simp only[List.mem_map]at ha;obtain⟨x,hx,rfl⟩:=ha;exact hno x hx
 ·right;obtain⟨e1,e2,p1,p2,a,b,rfl,rfl,ha,hb,g1,g2,hla,hs⟩:=same e (by simp);have hak:a.beq k=true:=by
   simp only[hs]at h2;simpa using h2
  have hak':a=k:=aJn hla hak;have hd':=hd;rw[List.map_append,List.map_cons,List.pairwise_append,List.pairwise_cons]at hd';have hn1:∀x∈e1,x.1.beq k=false:=by
   intro x hx;have:=hd'.2.2 x.1 (List.mem_map.2 ⟨x,hx,rfl⟩) a (by simp)
   rwa [hak']at this
  have hpm:(p1++p2).Perm (l1++l2):=by
   have:=(List.perm_middle.symm.trans hp).trans List.perm_middle;exact this.cons_inv
  refine⟨l1,e,l2,b,rfl,?_,iJv hn1 hak,hb,hak'▸ha,?_,?_⟩
  ·have hl1:∀x∈l1,Instr.sameNow u ck x.key=some false:=by
    intro x hx;obtain⟨_,_,_,_,a',b',_,_,_,_,_,_,_,hs'⟩:=same x (by simp[hx]);have:=h1 x hx;simp only[hs']at this ⊢;congr 1;simpa using this
   have:=pJo (l2:=l2) (e:=e) l1 0 hl1 (by rw[hs,hak]);simpa using this
  ·rw[qQk hn1 hak];refine⟨⟨p1++p2,hpm,g1.append g2⟩,?_⟩;rw[List.map_append,List.pairwise_append];exact⟨hd'.1,hd'.2.1.2,fun x hx y hy=>hd'.2.2 x hx y (by simp at hy ⊢;exact .inr hy)⟩
  ·intro v e' hke hve;rw[aJv hn1 hak];refine⟨⟨p1++e'::p2,(List.perm_middle.trans (hpm.cons e')).trans List.perm_middle.symm,g1.append ⟨e',p2,rfl,hke,hve,g2⟩⟩,?_⟩;rw[List.map_append,List.map_cons];rw[List.map_append,List.map_cons,hak']at hd;exact hd
theorem vJt {t:TypeId}{u:TypeDesc}{k:AV}{ck:Value}(emp:Bool)(hu:P.underlying t=some u)(hk:VR m k ck)(hok:okKT k u=true):
  (Instr.checkKey emp 10000 t ck).run P W= .ok () W:=by
 rw[show(10000:Nat)=9999+1 from rfl];unfold Instr.checkKey;rw[qJb (qJa hu)];cases k<;>cases u<;>simp[okKT]at hok<;>simp only[VR]at hk
 ·subst hk;rfl
 ·obtain⟨s,rfl,_⟩:=hk;rfl
theorem vJa {t:TypeId}{u:TypeDesc}{ck:Value}{l:List MapEntry}{r:Option (Nat×Value)}(hu:P.underlying t=some u)(h:Instr.findNow u ck l 0=some r):
  (Instr.findKey t ck l).run P W= .ok r W:=by
 unfold Instr.findKey;rw[qJb (qJa hu),h];rfl
theorem jQ3 {k:AV}{a b:Value}{u:TypeDesc}(hu:okKT k u=true)(ha:VR m k a)(hb:VR m k b):(Instr.keyThatStays a b).run P W= .ok b W:=by
 unfold Instr.keyThatStays;cases k<;>cases u<;>simp[okKT]at hu<;>simp only[VR]at ha hb
 ·subst ha hb;simp[Instr.sameBits]
 ·obtain⟨s,rfl,hs⟩:=ha;obtain⟨s',rfl,hs'⟩:=hb;have:s=s':=by
   cases s;cases s';simp at hs hs';congr 1;exact Array.ext' (hs.trans hs'.symm)
  subst this;have e:(s==s)=true:=by rw[bJ5];simp
  simp[Instr.sameBits,e]
end
end Go.Sx
namespace Go.Sx
section
variable {P:Program}{W0:World}{N0:Nat}{m:Emb}{w:AW}{W:World}
theorem xJb {r:Nat}{x:List (AV×AV)×Nat}:xJk w r=some x↔w.get r=some (.map x.1 x.2):=by
 unfold xJk;rw[yQi];constructor
 ·rintro⟨o,ho,h⟩;cases o<;>simp[oMap]at h;subst h;exact ho
 ·intro h;exact⟨_,h,rfl⟩
theorem Rel.map(h:Rel W0 N0 m w W){r:Nat}{p:Pl}(hr:m r=some p){x:List (AV×AV)×Nat}(hx:xJk w r=some x):
  N0≤p.blk∧∃ces cl,W.heap[p.blk]? =some (.map ces cl)∧MapR m x.1 ces.toList∧jJt ces.toList cl:=by
 obtain⟨o,hg,ho⟩:=h.obj r p hr;rw[xJb.1 hx]at hg;cases hg;exact ho
theorem zJa {b:Nat}{o:Obj}(h:W.heap[b]? =some o)(hn:∀c e f,o≠ .cells c e f):(getObj b).run P W= .ok o W:=by
 cases o with
 | cells c e f=>exact absurd rfl (hn c e f)
 | _=>simp[getObj,Sem.run,h]
theorem jJ8 {b:Nat}{o o':Obj}(h:W.heap[b]? =some o)(hn:∀c e f,o≠ .cells c e f):(setObj b o').run P W= .ok () (zJh W b o'):=by
 cases o with
 | cells c e f=>exact absurd rfl (hn c e f)
 | _=>simp[setObj,Sem.run,h,zJh]
theorem wJx {kt:TypeId}{k:AV}{es:List (AV×AV)}(h:pJ0 P kt k es=true):∃u,P.underlying kt=some u∧okKT k u=true∧es.all (fun e=>pJ2 k e.1)=true:=by
 unfold pJ0 at h;rw[gQ3]at h;obtain⟨h1,h2⟩:=h;split at h1
 ·rename_i u hu;exact⟨u,hu,h1,h2⟩
 ·simp at h1
theorem cJ7(h:Rel W0 N0 m w W){t:TypeId}{ok:Bool}{a k v:AV}{ca ck:Value}(hl:bJm P w t ok a k=some v)(ha:VR m a ca)(hk:VR m k ck):
    ∃cv,(Instr.lookup t ca ck ok).run P W= .ok cv W∧VR m v cv:=by
  unfold bJm at hl;simp only[yQi]at hl;obtain⟨ke,⟨u,hu,hm⟩,es,hes,hl⟩:=hl;rw[jJa]at hm;subst hm;obtain⟨hg,h2⟩:=qJe.1 hl;obtain⟨uk,huk,hok,hall⟩:=wJx hg;have tail:∀ces:Array MapEntry,MapR m es ces.toList→∃cv,(do
      Instr.checkKey ces.isEmpty 10000 ke.1 ck
      let __do_lift←Instr.findKey ke.1 ck ces.toList
      match __do_lift with
        | some (fst,v)=>do
          let __x←pure (v,true)
          pure (if ok=true then Value.tuple #[__x.fst,Value.bool __x.snd]else __x.fst)
        | none=>do
          let __do_lift←zeroValue ke.2
          let __x←pure (__do_lift,false)
          pure (if ok=true then Value.tuple #[__x.fst,Value.bool __x.snd]else __x.fst):Sem Value).run P W= .ok cv W∧VR m v cv:=by
    intro ces hM;rw[qJb (vJt _ huk hk hok)];rcases fJ3 hM hk hok hall with⟨hf,hlk,_,_⟩ | ⟨l1,e,l2,v',hl1,hf,hlk,hv',_,_,_⟩
    · rw[hlk]at h2
      simp only[yQl]at h2;obtain⟨z,hz,rfl⟩:=h2;obtain⟨cz,hcz,hvz,_⟩:=kJk (P:=P) (W:=W) m hz;rw[qJb (vJa huk hf)];simp only[];rw[qJb hcz]
      cases ok with
      | true=>
        refine⟨.tuple #[cz, .bool false],rfl,?_⟩;simp only[cond_true,VR];exact⟨_,rfl,VRs.cons hvz (VRs.cons (by simp[VR]) VRs.nil)⟩
      | false=>exact⟨cz,rfl,hvz⟩
    · rw[hlk]at h2
      cases h2;rw[qJb (vJa huk hf)]
      cases ok with
      | true=>
        refine⟨.tuple #[e.val, .bool true],rfl,?_⟩;simp only[cond_true,VR];exact⟨_,rfl,VRs.cons hv' (VRs.cons (by simp[VR]) VRs.nil)⟩
      | false=>exact⟨e.val,rfl,hv'⟩
  unfold jQs at hes;split at hes
  · cases hes
    simp only[VR]at ha;subst ha;obtain⟨cv,h1,h2⟩:=tail #[] ⟨⟨[],List.Perm.refl _,rfl⟩,List.Pairwise.nil⟩;refine⟨cv,?_,h2⟩;rw[Instr.lookup,qJb (qJa hu)];exact h1
  · rename_i r
    simp only[yQl]at hes;obtain⟨x,hx,rfl⟩:=hes;simp only[VR]at ha;obtain⟨p,hp,rfl⟩:=ha;obtain⟨_,ces,_,hW,hM,_⟩:=h.map hp hx;obtain⟨cv,h1,h2⟩:=tail ces hM;refine⟨cv,?_,h2⟩;rw[Instr.lookup,qJb (qJa hu)];simp only[];rw[qJb (zJa hW (by simp))];exact h1
  · simp at hes
theorem rJa {asserted xt:TypeId}{ok:Bool}{a v:AV}{ca:Value}(h:cJo P asserted ok a=some v)(ha:VR m a ca):
    ∃cv,(Instr.typeAssert ca xt asserted ok).run P W= .ok cv W∧VR m v cv:=by
  unfold cJo at h;rw[yQi]at h;obtain⟨u,hu,h⟩:=h
  cases hti:jJw u with
  | true=>rw[hti]at h;simp at h
  | false=>
    rw[hti]at h;simp only[cond_false]at h;split at h
    · rename_i t x
      simp only[VR]at ha;obtain⟨cx,rfl,hx⟩:=ha;by_cases hte:t=asserted
      · subst hte
        simp only[Nat.beq_refl,cond_true]at h;cases h;rw[Instr.typeAssert,qJb (qJa hu)]
        cases ok with
        | true=>
          refine⟨.tuple #[cx, .bool true],?_,?_⟩
          · cases u<;>first | (simp[jJw]at hti;done) | (simp[qJo])
          · simp only[cond_true,VR]
            exact⟨_,rfl,VRs.cons hx (VRs.cons (by simp[VR]) VRs.nil)⟩
        | false=>
          refine⟨cx,?_,hx⟩;cases u<;>first | (simp[jJw]at hti;done) | (simp[qJo])
      · have hb:Nat.beq t asserted=false:=by
          rw[←gQh];intro e;exact hte (yQp e)
        rw[hb]at h;simp only[cond_false]at h;obtain⟨hok,h2⟩:=qJe.1 h;subst hok;simp only[yQl]at h2;obtain⟨z,hz,rfl⟩:=h2;obtain⟨cz,hcz,hvz,_⟩:=kJk (P:=P) (W:=W) m hz;refine⟨.tuple #[cz, .bool false],?_,?_⟩
        · rw[Instr.typeAssert,qJb (qJa hu)]
          cases u<;>first | (simp[jJw]at hti;done) | (simp only[hte,if_false,if_true];rw[qJb hcz];rfl)
        · simp only[VR]
          exact⟨_,rfl,VRs.cons hvz (VRs.cons (by simp[VR]) VRs.nil)⟩
    · simp only[VR]at ha
      subst ha;obtain⟨hok,h2⟩:=qJe.1 h;subst hok;simp only[yQl]at h2;obtain⟨z,hz,rfl⟩:=h2;obtain⟨cz,hcz,hvz,_⟩:=kJk (P:=P) (W:=W) m hz;refine⟨.tuple #[cz, .bool false],?_,?_⟩
      · rw[Instr.typeAssert,qJb (qJa hu)]
        cases u<;>first | (simp[jJw]at hti;done) | (simp only[if_true];rw[qJb hcz];rfl)
      · simp only[VR]
        exact⟨_,rfl,VRs.cons hvz (VRs.cons (by simp[VR]) VRs.nil)⟩
    · simp at h
/-! ### Slicing -/
def OVR(m:Emb):Option AV→Option Value→Prop
 | none,none=>True
 | some a,some v=>VR m a v
 | _,_=>False
theorem vJ8 {a:AV}{v:Value}{n y:Nat}{code:BoundsCode}(h:asN a=some n)(hv:VR m a v)(hy:n≤y):
  (Instr.sliceBound v y code).run P W= .ok n W:=by
 obtain⟨kd,rfl,hr⟩:=kJ2 (P:=P) (W:=W) h hv;unfold Instr.sliceBound;rw[qJb hr];have:(0:Int)≤(n:Int)∧(n:Int)≤(y:Int):=⟨by omega,by omega⟩;simp only[if_pos this,qJo,Int.toNat_natCast]
theorem wJu {b:Bool}{low high mx:Option AV}{lo hi cm:Option Value}{len cc l h mm:Nat}(h1:OVR m low lo)(h2:OVR m high hi)(h3:OVR m mx cm)
    (hm:qJ1 mm mx=some mm) (hmc:mm≤cc) (hh:qJ1 len high=some h) (hl:qJ1 0 low=some l) (hlh:l≤h) (hhm:h≤mm) (hmh:mx.isNone=true∨high.isSome=true):
    (Instr.sliceBounds b len cc lo hi cm).run P W= .ok (l,h,if mx.isSome then mm else cc) W:=by
  unfold Instr.sliceBounds
  cases mx with
  | none=>cases cm with
    | some _=>exact h3.elim
    | none=>cases high with
      | none=>cases hi with
        | some _=>exact h2.elim
        | none=>
          simp only[qJ1]at hh;cases hh
          cases low with
          | none=>cases lo with
            | some _=>exact h1.elim
            | none=>simp only[qJ1]at hl;cases hl;rfl
          | some a=>cases lo with
            | none=>exact h1.elim
            | some v=>
              simp only[qJ1]at hl;simp only[qJn];rw[qJb (vJ8 hl h1 hlh)];rfl
      | some a=>cases hi with
        | none=>exact h2.elim
        | some v=>
          simp only[qJ1]at hh;simp only[qJn];rw[qJb (vJ8 hh h2 (by omega))]
          cases low with
          | none=>cases lo with
            | some _=>exact h1.elim
            | none=>simp only[qJ1]at hl;cases hl;rfl
          | some a=>cases lo with
            | none=>exact h1.elim
            | some v=>
              simp only[qJ1]at hl;simp only[];rw[qJb (vJ8 hl h1 hlh)];rfl
  | some am=>cases cm with
    | none=>exact h3.elim
    | some vm=>
      simp only[qJ1]at hm;simp only[];rw[qJb (vJ8 hm h3 hmc)]
      cases high with
      | none=>simp at hmh
      | some a=>cases hi with
        | none=>exact h2.elim
        | some v=>
          simp only[qJ1]at hh;simp only[];rw[qJb (vJ8 hh h2 hhm)]
          cases low with
          | none=>cases lo with
            | some _=>exact h1.elim
            | none=>simp only[qJ1]at hl;cases hl;rfl
          | some a=>cases lo with
            | none=>exact h1.elim
            | some v=>
              simp only[qJ1]at hl;simp only[];rw[qJb (vJ8 hl h1 hlh)];rfl
theorem yJ5 {mx:Option AV}{d n:Nat}(h:qJ1 d mx=some n):qJ1 n mx=some n:=by
 cases mx with
 | none=>simp[qJ1]
 | some a=>exact h
theorem nJy {t:TypeId}{a v:AV}{low high mx:Option AV}{ca:Value}{lo hi cm:Option Value}(h:tJu P t a low high mx=some v)(ha:VR m a ca)
    (h1:OVR m low lo) (h2:OVR m high hi) (h3:OVR m mx cm):∃cv,(Instr.sliceAt t ca lo hi cm).run P W= .ok cv W∧VR m v cv:=by
  unfold tJu at h;split at h
  · rename_i l
    simp only[yQi]at h;obtain⟨u,hu,hx⟩:=h;obtain⟨hg,hy⟩:=qJe.1 hx;simp only[yQi]at hy;obtain⟨hh,hhb,ll,hlb,hz⟩:=hy;obtain⟨hok,h4⟩:=qJe.1 hz;simp only[gQ3,zJl]at hg;obtain⟨rfl,hmx⟩:=hg
    cases mx with
    | some _=>simp at hmx
    | none=>cases cm with
      | some _=>exact h3.elim
      | none=>
        simp only[VR]at ha;obtain⟨s,rfl,hs⟩:=ha;cases h4;simp only[okB,gQ3,Nat.ble_eq]at hok;have hsz:=uJe hs;refine⟨.string (s.extract ll hh),?_,?_⟩
        · rw[Instr.sliceAt,qJb (qJa hu)]
          simp only[];rw[Instr.slice,qJb (qJa hu)];simp only[Option.isSome_none,yQ2,if_false];rw[qJb (wJu (mm:=l.length) h1 h2 (mx:=none) (cm:=none) trivial rfl (by omega) (by rw[hsz];exact hhb) hlb hok.1.1 hok.2 (.inl rfl)),qJo]
        · simp only[VR]
          refine⟨_,rfl,?_⟩;rw[ByteArray.data_extract,Array.toList_extract,hs,List.extract_eq_take_drop]
  · simp only[yQi]at h
    obtain⟨e,he,hh,hhb,ll,hlb,mm,hmb,n0,hn0,hz⟩:=h;have hsz:∃n,szOf P e=some n:=⟨n0,hn0⟩;obtain⟨hok,h4⟩:=qJe.1 hz;simp only[gQ3,okB,Nat.ble_eq,Bool.or_eq_true]at hok;rw[zJf]at he;simp only[VR]at ha;subst ha;cases h4;obtain⟨⟨⟨g1,g2⟩,g3⟩,g4⟩:=hok;have e1:hh=0:=by omega
    have e2:ll=0:=by omega
    have e3:mm=0:=by omega
    subst e1 e2 e3;refine⟨.slice none 0 0,?_,by simp[VR]⟩;rw[Instr.sliceAt,qJb (qJa he)];simp only[];rw[Instr.slice,qJb (qJa he)];simp only[];rw[qJb (wJu (mm:=0) h1 h2 h3 (yJ5 hmb) (by omega) hhb hlb g1 g2 g4)];obtain⟨n,hn⟩:∃n,szOf P e=some n:=hsz;rw[qJb (qJ9 hn)];have:(if mx.isSome=true then 0 else 0)=0:=by split<;>rfl
    simp only[this,if_true,qJo]
  · rename_i b o len cap ex
    simp only[yQi]at h;obtain⟨e,he,mm,hmb,hh,hhb,ll,hlb,s,hs,hz⟩:=h;obtain⟨hok,h4⟩:=qJe.1 hz;simp only[gQ3,okB,Nat.ble_eq,Bool.or_eq_true]at hok;rw[zJf]at he;simp only[VR]at ha;obtain⟨q,ad,cc,hq,rfl,hlc,hcr,had⟩:=ha;cases h4;obtain⟨⟨⟨⟨g1,g2⟩,g3⟩,gex⟩,g4⟩:=hok;have hcap:cap≤cc:=by
      cases ex with
      | none=>simp only[CapR]at hcr;omega
      | some s=>simp only[CapR]at hcr;omega
    have hb:=wJu (P:=P) (W:=W) (b:=true) (mm:=mm) (cc:=cc) h1 h2 h3 (yJ5 hmb) (by omega) hhb hlb g1 g2 g4;refine⟨.slice (if(if mx.isSome then mm else cc)=ll then some ad else(some ad).map (·.add (ll * s))) (hh - ll) ((if mx.isSome then mm else cc) - ll),?_,?_⟩
    · rw[Instr.sliceAt,qJb (qJa he)]
      simp only[];rw[Instr.slice,qJb (qJa he)];simp only[];rw[qJb hb,qJb (qJ9 hs),qJo]
    · simp only[VR]
      refine⟨q,if(if mx.isSome then mm else cc)=ll then ad else ad.add (ll * s),(if mx.isSome then mm else cc) - ll,hq,?_,by omega,?_,?_⟩
      · generalize(if mx.isSome=true then mm else cc)=M
        by_cases hM:M=ll<;>simp[hM]
      · cases mx with
        | none=>
          simp only[qJ1]at hmb;cases hmb;simp only[Option.isSome_none,yQ2,if_false]
          cases ex with
          | none=>simp only[CapR]at hcr ⊢;omega
          | some s'=>
            simp only[okEx]at gex;have:=yQp gex;subst this;simp only[CapR]at hcr ⊢;refine⟨by omega,?_⟩;have e1:(cc - ll) * s'=cc * s' - ll * s':=Nat.sub_mul _ _ _;have e2:ll * s'≤cc * s':=yQ7 _ (by omega);omega
        | some am=>simp[CapR]
      · intro hne
        have hcc:cc≠0:=by
          split at hne<;>omega
        have hne':¬ (if mx.isSome then mm else cc)=ll:=by omega
        rw[if_neg hne',had hcc,jJ3,Nat.add_assoc]
  · rename_i b o
    simp only[yQi]at h;obtain⟨ar,har,mm,hmb,hh,hhb,ll,hlb,s,hs,hz⟩:=h;obtain⟨hok,h4⟩:=qJe.1 hz;simp only[gQ3,okB,Nat.ble_eq,Bool.or_eq_true]at hok;rw[kJe]at har;simp only[VR]at ha;obtain⟨q,hq,rfl⟩:=ha;cases h4;obtain⟨⟨⟨g1,g2⟩,g3⟩,g4⟩:=hok;have hb:=wJu (P:=P) (W:=W) (b:=false) (mm:=mm) (cc:=ar.1) h1 h2 h3 (yJ5 hmb) g3 hhb hlb g1 g2 g4;have hmm:(if mx.isSome then mm else ar.1)=mm:=by
      cases mx with
      | none=>simp only[qJ1]at hmb;cases hmb;rfl
      | some _=>rfl
    rw[hmm]at hb;refine⟨.slice (some (if mm=ll then⟨q.blk,q.off+o,none⟩else(Addr.mk q.blk (q.off+o) none).add (ll * s))) (hh - ll) (mm - ll),?_,?_⟩
    · rw[Instr.sliceAt,qJb (qJa har)]
      simp only[Instr.sureAddr,qJn];rw[qJb hb,qJb (qJ9 hs),qJo]
    · simp only[VR]
      refine⟨q,_,mm - ll,hq,rfl,by omega,by simp[CapR],?_⟩;intro hne;have hne':¬ mm=ll:=by omega
      rw[if_neg hne',jJ3,Nat.add_assoc]
  · simp at h
end
end Go.Sx
namespace Go.Sx
section
variable {P:Program}{W0:World}{N0:Nat}{m:Emb}{w:AW}{W:World}
def PsR(m:Emb):List (Nat×AV)→List (Nat×Value)→Prop
 | [],l=>l=[]
 | (i,a)::ps,l=>∃v l',l=(i,v)::l'∧VR m a v∧PsR m ps l'
theorem lJo:∀(vs:List Value) (off k:Nat) (cs:Array Value),off+k+vs.length≤cs.size→
    ((vs.zipIdx k).foldl (fun cs (x:Value×Nat)=>cs.setIfInBounds (off+x.2) x.1) cs).toList=cs.toList.take (off+k)++vs++cs.toList.drop (off+k+vs.length)
  | [],off,k,cs,_=>by simp
  | v::vs,off,k,cs,h=>by
    rw[List.zipIdx_cons,List.foldl_cons,lJo vs off (k+1) _ (by simp at h ⊢;omega)];simp only[Array.toList_setIfInBounds];have hl:off+k<cs.toList.length:=by simp at h ⊢;omega
    have e1:(cs.toList.set (off+k) v).take (off+(k+1))=cs.toList.take (off+k)++[v]:=by
      rw[←Nat.add_assoc,List.take_add_one,List.take_set_of_le (yQm _),List.getElem?_set_self hl];rfl
    have e2:(cs.toList.set (off+k) v).drop (off+(k+1)+vs.length)=cs.toList.drop (off+k+(v::vs).length):=by
      rw[List.drop_set_of_lt (by omega)];congr 1;simp;omega
    rw[e1,e2];simp
theorem wJz {pl:Nat→Option (Nat×Nat)}:∀{ps:List (Nat×AV)} {cps:List (Nat×Value)} {cells r:List AV} {cc:Array Value},uJ5 pl cells ps=some r→
    VRs m cells cc.toList→PsR m ps cps→∃cr,Instr.fill pl cc cps=some cr∧VRs m r cr.toList∧r.length=cells.length
  | [],cps,cells,r,cc,h,hv,hp=>by
    simp only[PsR]at hp;subst hp;simp only[uJ5]at h;cases h;exact⟨cc,rfl,hv,rfl⟩
  | (i,a)::ps,cps,cells,r,cc,h,hv,hp=>by
    obtain⟨v,l',rfl,ha,hps⟩:=hp;simp only[uJ5]at h;rw[yQi]at h;obtain⟨⟨off,size⟩,hpl,h⟩:=h;simp only[Bool.cond_eq_ite]at h;split at h
    · rename_i hg
      simp only[gQ3,Nat.ble_eq]at hg;have hsz:=yQp hg.1;have hav:=jJj ha;have hl:=hav.length;have hcl:=hv.length;simp only[Array.length_toList]at hl hcl;have hfold:=lJo v.cells.toList off 0 cc (by simp;omega);have hput:VRs m (qJg cells off a.cells) (v.cells.zipIdx.foldl (fun cs (x:Value×Nat)=>cs.setIfInBounds (off+x.2) x.1) cc).toList:=by
        have:(v.cells.zipIdx.foldl (fun cs (x:Value×Nat)=>cs.setIfInBounds (off+x.2) x.1) cc)=
            ((v.cells.toList.zipIdx 0).foldl (fun cs (x:Value×Nat)=>cs.setIfInBounds (off+x.2) x.1) cc):=by
          rw[←Array.foldl_toList,Array.toList_zipIdx]
        rw[this,hfold];unfold qJg;simp only[Nat.add_zero,Array.length_toList];rw[←hl];exact((hv.take off).append hav).append (hv.drop _)
      obtain⟨cr,h1,h2,h3⟩:=wJz h hput hps;refine⟨cr,?_,h2,?_⟩
      · simp only[Instr.fill,hpl]
        have c1:¬ (v.cells.size≠size):=by omega
        have c2:¬ (off+v.cells.size>cc.size):=by omega
        simp only[c1,c2,decide_false,Bool.or_self,yQ2,if_false];exact h1
      · rw[h3];simp[qJg];omega
    · simp at h
theorem aJ9 {pl:Nat→Option (Nat×Nat)}:∀{ps:List (Nat×AV)} {cells r:List AV},uJ5 pl cells ps=some r→(∀a∈cells,qJc a=true)→uJp ps=true→∀a∈r,qJc a=true
  | [],cells,r,h,hc,_=>by simp only[uJ5]at h;cases h;exact hc
  | (i,a)::ps,cells,r,h,hc,hp=>by
    simp only[uJ5]at h;rw[yQi]at h;obtain⟨⟨off,size⟩,hpl,h⟩:=h;simp only[Bool.cond_eq_ite]at h;unfold uJp at hp;simp only[List.all_cons,gQ3]at hp;split at h
    · refine aJ9 h ?_ hp.2
      intro x hx;simp only[qJg,yQ1]at hx;rcases hx with(hx | hx) | hx
      · exact hc x (gQz hx)
      · exact yQv.1 hp.1 x hx
      · exact hc x (List.mem_of_mem_drop hx)
    · simp at h
theorem nJ4 {t:TypeId}{ps:List (Nat×AV)}{cps:Array (Nat×Value)}{v:AV}(h:hJ0 P t ps=some v)(hp:PsR m ps cps.toList):
  ∃cv,(Instr.build t cps).run P W= .ok cv W∧VR m v cv:=by
 unfold hJ0 at h;simp only[yQi]at h;obtain⟨z,hz,u,hu,h⟩:=h
 -- the zero value
 unfold zJv at hz;simp only[yQi]at hz;obtain⟨z',⟨zv,⟨it,hit,hzz⟩,hzv⟩,n,hn,hg⟩:=hz;obtain⟨_,hg2⟩:=qJe.1 hg;cases hg2;have hzc:VRs m z.cells zv.cells.toList:=jJj (xJa m _ _ hzv);cases u<;>simp only[]at h<;>(try (simp at h;done))
 case array nn e=>
  simp only[yQi,yQl]at h;obtain⟨s,hs,r,hr,rfl⟩:=h;obtain⟨cr,h1,h2,_⟩:=wJz hr hzc hp;refine⟨.agg cr,run_build W t cps cr ?_,by simp only[VR];exact⟨cr,rfl,h2⟩⟩;unfold szOf at hs;simp only[yQl]at hs;obtain⟨ie,hie,rfl⟩:=hs;simp only[Program.built,hit,hu,hzz,hie];exact h1
 case struct fs=>
  simp only[yQi,yQl]at h;obtain⟨pl,hpl,r,hr,rfl⟩:=h;obtain⟨cr,h1,h2,_⟩:=wJz hr hzc hp;refine⟨.agg cr,run_build W t cps cr ?_,by simp only[VR];exact⟨cr,rfl,h2⟩⟩;unfold wJw at hpl;simp only[Program.built,hit,hu,hzz,hpl];simpa using h1
/-! ### len, cap, max, min -/
theorem eJr(h:Rel W0 N0 m w W){t ty:TypeId}{a v:AV}{ca:Value}{ts:Array TypeId}{args:Array Value}(ht:ts[0]? =some t)(ha0:args[0]? =some ca)
  (hl:lenA P w t a=some v) (ha:VR m a ca):∃cv,(Builtin.len_ ts ty args).run P W= .ok cv W∧VR m v cv:=by
 unfold lenA at hl;unfold Builtin.len_;simp only[ht,ha0];split at hl
 ·rename_i l;rw[yQi]at hl;obtain⟨u,hu,h1⟩:=hl;obtain⟨hg,h2⟩:=qJe.1 h1;rw[zJl]at hg;subst hg;cases h2;simp only[VR]at ha;obtain⟨s,rfl,hs⟩:=ha;rw[qJb (qJa hu)];exact⟨_,rfl,by simp[VR,goInt,uJe hs]⟩
 ·simp only[yQl]at hl;obtain⟨e,he,rfl⟩:=hl;rw[zJf]at he;simp only[VR]at ha;subst ha;rw[qJb (qJa he)];exact⟨_,rfl,by simp[VR,goInt]⟩
 ·simp only[yQl]at hl;obtain⟨e,he,rfl⟩:=hl;rw[zJf]at he;simp only[VR]at ha;obtain⟨q,ad,cc,hq,rfl,_⟩:=ha;rw[qJb (qJa he)];exact⟨_,rfl,by simp[VR,goInt]⟩
 ·simp only[yQl,yQi]at hl;obtain⟨ke,⟨u,hu,hm⟩,rfl⟩:=hl;rw[jJa]at hm;subst hm;simp only[VR]at ha;subst ha;rw[qJb (qJa hu)];exact⟨_,rfl,by simp[VR,goInt]⟩
 ·simp only[yQl,yQi]at hl;obtain⟨ke,⟨u,hu,hm⟩,x,hx,rfl⟩:=hl;rw[jJa]at hm;subst hm;simp only[VR]at ha;obtain⟨p,hp,rfl⟩:=ha;obtain⟨_,ces,_,hW,hM,_⟩:=h.map hp hx;rw[qJb (qJa hu)];simp only[];rw[qJb (zJa hW (by simp))];exact⟨_,rfl,by have:=hM.length;simp at this;simp[VR,goInt,this]⟩
 ·unfold vQw at hl;rw[yQi]at hl;obtain⟨u,hu,hl⟩:=hl;cases u<;>simp only[]at hl<;>(try (simp at hl;done))
  ·simp only[yQl]at hl;obtain⟨x,hx,rfl⟩:=hl;rw[kJe]at hx;rw[qJb (qJa hu)];simp only[];rw[qJb (qJa hx)];exact⟨_,rfl,by simp[VR,goInt]⟩
  ·cases hl;rw[qJb (qJa hu)];exact⟨_,rfl,by simp[VR,goInt]⟩
theorem eJt {t ty:TypeId}{a v:AV}{ca:Value}{ts:Array TypeId}{args:Array Value}(ht:ts[0]? =some t)(ha0:args[0]? =some ca)
  (hl:capA P t a=some v) (ha:VR m a ca):∃cv,(Builtin.cap_ ts ty args).run P W= .ok cv W∧VR m v cv:=by
 unfold capA at hl;unfold Builtin.cap_;simp only[ht,ha0];split at hl
 ·simp only[yQl]at hl;obtain⟨e,he,rfl⟩:=hl;rw[zJf]at he;simp only[VR]at ha;subst ha;rw[qJb (qJa he)];exact⟨_,rfl,by simp[VR,goInt]⟩
 ·simp only[yQl]at hl;obtain⟨e,he,rfl⟩:=hl;rw[zJf]at he;simp only[VR]at ha;obtain⟨q,ad,cc,hq,rfl,_,hc,_⟩:=ha;simp only[CapR]at hc;subst hc;rw[qJb (qJa he)];exact⟨_,rfl,by simp[VR,goInt]⟩
 ·simp at hl
theorem fJe(mx:Bool):∀{as:List AV} {vs:List Value} {a v:AV} {ca:Value},pJn mx a as=some v→VR m a ca→VRs m as vs→
    ∃cv,((vs.foldlM (if mx then Builtin.max2 else Builtin.min2) ca:Sem Value)).run P W= .ok cv W∧VR m v cv
  | [],vs,a,v,ca,h,ha,hs=>by
    simp only[VRs]at hs;subst hs;simp only[pJn]at h;cases h;exact⟨ca,rfl,ha⟩
  | b::as,vs,a,v,ca,h,ha,hs=>by
    simp only[VRs]at hs;obtain⟨cb,vs',rfl,hb,hs⟩:=hs;simp only[pJn]at h;rw[yQi]at h;obtain⟨c,hc,h⟩:=h;have hmm:∃cc,((if mx then Builtin.max2 else Builtin.min2) ca cb:Sem Value).run P W= .ok cc W∧VR m c cc:=by
      unfold minmax at hc;split at hc
      · split at hc
        · rename_i hk
          subst hk;simp only[VR]at ha hb;subst ha hb;cases hc;cases mx
          · exact⟨_,rfl,by simp[VR]⟩
          · exact⟨_,rfl,by simp[VR]⟩
        · simp at hc
      · simp at hc
    obtain⟨cc,h1,h2⟩:=hmm;obtain⟨cv,h3,h4⟩:=fJe mx h h2 hs;refine⟨cv,?_,h4⟩;rw[List.foldlM_cons,qJb h1];exact h3
end
end Go.Sx
namespace Go.Sx
section
variable {P:Program}{W0:World}{N0:Nat}{m:Emb}{w:AW}{W:World}{tmps:Tm}{ts:Array Value}{ds:List Deferred}
theorem xJ5(ht:VRs m tmps ts.toList):∀{xs:List Operand} {as:List AV},jJi tmps xs=some as→VRs m as (xs.map (Act.mk ts ds).eval)
  | [],as,h=>by simp[jJi]at h;subst h;simp[VRs]
  | x::xs,as,h=>by
    simp only[jJi]at h;split at h
    · rename_i a ha
      split at h
      · rename_i as' hs
        cases h;exact VRs.cons (qJj ht ha) (xJ5 ht hs)
      · simp at h
    · simp at h
theorem fJ5(ht:VRs m tmps ts.toList){x:Option Operand}{a:Option AV}(h:mapO tmps x=some a):OVR m a (x.map (Act.mk ts ds).eval):=by
 unfold mapO at h;split at h
 ·cases h;trivial
 ·simp only[yQl]at h;obtain⟨v,hv,rfl⟩:=h;exact qJj ht hv
theorem rJr(ht:VRs m tmps ts.toList):∀{ps:List (Nat×Operand)} {as:List AV},jJi tmps (ps.map (·.2))=some as→
    PsR m ((ps.map (·.1)).zip as) (ps.map fun x=>(x.1,(Act.mk ts ds).eval x.2))
  | [],as,h=>by simp[jJi]at h;subst h;simp[PsR]
  | (i,x)::ps,as,h=>by
    simp only[List.map_cons,jJi]at h;split at h
    · rename_i a ha
      split at h
      · rename_i as' hs
        cases h;exact⟨_,_,rfl,qJj ht ha,rJr ht hs⟩
      · simp at h
    · simp at h
theorem hJe(ht:VRs m tmps ts.toList){ps:Array (Nat×Operand)}{qs:List (Nat×AV)}(h:kJ7 tmps ps=some qs):
  PsR m qs (ps.map fun(i,x)=>(i,(Act.mk ts ds).eval x)).toList:=by
 unfold kJ7 at h;simp only[yQl]at h;obtain⟨as,ha,rfl⟩:=h;have:=rJr (ds:=ds) ht ha;simpa using this
theorem pJs {o:Oper}{c:Call}{b:Builtin}{ρ:Operand→Value}(ho:o.op= .call c)(hb:c.callee= .builtin b):
  ∃consts,execOp ρ o=builtin b c.argTypes o.type consts (c.args.map ρ):=by
 refine⟨c.args.map fun | .const _=>true | _=>false,?_⟩;unfold execOp;rw[ho];simp only[];unfold resolve;rw[hb];rfl
theorem uJm(h:Rel W0 N0 m w W)(ht:VRs m tmps ts.toList){o:Oper}{v:AV}(hp:qJ7 P w tmps o.op=some v):
  ∃cv W',(execOp (Act.mk ts ds).eval o).run P W= .ok (.value cv) W'∧VR m v cv∧Soft N0 W W':=by
 have fin:∀{s:Sem Value} {cv:Value},s.run P W= .ok cv W→VR m v cv→execOp (Act.mk ts ds).eval o=(do pure (Next.value (←s)))→
   ∃cv W',(execOp (Act.mk ts ds).eval o).run P W= .ok (.value cv) W'∧VR m v cv∧Soft N0 W W':=fun hr hv he=>⟨_,W,by rw[he];exact gJj hr,hv,Soft.refl _ _⟩
 cases hop:o.op<;>rw[hop]at hp<;>simp only[qJ7]at hp<;>(try (simp at hp;done))
 case move x=>exact⟨_,W,by unfold execOp;rw[hop];rfl,qJj ht hp,Soft.refl _ _⟩
 case assign x=>exact⟨_,W,by unfold execOp;rw[hop];rfl,qJj ht hp,Soft.refl _ _⟩
 case pick c a b=>
  rw[yQi]at hp;obtain⟨t,hc,hp⟩:=hp;rw[yQi]at hc;obtain⟨cv,hc,hb⟩:=hc;rw[xQ0]at hb;subst hb;have hcv:=qJj (ds:=ds) ht hc;simp only[VR]at hcv;refine⟨if t then(Act.mk ts ds).eval a else(Act.mk ts ds).eval b,W,?_,?_,Soft.refl _ _⟩
  ·unfold execOp;rw[hop];simp only[hcv];rfl
  ·cases t
   ·exact qJj ht hp
   ·exact qJj ht hp
 case load t a=>
  rw[yQi]at hp;obtain⟨p,hpp,hl⟩:=hp;rw[yQi]at hpp;obtain⟨av,ha,hb⟩:=hpp;rw[gJ1]at hb;subst hb;have hav:=qJj (ds:=ds) ht ha;simp only[VR]at hav;obtain⟨q,hq,he⟩:=hav;obtain⟨cv,hr,hv⟩:=dJz (P:=P) h hl hq;refine fin (s:=Instr.loadAt t ((Act.mk ts ds).eval a)) ?_ hv (by unfold execOp;rw[hop]);rw[he,Instr.loadAt];exact hr
 case nilCheck x=>
  rw[yQi]at hp;obtain⟨a,ha,hn⟩:=hp;obtain⟨h1,h2⟩:=mJj (P:=P) (W:=W) hop rfl hn (qJj (ds:=ds) ht ha);subst h2;exact⟨_,W,h1,qJj ht ha,Soft.refl _ _⟩
 case binOp op t x y yt=>
  rw[yQi]at hp;obtain⟨a,ha,hp⟩:=hp;rw[yQi]at hp;obtain⟨b,hb,hp⟩:=hp;obtain⟨cv,hr,hv⟩:=eJu (P:=P) (W:=W) hp (qJj (ds:=ds) ht ha) (qJj (ds:=ds) ht hb);exact fin hr hv (by unfold execOp;rw[hop])
 case unOp op t x=>
  rw[yQi]at hp;obtain⟨a,ha,hp⟩:=hp;obtain⟨cv,hr,hv⟩:=zQx (P:=P) (W:=W) hp (qJj (ds:=ds) ht ha);exact fin hr hv (by unfold execOp;rw[hop])
 case convert s d x=>
  rw[yQi]at hp;obtain⟨a,ha,hp⟩:=hp;obtain⟨cv,W',hr,hv,hs⟩:=iJd (P:=P) h hp (qJj (ds:=ds) ht ha);refine⟨cv,W',?_,hv,hs⟩;unfold execOp;rw[hop];exact gJj hr
 case sliceToArrayPointer t x=>
  rw[yQi]at hp;obtain⟨a,ha,hp⟩:=hp;obtain⟨cv,hr,hv⟩:=iJb (P:=P) (W:=W) hp (qJj (ds:=ds) ht ha);exact fin hr hv (by unfold execOp;rw[hop])
 case makeInterface t x=>
  rw[yQi]at hp;obtain⟨a,ha,hp⟩:=hp;obtain⟨cv,hr,hv⟩:=nJ1 (P:=P) (W:=W) hp (qJj (ds:=ds) ht ha);exact fin hr hv (by unfold execOp;rw[hop])
 case makeFunc fn first captured=>
  unfold fJ0 at hp;split at hp
  ·rename_i f;simp only[yQi,yQl]at hp;obtain⟨a,ha,b,hb,rfl⟩:=hp;refine fin (s:=Instr.makeFunc (.func f) (first.map (Act.mk ts ds).eval) (captured.map (Act.mk ts ds).eval)) rfl ?_ (by unfold execOp;rw[hop]);simp only[VR];exact⟨_,_,rfl,by simpa using xJ5 (ds:=ds) ht ha,by simpa using xJ5 (ds:=ds) ht hb⟩
  ·simp at hp
 case slice t x l hh mm=>
  simp only[yQi]at hp;obtain⟨a,ha,lo,hlo,hi,hhi,mx,hmx,hp⟩:=hp;obtain⟨cv,hr,hv⟩:=nJy (P:=P) (W:=W) hp (qJj (ds:=ds) ht ha) (fJ5 ht hlo) (fJ5 ht hhi) (fJ5 ht hmx);exact fin hr hv (by unfold execOp;rw[hop])
 case fieldAddr s x f=>
  rw[yQi]at hp;obtain⟨a,ha,hp⟩:=hp;obtain⟨cv,hr,hv⟩:=fJg (P:=P) (W:=W) hp (qJj (ds:=ds) ht ha);exact fin hr hv (by unfold execOp;rw[hop])
 case field t x f=>
  rw[yQi]at hp;obtain⟨a,ha,hp⟩:=hp;obtain⟨cv,hr,hv⟩:=nJ2 (P:=P) (W:=W) hp (qJj (ds:=ds) ht ha);exact fin hr hv (by unfold execOp;rw[hop])
 case indexAddr t x i=>
  rw[yQi]at hp;obtain⟨a,ha,hp⟩:=hp;rw[yQi]at hp;obtain⟨b,hb,hp⟩:=hp;obtain⟨cv,hr,hv⟩:=fJf (P:=P) (W:=W) hp (qJj (ds:=ds) ht ha) (qJj (ds:=ds) ht hb);exact fin hr hv (by unfold execOp;rw[hop])
 case index t x i=>
  rw[yQi]at hp;obtain⟨a,ha,hp⟩:=hp;rw[yQi]at hp;obtain⟨b,hb,hp⟩:=hp;obtain⟨cv,hr,hv⟩:=nJ0 (P:=P) (W:=W) hp (qJj (ds:=ds) ht ha) (qJj (ds:=ds) ht hb);exact fin hr hv (by unfold execOp;rw[hop])
 case lookup t x i ok=>
  rw[yQi]at hp;obtain⟨a,ha,hp⟩:=hp;rw[yQi]at hp;obtain⟨b,hb,hp⟩:=hp;obtain⟨cv,hr,hv⟩:=cJ7 (P:=P) h hp (qJj (ds:=ds) ht ha) (qJj (ds:=ds) ht hb);exact fin hr hv (by unfold execOp;rw[hop])
 case typeAssert x xt asserted ok=>
  rw[yQi]at hp;obtain⟨a,ha,hp⟩:=hp;obtain⟨cv,hr,hv⟩:=rJa (P:=P) (W:=W) (xt:=xt) hp (qJj (ds:=ds) ht ha);exact fin hr hv (by unfold execOp;rw[hop])
 case extract x i=>
  rw[yQi]at hp;obtain⟨vs,hvs,hi⟩:=hp;rw[yQi]at hvs;obtain⟨a,ha,hb⟩:=hvs;rw[xQw]at hb;subst hb;have hav:=qJj (ds:=ds) ht ha;simp only[VR]at hav;obtain⟨cvs,he,hr⟩:=hav;obtain⟨cv,hc,hv⟩:=hr.get hi;refine fin (s:=Instr.extract ((Act.mk ts ds).eval x) i) ?_ hv (by unfold execOp;rw[hop]);rw[he];have:cvs[i]? =some cv:=by simpa using hc
  simp only[Instr.extract,this];rfl
 case build t ps=>
  rw[yQi]at hp;obtain⟨qs,hqs,hp⟩:=hp;obtain⟨cv,hr,hv⟩:=nJ4 (P:=P) (W:=W) hp (hJe (ds:=ds) ht hqs);exact fin hr hv (by unfold execOp;rw[hop])
 case call c=>
  unfold jJm at hp;split at hp
  ·rename_i b hb;obtain⟨consts,he⟩:=pJs (ρ:=(Act.mk ts ds).eval) hop hb;unfold wJ0 at hp;rw[yQi]at hp;obtain⟨vs,hvs,hp⟩:=hp;have hvr:=xJ5 (ds:=ds) ht hvs;split at hp
   ·rename_i x r;simp only[VRs]at hvr;obtain⟨cx,cr,hcr,hx,hr⟩:=hvr;have hargs:(c.args.map (Act.mk ts ds).eval).toList=cx::cr:=by simpa using hcr
    have ha0:(c.args.map (Act.mk ts ds).eval)[0]? =some cx:=by
     rw[←yQ4,hargs];rfl
    split at hp
    ·rw[yQi]at hp;obtain⟨t,htt,hp⟩:=hp;obtain⟨cv,h1,h2⟩:=eJr (P:=P) (ty:=o.type) h htt ha0 hp hx;exact fin h1 h2 (by rw[he];rfl)
    ·rw[yQi]at hp;obtain⟨t,htt,hp⟩:=hp;obtain⟨cv,h1,h2⟩:=eJt (P:=P) (W:=W) (ty:=o.type) htt ha0 hp hx;exact fin h1 h2 (by rw[he];rfl)
    ·obtain⟨cv,h1,h2⟩:=fJe (P:=P) (W:=W) true hp hx hr;refine fin (s:=Builtin.max_ c.argTypes o.type (c.args.map (Act.mk ts ds).eval)) ?_ h2 (by rw[he];rfl);unfold Builtin.max_;rw[hargs];exact h1
    ·obtain⟨cv,h1,h2⟩:=fJe (P:=P) (W:=W) false hp hx hr;refine fin (s:=Builtin.min_ c.argTypes o.type (c.args.map (Act.mk ts ds).eval)) ?_ h2 (by rw[he];rfl);unfold Builtin.min_;rw[hargs];exact h1
    ·simp at hp
   ·simp at hp
  ·simp at hp
end
end Go.Sx
