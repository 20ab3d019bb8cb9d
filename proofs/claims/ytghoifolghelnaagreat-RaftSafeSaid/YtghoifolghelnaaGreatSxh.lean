/-
 What makes memory and what changes it: the model does what the abstract machine says.
 No condition beyond those that each theorem names.
-/
import Derived.Test.YtghoifolghelnaaGreatSxg
import Derived.IntWalk
set_option linter.unusedVariables false
set_option linter.unusedSimpArgs false
namespace Go.Sx
section
variable {P:Program}{W0:World}{N0:Nat}{m:Emb}{w:AW}{W:World}{tmps:Tm}{ts:Array Value}{ds:List Deferred}
def Fits(m:Emb)(k:Nat):AO→Obj→Nat→Prop
 | .cells cs f own d,O,room=>f=k∧own=k∧d=false∧∃c e fr,O= .cells c e fr∧room=c.size∧(fr.1=fr.2∨c.size≤fr.1)∧cs.length≤c.size∧
   (∀a∈cs,qJc a=true)∧VRs m cs (c.toList.take cs.length)
 | .map es c,O,_=>es=[]∧O= .map #[] c
 | .strIter s p,O,_=>∃bs,O= .stringIter bs p∧bs.data.toList=s
 | .mapIter none _ _ _ _,O,_=>∃s t u,O= .mapIter none s t u
 | .deferred,O,_=>O= .deferred (some [])
 | _,_,_=>False
theorem Rel.grow(h:Rel W0 N0 m w W)(o:AO)(hfam:∀cs f own d,o= .cells cs f own d→f=w.size):Rel W0 N0 m (w.push o) W:=by
 have fold:∀b x,w.fam? b=some x→(w.push o).fam? b=some x:=fun b x hx=>by
  obtain⟨h1,h2⟩:=h.fam_lt hx;exact AW.fam?_congr hx (by simp[Nat.ne_of_lt h1]) (by simp[Nat.ne_of_lt h2])
 have cold:∀b x,w.fam? b=some x→(w.push o).cells? b=w.cells? b:=fun b x hx=>by
  obtain⟨h1,h2⟩:=h.fam_lt hx;exact AW.cells?_congr hx (by simp[Nat.ne_of_lt h1]) (by simp[Nat.ne_of_lt h2])
 have finv:∀b x,b≠w.size→(w.push o).fam? b=some x→w.fam? b=some x:=fun b x hb hx=>by
  obtain⟨cs,ow,d,hg,hr⟩:=AW.fam?_iff.1 hx;simp[hb]at hg;have:=h.wfF _ _ _ _ _ hg;exact AW.fam?_iff.2 ⟨cs,ow,d,hg,by rw[←AW.root?_congr (w':=w.push o) (by simp[Nat.ne_of_lt this])];exact hr⟩
 have hlt:∀{b p},m b=some p→b≠w.size:=fun hb=>Nat.ne_of_lt (h.dom _ _ hb);refine⟨h.env,by simp,fun b p hb=>by have:=h.dom _ _ hb;simp;omega,h.old,?_,?_,?_,?_,?_,?_,?_⟩
 ·intro b p hb;obtain⟨ob,hg,hob⟩:=h.obj b p hb;refine⟨ob,by simp[hlt hb,hg],?_⟩;refine hob.congr m.le_refl rfl (yQm _) (fold b) (fun x hx cs hcs=>by rw[←cold b x hx];exact hcs) ?_;intro d q es v _ hd;have:d≠w.size:=fun e=>by subst e;rw[h.wf _ (yQm _)]at hd;simp at hd
  exact .inl ⟨by simp[this,hd],rfl⟩
 ·intro b b' p p' hb hb' hblk hne;obtain⟨x,hx,hx'⟩:=h.sep b b' p p' hb hb' hblk hne;exact⟨x,fold b x hx,fold b' x hx'⟩
 ·intro b b' p p' x cs cs' hb hb' hblk hf hf' hown hcs hcs';have hx:=finv b x (hlt hb) hf;have hx':=finv b' x (hlt hb') hf';exact h.tip b b' p p' x cs cs' hb hb' hblk hx hx' hown (by rw[←cold b x hx];exact hcs) (by rw[←cold b' x hx'];exact hcs')
 ·intro b x hx h0 hown hd;by_cases e:b=w.size
  ·subst e;obtain⟨cs,ow,d,hg,_⟩:=AW.fam?_iff.1 hx;simp at hg;exact(hfam _ _ _ _ hg).symm
  ·exact h.single b x (finv b x e hx) h0 hown hd
 ·intro b hb;simp at hb;have:b≠w.size:=by omega
  simp[this];exact h.wf b (by omega)
 ·intro b cs f own d hg;by_cases e:b=w.size
  ·subst e;simp at hg;have:=hfam _ _ _ _ hg;simp;omega
  ·simp[e]at hg;have:=h.wfF _ _ _ _ _ hg;simp;omega
 ·intro b p cs own d hb h0 hg;simp[hlt hb]at hg;exact h.root0 _ _ _ _ _ hb h0 hg
theorem Rel.bind(h:Rel W0 N0 m w W){k:Nat}{ob:AO}{O:Obj}{room:Nat}(hk:m k=none)(hklt:k<w.size)(hk0:k≠0)(hg:w.get k=some ob)
    (hf:Fits (m.ext k ⟨W.heap.size,0,room⟩) k ob O room) {W':World} (hW:W'.heap=W.heap.push O) (hE:Env W W'):
    m.le (m.ext k ⟨W.heap.size,0,room⟩)∧Rel W0 N0 (m.ext k ⟨W.heap.size,0,room⟩) w W':=by
  have hle:=m.le_ext ⟨W.heap.size,0,room⟩ hk;have old_of:∀b p,b≠k→(m.ext k ⟨W.heap.size,0,room⟩) b=some p→m b=some p:=fun b p hb hp=>by simpa [Emb.ext,hb]using hp
  have new_of:∀p,(m.ext k ⟨W.heap.size,0,room⟩) k=some p→p=⟨W.heap.size,0,room⟩:=fun p hp=>by simpa [Emb.ext]using hp.symm
  have hWo:∀c,c<W.heap.size→W'.heap[c]? =W.heap[c]? :=fun c hc=>by
    have:c≠W.heap.size:=by omega
    rw[hW];simp[Array.getElem?_push,this]
  have hWn:W'.heap[W.heap.size]? =some O:=by rw[hW];simp
  have hsz:W'.heap.size=W.heap.size+1:=by rw[hW];simp
  refine⟨hle,⟨Env.trans h.env hE,h.pos,?_,⟨by rw[hsz];have:=h.old.1;omega,fun c hc=>by rw[hWo c (by have:=h.old.1;omega)];exact h.old.2 c hc⟩,?_,?_,?_,h.single,h.wf,h.wfF,fun b p cs own d hb h0 hgb=>by
    by_cases e:b=k
    · subst e;rw[new_of p hb]
    · exact h.root0 b p _ _ _ (old_of b p e hb) h0 hgb⟩⟩
  · intro b p hb
    by_cases e:b=k
    · subst e;exact hklt
    · exact h.dom _ _ (old_of b p e hb)
  · intro b p hb
    by_cases e:b=k
    · subst e
      rw[new_of p hb];refine⟨ob,hg,?_⟩
      cases ob with
      | cells cs f own d=>
        obtain⟨hf1,hf2,hf3,c,e,fr,hO,hroom,hfr,hl,hok,hv⟩:=hf;rw[hf1,hf2,hf3]at hg;rw[hO]at hWn;have hroot:w.root? b=some (b,b,false):=AW.root?_iff.2 ⟨cs,hg,rfl⟩;have hfam:w.fam? b=some (b,b,false):=AW.fam?_iff.2 ⟨cs,b,false,hg,hroot⟩;refine⟨c,e,fr,_,hWn,by simp;omega,hfam,⟨⟨W.heap.size,0,room⟩,by simp[Emb.ext]⟩,fun _=>⟨h.old.1,hfr⟩,?_⟩;intro cs' hcs';rw[AW.cells?_iff.2 ⟨_,b,false,hfam, .inl rfl,hg⟩]at hcs';cases hcs';exact⟨by rw[hroom];exact hl,hok,by simpa using hv⟩
      | map es c=>
        obtain⟨rfl,rfl⟩:=hf;exact⟨h.old.1,#[],_,hWn,⟨⟨[],List.Perm.refl _,rfl⟩,List.Pairwise.nil⟩,jJt.nil _⟩
      | strIter s p=>
        obtain⟨bs,rfl,hbs⟩:=hf;exact⟨h.old.1,rfl,bs,hWn,hbs⟩
      | mapIter r=>cases r with
        | none=>obtain⟨s,t,u,rfl⟩:=hf;exact⟨h.old.1,rfl,s,t,u,hWn⟩
        | some r=>exact hf.elim
      | deferred=>
        simp only[Fits]at hf;subst hf;exact⟨h.old.1,hWn⟩
      | loop=>exact hf.elim
      | gone=>exact hf.elim
    · have hb':=old_of b p e hb
      obtain⟨o,hgo,ho⟩:=h.obj b p hb';exact⟨o,hgo,ho.congr hle (hWo _ (h.lt hb')) (by omega) (fun x hx=>hx) (fun x _ cs hcs=>hcs) (fun d q es v hq hd=> .inl ⟨hd,hWo _ (h.lt hq)⟩)⟩
  · intro b b' p p' hb hb' hblk hne
    by_cases e:b=k
    · subst e
      have:=h.lt (old_of b' p' (Ne.symm hne) hb');rw[new_of p hb]at hblk;simp at hblk;omega
    · by_cases e':b'=k
      · subst e'
        have:=h.lt (old_of b p e hb);rw[new_of p' hb']at hblk;simp at hblk;omega
      · exact h.sep b b' p p' (old_of b p e hb) (old_of b' p' e' hb') hblk hne
  · intro b b' p p' x cs cs' hb hb' hblk hf1 hf2 hown hcs hcs'
    by_cases e:b=k
    · by_cases e':b'=k
      · subst e e'
        rw[hb]at hb';rw[hcs]at hcs';cases hb';cases hcs';exact yQm _
      · subst e
        have:=h.lt (old_of b' p' e' hb');rw[new_of p hb]at hblk;simp at hblk;omega
    · by_cases e':b'=k
      · subst e'
        have:=h.lt (old_of b p e hb);rw[new_of p' hb']at hblk;simp at hblk;omega
      · exact h.tip b b' p p' x cs cs' (old_of b p e hb) (old_of b' p' e' hb') hblk hf1 hf2 hown hcs hcs'
theorem dJ7(n:Nat)(z:List AV):repl (n+1) z=z++repl n z:=rfl
theorem dJ6(z:List AV):repl 0 z=[]:=rfl
theorem sJg(n:Nat)(z:List AV):(repl n z).length=n * z.length:=by
 induction n with
 | zero=>simp[dJ6]
 | succ n ih=>rw[dJ7,yQs,ih,Nat.succ_mul,Nat.add_comm]
theorem fJl {z:List AV}{cz:Array Value}(hz:VRs m z cz.toList)(n:Nat):
    VRs m (repl n z) ((Array.range (n * cz.size)).map (fun i=>cz[i % cz.size]!)).toList:=by
  have key:∀n,((List.range (n * cz.size)).map (fun i=>cz[i % cz.size]!))=Nat.rec [] (fun _ ih=>cz.toList++ih) n:=by
    intro n
    induction n with
    | zero=>rw[Nat.zero_mul];rfl
    | succ n ih=>
      have:(n+1) * cz.size=cz.size+n * cz.size:=by rw[Nat.succ_mul,Nat.add_comm]
      rw[this,List.range_add,List.map_append,List.map_map];show _=cz.toList++_;rw[←ih];congr 1
      · apply List.ext_getElem
        · simp
        · intro i h1 h2
          simp at h1 h2 ⊢;rw[Nat.mod_eq_of_lt h1];simp[h1]
      · apply List.map_congr_left
        intro i _;simp
  have:((Array.range (n * cz.size)).map (fun i=>cz[i % cz.size]!)).toList=(List.range (n * cz.size)).map (fun i=>cz[i % cz.size]!):=by simp
  rw[this,key];clear this key
  induction n with
  | zero=>rw[dJ6];exact VRs.nil
  | succ n ih=>rw[dJ7];exact hz.append ih
theorem sJf {z:List AV}(hz:z.all qJc=true)(n:Nat):∀a∈repl n z,qJc a=true:=by
  induction n with
  | zero=>rw[dJ6];simp
  | succ n ih=>
    rw[dJ7];intro a ha;rcases yQ1.1 ha with ha | ha
    · exact yQv.1 hz a ha
    · exact ih a ha
theorem hJ5 {n:Nat}(h:n<2^63):IntKind.i64.wrap (n:Int)=n:=by
 have h':n<9223372036854775808:=h;exact IntWalk.i64_in _ (by omega)
theorem kJi {t:TypeId}{z:AV}(h:zJv P t=some z):
  ∃v,(∀W,(zeroValue t).run P W= .ok v W)∧(∀m,VR m z v)∧szOf P t=some z.cells.length∧v.cells.size=z.cells.length:=by
 unfold zJv at h;simp only[yQi]at h;obtain⟨z',⟨v,⟨i,hi,hz⟩,hv⟩,n,hn,hg⟩:=h;obtain⟨hl,h2⟩:=qJe.1 hg;cases h2;refine⟨v,fun W=>?_,fun m=>xJa m v _ hv,?_,?_⟩
 ·rw[zeroValue,qJb (zJ1 hi)];simp[hz,qJo]
 ·rw[hn,yQp hl]
 ·have:=(jJj (xJa (fun _=>none) v _ hv)).length;simp at this;omega
theorem jJ9 {e:TypeId}{c:Array Value}:(newRow e c).run P W= .ok ⟨W.heap.size,0,none⟩ (jJ4 W (.cells c e)):=rfl
theorem mJc(ht:VRs m tmps ts.toList){o:Oper}{k:Nat}{v:AV}{ob:AO}(hkw:k=w.size)
    (ha:zJj P w tmps o.op=some (v,ob)) (hno:m k=none):
    ∃cv W' O room,(execOp (Act.mk ts ds).eval o).run P W= .ok (.value cv) W'∧W'.heap=W.heap.push O∧Env W W'∧
      VR (m.ext k ⟨W.heap.size,0,room⟩) v cv∧Fits (m.ext k ⟨W.heap.size,0,room⟩) k ob O room:=by
  have hxk:∀room,(m.ext k ⟨W.heap.size,0,room⟩) k=some ⟨W.heap.size,0,room⟩:=fun room=>by simp[Emb.ext]
  have hle:∀room,m.le (m.ext k ⟨W.heap.size,0,room⟩):=fun room=>m.le_ext _ hno;cases hop:o.op<;>rw[hop]at ha<;>simp only[zJj]at ha<;>(try (simp at ha;done))
  case alloc t=>
    rw[yQi]at ha;obtain⟨z,hz,ha⟩:=ha;obtain⟨hg,h2⟩:=qJe.1 ha;cases h2;obtain⟨zv,hrun,hvr,_,hsz⟩:=kJi hz;refine⟨.pointer (some ⟨W.heap.size,0,none⟩),jJ4 W (.cells zv.cells t), .cells zv.cells t,zv.cells.size,?_,rfl,⟨rfl,rfl⟩,?_,?_⟩
    · unfold execOp;rw[hop]
      refine gJj ?_;rw[Instr.alloc,qJb (hrun W)];simp only[];rw[newVar,qJb jJ9];rfl
    · simp only[VR];exact⟨_,by rw[←hkw];exact hxk _,by simp⟩
    · have hvr':=jJj ((hvr m).mono (hle zv.cells.size))
      rw[hkw];refine⟨rfl,rfl,rfl,zv.cells,t,(0,0),rfl,rfl, .inl rfl,by omega,yQv.1 hg,?_⟩;rw[←hkw,yQ5 (by simp;omega)];exact hvr'
  case box t x=>
    rw[yQi]at ha;obtain⟨z,hz,ha⟩:=ha;obtain⟨hg,h2⟩:=qJe.1 ha;cases h2;have hvr:=qJj (ds:=ds) ht hz;have hvr':=jJj hvr;have hsz:((Act.mk ts ds).eval x).cells.size=z.cells.length:=by have:=hvr'.length;simp at this;omega
    refine⟨.pointer (some ⟨W.heap.size,0,none⟩),jJ4 W (.cells ((Act.mk ts ds).eval x).cells t), .cells ((Act.mk ts ds).eval x).cells t,((Act.mk ts ds).eval x).cells.size,?_,rfl,⟨rfl,rfl⟩,?_,?_⟩
    · unfold execOp;rw[hop]
      refine gJj ?_;rw[Instr.box,newVar,qJb jJ9];rfl
    · simp only[VR];exact⟨_,by rw[←hkw];exact hxk _,by simp⟩
    · rw[hkw]
      refine⟨rfl,rfl,rfl,_,t,(0,0),rfl,rfl, .inl rfl,by omega,yQv.1 hg,?_⟩;rw[←hkw,yQ5 (by simp;omega)];exact hvr'.mono (hle _)
  case buildSlice t len ps=>
    simp only[yQi]at ha;obtain⟨e,he,s,hs,z,hz,qs,hqs,ha⟩:=ha;obtain⟨hg,h2⟩:=qJe.1 ha;simp only[yQl]at h2;obtain⟨cs,hcs,h3⟩:=h2;cases h3;simp only[gQ3,Nat.ble_eq]at hg;rw[zJf]at he;obtain⟨zv,hrun,hvr,hsz,hzs⟩:=kJi hz;rw[hs]at hsz;have hse:s=z.cells.length:=gQb hsz
    -- the cells at the begin
    let zc:Array Value:=(Array.range (len * s)).map (fun i=>zv.cells[i % zv.cells.size]!)
    have hzc:VRs m (repl len z.cells) zc.toList:=by
      have:=fJl (jJj (hvr m)) len;show VRs m _ ((Array.range (len * s)).map (fun i=>zv.cells[i % zv.cells.size]!)).toList;rw[hse,←hzs];exact this
    obtain⟨cr,hfill,hcr,hcrl⟩:=wJz hcs hzc (hJe (ds:=ds) ht hqs);have hl:cs.length=cr.size:=by have:=hcr.length;simpa using this
    refine⟨.slice (some ⟨W.heap.size,0,none⟩) len len,jJ4 W (.cells cr e), .cells cr e,cr.size,?_,rfl,⟨rfl,rfl⟩,?_,?_⟩
    · unfold execOp;rw[hop]
      refine gJj ?_;rw[Instr.buildSlice,qJb (qJa he)];simp only[];rw[qJb (qJ9 hs)];have:¬ (len * s>2^24):=by omega
      simp only[this,if_false];by_cases h0:len * s=0
      · simp only[h0,if_true,qJn]
        have hz0:zc=#[]:=by
          show(Array.range (len * s)).map _=#[];rw[h0];simp
        rw[hz0]at hfill;have:(Array.range 0).map (fun x=>(#[]:Array Value)[x % (#[]:Array Value).size]!)=#[]:=by simp
        rw[this,hfill];simp only[];rw[qJb jJ9];rfl
      · simp only[h0,if_false]
        rw[qJb (hrun W),qJn];have:(Array.range (len * s)).map (fun x=>zv.cells[x % zv.cells.size]!)=zc:=rfl;rw[this,hfill];simp only[];rw[qJb jJ9];rfl
    · simp only[VR]
      exact⟨_,_,len,by rw[←hkw];exact hxk _,rfl,yQm _,rfl,fun _=>by simp⟩
    · rw[hkw]
      refine⟨rfl,rfl,rfl,cr,e,(0,0),rfl,rfl, .inl rfl,by omega,aJ9 hcs (sJf hg.2 len) hg.1.2,?_⟩;rw[←hkw,yQ5 (by simp;omega)];exact hcr.mono (hle _)
  case makeMap t r=>
    cases r with
    | some _=>simp at ha
    | none=>
      simp only[yQx,Prod.mk.injEq]at ha;obtain⟨rfl,rfl⟩:=ha;refine⟨.map (some W.heap.size),jJ4 W (.map #[] 0), .map #[] 0,0,?_,rfl,⟨rfl,rfl⟩,?_,?_⟩
      · unfold execOp;rw[hop];rfl
      · simp only[VR];exact⟨_,by rw[←hkw];exact hxk _,rfl⟩
      · exact⟨rfl,rfl⟩
  case makeSlice t l c=>
    simp only[yQi]at ha;obtain⟨e,he,ln,⟨lv,hlv,hln⟩,cn,⟨cv,hcv,hcn⟩,z,hz,bytes,hby,ha⟩:=ha;obtain⟨hg,h2⟩:=qJe.1 ha;cases h2;simp only[gQ3,Nat.ble_eq]at hg;obtain⟨⟨⟨g1,g2⟩,g3⟩,g4⟩:=hg;have g3':cn<2^63:=by
      have:=g3;simp[Nat.blt]at this;have e:(2:Nat)^63=9223372036854775808:=by decide
      omega
    rw[zJf]at he;obtain⟨zv,hrun,hvr,hsz,hzs⟩:=kJi hz;obtain⟨kl,hel,hrl⟩:=kJ2 (P:=P) (W:=W) hln (qJj (ds:=ds) ht hlv);obtain⟨kc,hec,hrc⟩:=kJ2 (P:=P) (W:=W) hcn (qJj (ds:=ds) ht hcv);unfold bytesOf at hby
    simp only[yQl]at hby
    obtain⟨ie,hie,rfl⟩:=hby
    let zc:Array Value:=(Array.range (cn * zv.cells.size)).map (fun i=>zv.cells[i % zv.cells.size]!)
    have hzc:VRs m (repl cn z.cells) zc.toList:=fJl (jJj (hvr m)) cn;have hl:(repl cn z.cells).length=zc.size:=by have:=hzc.length;simpa using this
    refine⟨.slice (some ⟨W.heap.size,0,none⟩) ln cn,jJ4 W (.cells zc e), .cells zc e,zc.size,?_,rfl,⟨rfl,rfl⟩,?_,?_⟩
    · unfold execOp;rw[hop]
      refine gJj ?_;rw[Instr.makeSlice,qJb (qJa he)];simp only[];rw[qJb (a:=(ln:Int)) (W':=W) (by unfold asInt;rw[qJb hrl];rfl)];rw[qJb (a:=(cn:Int)) (W':=W) (by unfold asInt;rw[qJb hrc];rfl)];rw[qJb (zJ1 hie)];simp only[hJ5 g3',hJ5 (Nat.lt_of_le_of_lt g1 g3')];have hb:(ie.bytes:Int) * (cn:Int)≤140737488355328:=by
        have:((cn * ie.bytes:Nat):Int)≤((2^47:Nat):Int):=by exact_mod_cast g2
        rw[Int.mul_comm];simpa using this
      split
      · rename_i hc
        exfalso;simp only[Bool.or_eq_true,decide_eq_true_eq]at hc;have e48:(2:Int)^48=281474976710656:=by decide
        rw[e48]at hc;omega
      · skip
        have hroom:(askRoom ((cn:Int).toNat * ie.bytes)).run P W= .ok () W:=by
          unfold askRoom;split<;>rfl
        rw[qJb hroom];simp only[Int.toNat_natCast];rw[qJb (qJ9 hsz)];have hzz:z.cells.length=zv.cells.size:=hzs.symm;by_cases h0:cn * z.cells.length=0
        · simp only[h0,if_true,qJn]
          have:(Array.range 0).map (fun x=>(#[]:Array Value)[x % (#[]:Array Value).size]!)=zc:=by
            show _=(Array.range (cn * zv.cells.size)).map _;rw[hzs,h0];simp
          rw[this,qJb jJ9];rfl
        · simp only[h0,if_false]
          rw[qJb (hrun W),qJn];have:(Array.range (cn * z.cells.length)).map (fun x=>zv.cells[x % zv.cells.size]!)=zc:=by
            show _=(Array.range (cn * zv.cells.size)).map _;rw[hzs]
          rw[this,qJb jJ9];rfl
    · simp only[VR]
      exact⟨_,_,cn,by rw[←hkw];exact hxk _,rfl,g1,rfl,fun _=>by simp⟩
    · rw[hkw]
      refine⟨rfl,rfl,rfl,zc,e,(0,0),rfl,rfl, .inl rfl,by omega,sJf g4 cn,?_⟩;rw[←hkw,yQ5 (by simp;omega)];exact hzc.mono (hle _)
  case convert s d x=>
    rw[yQi]at ha;obtain⟨a,hav,ha⟩:=ha;have hvr:=qJj (ds:=ds) ht hav;cases a<;>simp only[]at ha<;>(try (simp at ha;done));rename_i b;simp only[VR]at hvr;obtain⟨bs,hbs,hb⟩:=hvr;simp only[yQi]at ha;obtain⟨us,hus,e,he,ue,hue,ha⟩:=ha;obtain⟨hg,h2⟩:=qJe.1 ha;cases h2;simp only[gQ3,zJl,dJq]at hg;obtain⟨rfl,rfl⟩:=hg;rw[zJf]at he;have hsize:=uJe hb
    -- the capacity that is drawn
    let q:Question:= .appendCap bs.size 0 e
    let cap:Nat:=q.cut (W.tape W.drawn q)
    have hcap:bs.size≤cap:=by show bs.size≤bs.size+_;omega
    let W1:World:={W with drawn:=W.drawn+1}
    have hch:(choose q).run P W= .ok cap W1:=by
      unfold choose;simp only[Sem.run];have:q.forced=false:=rfl;rw[this];rfl
    let row:Array Value:=(bs.data.map fun b=>Value.int .u8 b.toNat)++Array.replicate (cap - bs.size) (.int .u8 0)
    have hrow:row.size=cap:=by
      have:bs.data.size=bs.size:=rfl;simp[row,this];omega
    let fr':Nat×Nat:=(row.size,row.size+1)
    refine⟨.slice (some ⟨W.heap.size,0,none⟩) bs.size cap,{W1 with heap:=W.heap.push (.cells row e fr')}, .cells row e fr',row.size,?_,rfl,⟨rfl,rfl⟩,?_,?_⟩
    · unfold execOp;rw[hop]
      refine gJj ?_;simp only[hbs];rw[convert,qJb (qJa hus),qJb (qJa he)];simp only[];rw[qJb (qJa hue)];simp only[];rw[Conv.stringToBytes,qJb hch];have hnr:(newRow e row).run P W1= .ok ⟨W.heap.size,0,none⟩ (jJ4 W1 (.cells row e)):=rfl;rw[qJb hnr];have hmark:(markStringish ⟨W.heap.size,0,none⟩).run P (jJ4 W1 (.cells row e))= .ok () {W1 with heap:=W.heap.push (.cells row e fr')}:=by
        have hg:(jJ4 W1 (.cells row e)).heap[W.heap.size]? =some (.cells row e (0,0)):=by
          show(W.heap.push _)[W.heap.size]? =_;simp
        have hshape:(jJ4 W1 (.cells row e)).shape? W.heap.size=some (e,row.size):=by simp[World.shape?,hg]
        unfold markStringish;rw[qJb (a:=some (e,row.size)) (W':=jJ4 W1 (.cells row e)) (by simp[shape,Sem.run,hshape])];simp only[freeze,Sem.run];congr 1;simp only[World.freeze,Nat.one_ne_zero,if_false];show({W1 with heap:=(W.heap.push _).modify W.heap.size _}:World)=_;congr 1;apply Array.ext_getElem?;intro j;rw[Array.getElem?_modify];simp only[Array.getElem?_push];by_cases hj:j=W.heap.size
        · subst hj;simp[fr']
        · have:¬ W.heap.size=j:=fun e=>hj e.symm
          simp[hj,this]
      rw[qJb hmark];rfl
    · simp only[VR]
      refine⟨_,_,cap,by rw[←hkw];exact hxk _,by rw[hsize],yQm _,?_,fun _=>by simp⟩;simp only[CapR];exact⟨by omega,by rw[hrow];omega⟩
    · rw[hkw]
      refine⟨rfl,rfl,rfl,row,e,fr',rfl,rfl, .inr (yQm _),?_,?_,?_⟩
      · simp[qJk,hrow];omega
      · intro a ha
        simp only[qJk,List.mem_map]at ha;obtain⟨_,_,rfl⟩:=ha;rfl
      · have hc:∀(l:List UInt8),VRs (m.ext w.size ⟨W.heap.size,0,row.size⟩) (qJk l) (l.map fun b=>Value.int .u8 b.toNat):=by
          intro l
          induction l with
          | nil=>exact VRs.nil
          | cons x l ih=>exact VRs.cons (by simp[VR]) ih
        have:row.toList.take (qJk b).length=b.map fun b=>Value.int .u8 b.toNat:=by
          subst hb;simp[row,qJk]
        rw[this];exact hc b
  case range t x=>
    rw[yQi]at ha;obtain⟨a,hav,ha⟩:=ha;have hvr:=qJj (ds:=ds) ht hav;simp only[yQl]at ha;obtain⟨ob',hob,he⟩:=ha;cases he;unfold tJ2 at hob;split at hob
    · rename_i l
      rw[yQi]at hob;obtain⟨u,hu,h1⟩:=hob;obtain⟨hg,h2⟩:=qJe.1 h1;rw[zJl]at hg;subst hg;cases h2;simp only[VR]at hvr;obtain⟨bs,hbs,hb⟩:=hvr;refine⟨.pointer (some ⟨W.heap.size,0,none⟩),jJ4 W (.stringIter bs 0), .stringIter bs 0,0,?_,rfl,⟨rfl,rfl⟩,?_,⟨bs,rfl,hb⟩⟩
      · unfold execOp;rw[hop]
        refine gJj ?_;simp only[hbs];rw[Instr.range,qJb (qJa hu)];rfl
      · simp only[VR];exact⟨_,by rw[←hkw];exact hxk _,rfl⟩
    · simp only[yQl,yQi]at hob
      obtain⟨ke,⟨u,hu,hm⟩,rfl⟩:=hob;rw[jJa]at hm;subst hm;simp only[VR]at hvr;refine⟨.pointer (some ⟨W.heap.size,0,none⟩),jJ4 W (.mapIter none 0 #[] 0), .mapIter none 0 #[] 0,0,?_,rfl,⟨rfl,rfl⟩,?_,⟨0,#[],0,rfl⟩⟩
      · unfold execOp;rw[hop]
        refine gJj ?_;simp only[hvr];rw[Instr.range,qJb (qJa hu)];rfl
      · simp only[VR];exact⟨_,by rw[←hkw];exact hxk _,rfl⟩
    · simp at hob
end
end Go.Sx
namespace Go.Sx
structure Ext(m m':Emb)(w w':AW):Prop where
 le:m.le m'
 new:∀b p,m' b=some p→m b=some p∨w.size≤b
 keep:∀b,b<w.size→m b=none→w'.get b=w.get b
 size:w.size≤w'.size
theorem Ext.refl(m:Emb)(w:AW):Ext m m w w:=⟨m.le_refl,fun _ _ h=> .inl h,fun _ _ _=>rfl,yQm _⟩
theorem Ext.trans {m m1 m2:Emb}{w w1 w2:AW}(h:Ext m m1 w w1)(h':Ext m1 m2 w1 w2):Ext m m2 w w2:=by
  refine⟨Emb.le_trans h.le h'.le,?_,?_,gQt h.size h'.size⟩
  · intro b p hb
    rcases h'.new b p hb with h1 | h1
    · exact h.new b p h1
    · exact .inr (gQt h.size h1)
  · intro b hb hm
    have hm1:m1 b=none:=by
      cases e:m1 b with
      | none=>rfl
      | some p=>
        rcases h.new b p e with h1 | h1
        · rw[hm]at h1;simp at h1
        · omega
    rw[h'.keep b (Nat.lt_of_lt_of_le hb h.size) hm1,h.keep b hb hm]
section
variable {P:Program}{W0:World}{N0:Nat}{m:Emb}{w:AW}{W:World}{tmps:Tm}{ts:Array Value}{ds:List Deferred}
theorem Ext.put {b o:Nat}{vs:List AV}{w':AW}(h:Rel W0 N0 m w W)(hp:w.putCells b o vs=some w'){p:Pl}(hb:m b=some p):Ext m m w w':=by
 obtain⟨f,own,dirty,cs,own1,dirty1,cs0,hf,hc,hf0,hlen,hsz,hgb,hgf,hcase⟩:=vJu hp;refine⟨m.le_refl,fun _ _ h=> .inl h,fun k hk hm=>?_,by omega⟩;have hkb:k≠b:=fun e=>by subst e;rw[hb]at hm;simp at hm
 have hkf:k≠f:=fun e=>by
  subst e;obtain⟨ob,hg,hob⟩:=h.obj b p hb;rw[hgb]at hg;cases hg;obtain⟨_,_,_,x,_,_,hx,⟨q,hq⟩,_⟩:=hob;rw[hf]at hx;cases hx;rw[hq]at hm;simp at hm
 rcases hcase with⟨_,_,_,hg⟩ | ⟨_,_,hg⟩ | ⟨_,hg⟩<;>simp[hg,hkb,hkf]
theorem Ext.push(h:Rel W0 N0 m w W)(ob:AO)(p:Pl):Ext m (m.ext w.size p) w (w.push ob):=by
 have hno:m w.size=none:=by
  cases hm:m w.size with
  | none=>rfl
  | some p=>exact absurd (h.dom _ _ hm) (gQx _)
 refine⟨m.le_ext p hno,fun b q hb=>?_,fun b hb _=>?_,by simp⟩
 ·by_cases e:b=w.size
  ·exact .inr (by omega)
  ·exact .inl (by simpa [Emb.ext,e]using hb)
 ·have:b≠w.size:=by omega
  simp[this]
theorem Ext.heir(h:Rel W0 N0 m w W){b:Nat}{cs:List AV}{w':AW}(hh:w.heir b cs=some w'){p pn:Pl}(hb:m b=some p):Ext m (m.ext w.size pn) w w':=by
 obtain⟨f,dirty,cs0,hf,hf0,hlt,hgf,hws,hget⟩:=cJd h.wf hh;have hno:m w.size=none:=by
  cases hm:m w.size with
  | none=>rfl
  | some p=>exact absurd (h.dom _ _ hm) (gQx _)
 refine⟨m.le_ext pn hno,fun b q hb=>?_,fun k hk hm=>?_,by omega⟩
 ·by_cases e:b=w.size
  ·exact .inr (by omega)
  ·exact .inl (by simpa [Emb.ext,e]using hb)
 ·have hkf:k≠f:=fun e=>by
   subst e;obtain⟨ob,hg,hob⟩:=h.obj b p hb;obtain⟨_,_,_,hgb,_⟩:=AW.fam?_iff.1 hf;rw[hgb]at hg;cases hg;obtain⟨_,_,_,x,_,_,hx,⟨q,hq⟩,_⟩:=hob;rw[hf]at hx;cases hx;rw[hq]at hm;simp at hm
  have:k≠w.size:=by omega
  simp[hget,this,hkf]
theorem lJk:∀(r n c:Nat),c≤n+(n+768) / 4→Builtin.growBy n r c≤n+(n+768) / 4
  | 0,n,c,h=>h
  | r+1,n,c,h=>by
    unfold Builtin.growBy;split
    · exact h
    · exact lJk r n _ (by omega)
theorem iJr {n c:Nat}(h:c<n):Builtin.nextslicecap n c≤2 * n+1000:=by
 unfold Builtin.nextslicecap;split
 ·omega
 ·split
  ·omega
  ·have:=lJk 4 n c (by omega);omega
theorem sJr {n:Nat}(h:0<n):Builtin.nextslicecap n 0=n:=by
 unfold Builtin.nextslicecap;rw[if_pos (by omega)]
def pJd(elem:TypeId)(size:Nat)(base:Option Addr)(sLen sCap n:Nat)(zeros:Bool)(appended:Sem (Array Value))(s x:Value):Sem Value:=do
 let need:=sLen+n
 if need≤sCap then
  let new←appended
  if let some a:=base then storeCells (a.add (sLen * size)) new.toList
  pure (.slice base need sCap)
 else
  if (need : Int) > IntKind.i64.max ∧ (zeros ∨ (← typeInfo elem).bytes = 0) then runtimePanic (.error "growslice: len out of range")
  if Builtin.nextslicecap need sCap * (← typeInfo elem).bytes > 2 ^ 48 then (if zeros then runtimePanic (.error "growslice: len out of range") else do
   if !(←Builtin.mayShare size sLen n base x)then mark .noRoom
   unsupported (.resourceLimit "append: a slice or a string whose bytes no memory bears"))
  let newCap←choose (.appendCap need sCap elem)
  askRoom (newCap * (←typeInfo elem).bytes)
  let old←Builtin.firstCells size sLen s
  let new←appended
  let rest:=Builtin.zeroCells (←zeroValue elem).cells (newCap - need)
  pure (.slice (some (←newRow elem (old++new++rest))) need newCap)
theorem tJy {elem:TypeId}{size sLen sCap n:Nat}{zeros:Bool}{appended:Sem (Array Value)}{base:Option Addr}{s x:Value}{ie:TypeInfo}{old new:Array Value}{z:AV}
    (hi:P.info? elem=some ie) (hz:zJv P elem=some z) (hneed:¬ sLen+n≤sCap) (h62:sLen+n<2^62)
    (hroom:Builtin.nextslicecap (sLen+n) sCap * ie.bytes≤2^48) (hold:∀W',W'.heap=W.heap→(Builtin.firstCells size sLen s).run P W'= .ok old W')
    (hnew:∀W',W'.heap=W.heap→appended.run P W'= .ok new W'):
    ∃(zv:Value) (newCap:Nat) (W':World),VR m z zv∧zv.cells.size=z.cells.length∧sLen+n≤newCap∧
      (pJd elem size base sLen sCap n zeros appended s x).run P W= .ok (.slice (some ⟨W.heap.size,0,none⟩) (sLen+n) newCap) W'∧
      W'.heap=W.heap.push (.cells (old++new++Builtin.zeroCells zv.cells (newCap - (sLen+n))) elem)∧Env W W':=by
  obtain⟨zv,hrun,hvr,_,hzs⟩:=kJi hz
  let q:Question:= .appendCap (sLen+n) sCap elem
  let newCap:Nat:=q.cut (W.tape W.drawn q)
  let W1:World:={W with drawn:=W.drawn+1}
  have hcap:sLen+n≤newCap:=by show sLen+n≤sLen+n+_;omega
  have hch:(choose q).run P W= .ok newCap W1:=by
    unfold choose;simp only[Sem.run];have:q.forced=false:=rfl;rw[this];rfl
  refine⟨zv,newCap,jJ4 W1 (.cells (old++new++Builtin.zeroCells zv.cells (newCap - (sLen+n))) elem),hvr m,hzs,hcap,?_,rfl,⟨rfl,rfl⟩⟩;unfold pJd;simp only[hneed,if_false];have e62:(2:Nat)^62=4611686018427387904:=by decide
  have hmax:IntKind.i64.max=9223372036854775807:=rfl;have c1:¬ (((sLen+n:Nat):Int)>IntKind.i64.max):=by rw[hmax];omega
  rw[qJb (zJ1 hi)];simp only[c1,false_and,if_false];rw[qJb (zJ1 hi)];have c2:¬ (Builtin.nextslicecap (sLen+n) sCap * ie.bytes>2^48):=by omega
  simp only[c2,if_false];rw[qJb hch,qJb (zJ1 hi)];have hask:(askRoom (newCap * ie.bytes)).run P W1= .ok () W1:=by unfold askRoom;split<;>rfl
  rw[qJb hask,qJb (hold W1 rfl),qJb (hnew W1 rfl),qJb (hrun W1),qJb jJ9];rfl
structure Src(P:Program)(W:World)(size:Nat)(appended:Sem (Array Value))(m:Emb)(n:Nat)(new:List AV)where
 row:Array Value
 run:∀W',W'.heap=W.heap→appended.run P W'= .ok row W'
 vr:VRs m new row.toList
 len:new.length=n * size
theorem dJw(h:Rel W0 N0 m w W){size n:Nat}{x:AV}{cx:Value}{new:List AV}(hs:zJp w size x=some (n,new))(hx:VR m x cx):
  (∀W',(Builtin.lenOf cx).run P W'= .ok n W')∧Nonempty (Src P W size (Builtin.firstCells size n cx) m n new):=by
 unfold zJp at hs;split at hs
 ·cases hs;simp only[VR]at hx;subst hx;exact⟨fun _=>rfl,⟨⟨#[],fun _ _=>rfl,VRs.nil,by simp⟩⟩⟩
 ·rename_i b o nn cap ex;simp only[yQl]at hs;obtain⟨cs,hcs,he⟩:=hs;cases he;simp only[VR]at hx;obtain⟨q,ad,cc,hq,rfl,hlc,hcr,had⟩:=hx;unfold AW.read at hcs;split at hcs
  ·rename_i cells hcells;obtain⟨hle,rfl⟩:=zJq hcs;obtain⟨crow,el,fr,hW,hroom,hlen,hok,hv⟩:=h.row hq hcells;refine⟨fun _=>rfl,⟨⟨((crow.toList.drop (q.off+o)).take (n * size)).toArray,?_,by simpa using hv.seg hle,by simp;omega⟩⟩⟩;intro W' hW';show(loadCells ad (n * size)).run P W'=_;by_cases h0:n=0
   ·subst h0;simp[loadCells,loadCellsFrom,qJo]
   ·have hcc:cc≠0:=by
     cases ex with
     | none=>simp only[CapR]at hcr;omega
     | some s=>simp only[CapR]at hcr;omega
    rw[had hcc];exact jJy (by rw[hW'];exact hW) (by omega)
  ·simp at hcs
 ·rename_i l;obtain⟨hg,h2⟩:=qJe.1 hs;have hsz:=yQp hg;subst hsz;cases h2;simp only[VR]at hx;obtain⟨bs,rfl,hb⟩:=hx;refine⟨fun _=>by show Result.ok bs.size _=_;rw[uJe hb],⟨⟨(bs.extract 0 l.length).data.map fun b=> .int .u8 b.toNat,fun _ _=>rfl,?_,by simp[qJk]⟩⟩⟩;have e:(bs.extract 0 l.length).data.toList=l:=by
   rw[ByteArray.data_extract,Array.toList_extract,hb];simp
  have hc:∀(l:List UInt8),VRs m (qJk l) (l.map fun b=>Value.int .u8 b.toNat):=by
   intro l
   induction l with
   | nil=>exact VRs.nil
   | cons x l ih=>exact VRs.cons (by simp[VR]) ih
  rw[Array.toList_map,e];exact hc l
 ·simp at hs
theorem yJ9 {z:List AV}{cz:Array Value}(hz:VRs m z cz.toList)(n:Nat):VRs m (repl n z) (Builtin.zeroCells cz n).toList:=by
 unfold Builtin.zeroCells;exact fJl hz n
theorem vJx(cz:Array Value)(n:Nat):(Builtin.zeroCells cz n).size=n * cz.size:=by simp[Builtin.zeroCells]
theorem yJ6(h:Rel W0 N0 m w W){ats:Array TypeId}{ty st e:TypeId}{args:Array Value}{size bytes sLen sCap n:Nat}{base:Option Addr}{x:AV}{cx:Value}{new:List AV}
    (h0:ats[0]? =some st) (a0:args[0]? =some (.slice base sLen sCap)) (a1:args[1]? =some cx) (he:P.underlying st=some (.slice e)) (hs:szOf P e=some size)
    (hb:bytesOf P e=some bytes) (hsrc:appSrc P w e size bytes ats[1]? x=some (n,new)) (hx:VR m x cx):
    ∃zeros appended,Nonempty (Src P W size appended m n new)∧
      (Builtin.append_ ats ty args).run P W=(pJd e size base sLen sCap n zeros appended (.slice base sLen sCap) cx).run P W:=by
  unfold appSrc at hsrc;unfold Builtin.append_;simp only[h0,a0,a1];rw[qJb (qJa he)];simp only[];rw[qJb (qJ9 hs)];split at hsrc
  · rename_i hn
    simp only[hn];obtain⟨hl,⟨src⟩⟩:=dJw (P:=P) h hsrc hx;refine⟨false,Builtin.firstCells size n cx,⟨src⟩,?_⟩;rw[qJn];refine(qJb (s:=Builtin.lenOf cx) (hl W)).trans ?_;rfl
  · rename_i t hn
    simp only[hn];rw[yQi]at hsrc;obtain⟨u,hu,hsrc⟩:=hsrc;rw[qJb (qJa hu)];split at hsrc
    · rename_i k hk
      rw[mJy]at hk;subst hk;unfold madeCells at hsrc;split at hsrc
      · rename_i nn
        rw[yQi]at hsrc;obtain⟨z,hz,hsrc⟩:=hsrc;obtain⟨hg,h2⟩:=qJe.1 hsrc;cases h2;simp only[gQ3]at hg;simp only[VR]at hx;subst hx;obtain⟨zv,hrun,hvr,hzs,hzl⟩:=kJi hz;have hss:size=z.cells.length:=by rw[hs]at hzs;exact gQb hzs
        have hn40:n<1099511627776:=by
          have:=hg.1;simp[Nat.blt]at this;have e40:(2:Nat)^40=1099511627776:=by decide
          omega
        have hnr:n * bytes<2^48:=by
          have:=hg.2;simp[Nat.blt,room]at this;have e48:(2:Nat)^48=281474976710656:=by decide
          omega
        refine⟨true,if n * size=0 then pure #[]else do pure (Builtin.zeroCells (←zeroValue e).cells n),⟨⟨Builtin.zeroCells zv.cells n,?_,yJ9 (jJj (hvr m)) n,by rw[sJg,hss]⟩⟩,?_⟩
        · intro W' _
          split
          · rename_i h00
            have:Builtin.zeroCells zv.cells n=#[]:=by
              apply Array.eq_empty_of_size_eq_zero;rw[vJx,hzl,←hss];exact h00
            rw[this];rfl
          · rw[qJb (hrun W')];rfl
        · rw[qJn]
          have hai:(asInt (.int .i64 (Int.ofNat n))).run P W= .ok (n:Int) W:=rfl;have hw:IntKind.i64.wrap (n:Int)=n:=hJ5 (by
                                                                   have:(2:Nat)^63=9223372036854775808:=by decide
                                                                   omega)
          have c1:¬ ((n:Int)<0):=by omega
          unfold bytesOf at hb;simp only[yQl]at hb;obtain⟨ie,hie,rfl⟩:=hb;have c2:¬ ((n:Int) * (ie.bytes:Int)>2^48):=by
            have:((n * ie.bytes:Nat):Int)<((2^48:Nat):Int):=by exact_mod_cast hnr
            have e48:((2^48:Nat):Int)=281474976710656:=by decide
            have e48':(2:Int)^48=281474976710656:=by decide
            rw[e48]at this;rw[e48'];have e2:((n * ie.bytes:Nat):Int)=(n:Int) * (ie.bytes:Int):=by simp
            omega
          rw[if_pos rfl,qJb hai];have c1':¬ (IntKind.i64.wrap (n:Int)<0):=by rw[hw];exact c1
          have c2':¬ (IntKind.i64.wrap (n:Int) * (ie.bytes:Int)>2^48):=by rw[hw];exact c2
          rw[if_neg c1',qJb (zJ1 hie),if_neg c2',qJn,hw,Int.toNat_natCast];rfl
      · simp at hsrc
    · rename_i hk
      obtain⟨hl,⟨src⟩⟩:=dJw (P:=P) h hsrc hx;refine⟨false,Builtin.firstCells size n cx,⟨src⟩,?_⟩;rw[qJn]
      cases u with
      | int k=>simp[kJw]at hk
      | _=>
        refine(qJb (s:=Builtin.lenOf cx) (hl W)).trans ?_;rfl
end
end Go.Sx
namespace Go.Sx
section
variable {P:Program}{W0:World}{N0:Nat}{m:Emb}{w:AW}{W:World}{tmps:Tm}{ts:Array Value}{ds:List Deferred}
theorem sJa {c:Array Value}{i:Nat}{vs:List Value}(h:i+vs.length≤c.size):(jJz c i vs).toList.take i=c.toList.take i:=by
 show(c.toList.take i++vs++c.toList.drop (i+vs.length)).take i=_;rw[yQy,gQk (by simp;omega),List.take_take,Nat.min_self]
theorem sJh(h:Rel W0 N0 m w W){b o n:Nat}{cs:List AV}{q:Pl}(hq:m b=some q)(hr:w.read b o n=some cs):∀a∈cs,qJc a=true:=by
 unfold AW.read at hr;split at hr
 ·rename_i cells hcells;obtain⟨_,he⟩:=zJq hr;obtain⟨c,e,fr,hW,hroom,hlen,hok,hv⟩:=h.row hq hcells;intro a ha;rw[he]at ha;exact hok a (List.mem_of_mem_drop (gQz ha))
 ·simp at hr
theorem rJb(h:Rel W0 N0 m w W){ats:Array TypeId}{ty st:TypeId}{args:Array Value}{s x v:AV}{cs cx:Value}{w':AW}
    (h0:ats[0]? =some st) (a0:args[0]? =some cs) (a1:args[1]? =some cx) (hs:VR m s cs) (hx:VR m x cx) (ha:vJj P w st ats[1]? s x=some (v,w')):
    ∃cv W' m',(Builtin.append_ ats ty args).run P W= .ok cv W'∧VR m' v cv∧Rel W0 N0 m' w' W'∧Ext m m' w w':=by
  unfold vJj at ha;simp only[yQi]at ha;obtain⟨e,he,size,hsz,bytes,hby,z,hz,⟨n,new⟩,hsrc,ha⟩:=ha;simp only[]at ha;rw[zJf]at he;obtain⟨ie,hie,hbe⟩:∃ie,P.info? e=some ie∧ie.bytes=bytes:=by
    unfold bytesOf at hby
    simp only[yQl]at hby
    exact hby
  have hzs:size=z.cells.length:=by
    obtain⟨_,_,_,h1,_⟩:=kJi hz;rw[hsz]at h1;exact gQb h1
  by_cases hn0:n=0
  · -- nothing comes
    subst hn0;simp only[Nat.beq_refl,cond_true]at ha;have key:∀{base:Option Addr} {sLen sCap:Nat},cs= .slice base sLen sCap→sLen≤sCap→
        (Builtin.append_ ats ty args).run P W= .ok (.slice base sLen sCap) W:=by
      intro base sLen sCap hcs hle;subst hcs;obtain⟨zeros,appended,⟨src⟩,hrun⟩:=yJ6 (ty:=ty) h h0 a0 a1 he hsz hby hsrc hx;rw[hrun];unfold pJd;simp only[Nat.add_zero,hle,if_true];rw[qJb (src.run W rfl)];have hl:src.row=#[]:=by
        have h1:=src.vr.length;have h2:=src.len;simp at h1 h2;apply Array.eq_empty_of_size_eq_zero;rw[←h1,h2];rfl
      rw[hl]
      cases base with
      | none=>rfl
      | some a=>rfl
    split at ha
    · cases ha
      simp only[VR]at hs;exact⟨_,W,m,key hs (yQm _),by simp only[VR],h,Ext.refl _ _⟩
    · cases ha
      simp only[VR]at hs;obtain⟨q,ad,cc,hq,hcs,hlc,hcr,had⟩:=hs;rename_i b o len cap ex;have hle:len≤cc:=by
        cases ex with
        | none=>simp only[CapR]at hcr;omega
        | some s=>simp only[CapR]at hcr;omega
      exact⟨_,W,m,key hcs hle,by simp only[VR];exact⟨q,ad,cc,hq,rfl,hlc,hcr,had⟩,h,Ext.refl _ _⟩
    · simp at ha
  · have hnb:Nat.beq n 0=false:=by rw[←gQh];intro e;exact hn0 (yQp e)
    rw[hnb]at ha;simp only[cond_false]at ha;obtain⟨hg,ha⟩:=qJe.1 ha;simp only[gQ3,Bool.not_eq_true']at hg;have hs0:size≠0:=fun e=>by rw[e]at hg;simp at hg
    have hok:∀a∈new,qJc a=true:=by
      have hg2:=hg.2;unfold fJw at hg2;split at hg2
      · rename_i b o len cap ex
        have hrd:zJp w size (.slice b o len cap ex)=some (n,new):=by
          unfold appSrc at hsrc;split at hsrc
          · exact hsrc
          · rw[yQi]at hsrc
            obtain⟨u,_,hsrc⟩:=hsrc;split at hsrc
            · simp[madeCells]at hsrc
            · exact hsrc
        simp only[zJp,yQl]at hrd;obtain⟨cs',hrd,hcs'⟩:=hrd;cases hcs';simp only[VR]at hx;obtain⟨q,_,_,hq,_⟩:=hx;exact sJh h hq hrd
      · exact yQv.1 hg2
    split at ha
    · -- onto nil
      obtain⟨hg2,ha⟩:=qJe.1 ha;simp only[gQ3,Nat.ble_eq,room]at hg2;cases ha;simp only[VR]at hs;subst hs;obtain⟨zeros,appended,⟨src⟩,hrun⟩:=yJ6 (ty:=ty) h h0 a0 a1 he hsz hby hsrc hx;have hn62:0+n<2^62:=by
        have:=hg2.2;simp[Nat.blt]at this;have e62:(2:Nat)^62=4611686018427387904:=by decide
        omega
      obtain⟨zv,newCap,W',hzv,hzvs,hcap,hr,hW',hE'⟩:=tJy (P:=P) (W:=W) (m:=m) (zeros:=zeros) (base:=none) (x:=cx) (size:=size) (old:=#[]) (s:= .slice none 0 0) (sLen:=0) (sCap:=0) hie hz (by omega) hn62
        (by rw[Nat.zero_add,sJr (by omega),hbe];exact hg2.1) (fun _ _=>rfl) src.run
      rw[Nat.zero_add]at hr hcap hW'
      let row:=#[]++src.row++Builtin.zeroCells zv.cells (newCap - n)
      have hlen:new.length=src.row.size:=by have:=src.vr.length;simpa using this
      have hrs:row.size=newCap * size:=by
        show(#[]++src.row++Builtin.zeroCells zv.cells (newCap - n)).size=_;simp only[Array.size_append,vJx,hzvs,←hzs,←hlen,src.len,Array.size_empty,Nat.zero_add];rw[←gQl];congr 1;omega
      obtain⟨hle,hrel⟩:=h.newRow (cs:=new) (c:=row) e (by rw[hrs,src.len];exact yQ7 _ hcap) hok (by
        show VRs m new ((#[]++src.row++_:Array Value).toList.take new.length);simp only[Array.toList_append,List.nil_append];rw[gQk (by simp[hlen]),yQ5 (by simp[hlen])];exact src.vr)
      refine⟨_,W',_,by rw[hrun];exact hr,?_,(hrel.same (W':=W') (by rw[hW'];rfl) hE'),Ext.push h _ _⟩;simp only[VR];refine⟨_,_,newCap,by simp[Emb.ext];rfl,rfl,yQm _,?_,fun _=>by simp⟩;simp only[CapR,hrs];exact⟨hcap,by simp⟩
    · rename_i b o len cap ex _
      simp only[VR]at hs;obtain⟨q,ad,cc,hq,rfl,hlc,hcr,had⟩:=hs;obtain⟨zeros,appended,⟨src⟩,hrun⟩:=yJ6 (ty:=ty) h h0 a0 a1 he hsz hby hsrc hx;have hcap:cap≤cc:=by
        cases ex with
        | none=>simp only[CapR]at hcr;omega
        | some s=>simp only[CapR]at hcr;omega
      have hlen:new.length=src.row.size:=by have:=src.vr.length;simpa using this
      by_cases hin:len+n≤cap
      · -- in its place
        have:Nat.ble (len+n) cap=true:=by simpa using hin
        rw[this]at ha;simp only[cond_true,yQl]at ha;obtain⟨w1,hw1,he1⟩:=ha;cases he1;have hcc:cc≠0:=by omega
        obtain⟨W',hr,hrel⟩:=vJs (P:=P) h hw1 hq src.vr hok;refine⟨.slice (some ad) (len+n) cc,W',m,?_,?_,hrel,Ext.put h hw1 hq⟩
        · rw[hrun]
          unfold pJd;have c1:len+n≤cc:=by omega
          simp only[c1,if_true];rw[qJb (src.run W rfl),had hcc,jJ3,Nat.add_assoc,qJb hr,qJo]
        · simp only[VR]
          exact⟨q,ad,cc,hq,rfl,hin,hcr,had⟩
      · have:Nat.ble (len+n) cap=false:=by rw[←gQh];simpa using hin
        rw[this]at ha;simp only[cond_false]at ha;obtain⟨hg2,ha⟩:=qJe.1 ha;simp only[gQ3]at hg2;have hn62:len+n<2^62:=by
          have:=hg2.2;simp[Nat.blt]at this;have e62:(2:Nat)^62=4611686018427387904:=by decide
          omega
        have hnr:(2 * (len+n)+1000) * bytes<2^48:=by
          have:=hg2.1;simp[Nat.blt,room]at this;have e48:(2:Nat)^48=281474976710656:=by decide
          omega
        unfold bJv at ha;simp only[yQi]at ha;obtain⟨cells,hcells,old,hold,ha⟩:=ha;obtain⟨hle,rfl⟩:=zJq hold;obtain⟨crow,el,fr,hW,hroom,hlenr,hokr,hv⟩:=h.row hq hcells;have hseg:=hv.seg hle
        -- growing into a new row
        have grow:¬ len+n≤cc→∃(newCap:Nat) (W':World) (row:Array Value),len+n≤newCap∧
            (Builtin.append_ ats ty args).run P W= .ok (.slice (some ⟨W.heap.size,0,none⟩) (len+n) newCap) W'∧W'.heap=W.heap.push (.cells row e)∧Env W W'∧
            row.size=newCap * size∧VRs m ((cells.drop o).take (len * size)++new) (row.toList.take ((cells.drop o).take (len * size)++new).length)∧
            ((cells.drop o).take (len * size)++new).length=(len+n) * size:=by
          intro hnc
          let oldr:Array Value:=((crow.toList.drop (q.off+o)).take (len * size)).toArray
          have hoV:VRs m ((cells.drop o).take (len * size)) oldr.toList:=by simpa [oldr]using hseg
          have hol:oldr.size=len * size:=by simp[oldr];omega
          obtain⟨zv,newCap,W',hzv,hzvs,hcap2,hr,hW',hE'⟩:=tJy (P:=P) (W:=W) (m:=m) (zeros:=zeros) (base:=some ad) (x:=cx) (size:=size) (old:=oldr)
            (s:= .slice (some ad) len cc) hie hz hnc hn62
            (by
              rw[hbe];have:=iJr (n:=len+n) (c:=cc) (by omega);have:=yQ7 bytes this;omega)
            (fun W1 hW1=>by
              show(loadCells ad (len * size)).run P W1=_;by_cases hl0:len=0
              · subst hl0
                simp[loadCells,loadCellsFrom,qJo,oldr]
              · rw[had (by omega)]
                exact jJy (by rw[hW1];exact hW) (by omega))
            src.run
          have hol':((cells.drop o).take (len * size)).length=len * size:=by simp;omega
          refine⟨newCap,W',_,hcap2,by rw[hrun];exact hr,hW',hE',?_,?_,?_⟩
          · simp only[Array.size_append,vJx,hzvs,←hzs,←hlen,src.len,hol]
            rw[←gQl,←gQl];congr 1;omega
          · rw[yQs,hol',src.len,Array.toList_append,Array.toList_append]
            have e1:(oldr.toList++src.row.toList).length=len * size+n * size:=by
              simp[hol,←hlen,src.len]
            have e2:∀z:List Value,(oldr.toList++src.row.toList++z).take (len * size+n * size)=oldr.toList++src.row.toList:=fun z=>by
              rw[gQk (by omega),yQ5 (by omega)]
            rw[e2];exact hoV.append src.vr
          · rw[yQs,hol',src.len,←gQl]
        have hoknew:∀a∈(cells.drop o).take (len * size)++new,qJc a=true:=by
          intro a ha;rcases yQ1.1 ha with ha | ha
          · exact hokr a (List.mem_of_mem_drop (gQz ha))
          · exact hok a ha
        cases ex with
        | none=>
          simp only[CapR]at hcr;cases ha;obtain⟨newCap,W',row,hcap2,hr,hW',hE',hrs,hvr,hll⟩:=grow (by omega);obtain⟨_,hrel⟩:=h.newRow (cs:=(cells.drop o).take (len * size)++new) (c:=row) e (by rw[hll,hrs];exact yQ7 _ hcap2) hoknew hvr;refine⟨_,W',_,hr,?_,hrel.same (W':=W') (by rw[hW'];rfl) hE',Ext.push h _ _⟩;simp only[VR];refine⟨_,_,newCap,by simp[Emb.ext];rfl,rfl,yQm _,?_,fun _=>by simp⟩;simp only[CapR,hrs];exact⟨hcap2,by simp⟩
        | some s0=>
          simp only[CapR]at hcr;obtain⟨hg3,hb⟩:=qJe.1 ha;clear ha;simp only[gQ3]at hg3;have hss:=yQp hg3.1.1;have hlcap:=yQp hg3.1.2;have hend:=yQp hg3.2;subst hss hlcap;simp only[yQl]at hb;obtain⟨w1,hw1,he1⟩:=hb;cases he1;by_cases hnc:len+n≤cc
          · -- the model has room
            have hcc:cc≠0:=by omega
            obtain⟨crow',el',fr',hW2,hlen2,hfr,_⟩:∃c e fr,W.heap[q.blk]? =some (.cells c e fr)∧q.off+q.room≤c.size∧(fr.1=fr.2∨c.size≤fr.1)∧N0≤q.blk:=by
              obtain⟨f,dirty,cs0,hf,hf0,_⟩:=cJd h.wf hw1;obtain⟨ob,hgb,hob⟩:=h.obj b q hq;obtain⟨_,_,_,hgb',_⟩:=AW.fam?_iff.1 hf;rw[hgb']at hgb;cases hgb;obtain⟨c,e,fr,x,h1,h2,hx,_,hN,_⟩:=hob;rw[hf]at hx;cases hx;exact⟨c,e,fr,h1,h2,(hN hf0).2,(hN hf0).1⟩
            rename_i hN1;rw[hW]at hW2;have hcc2:=gQb hW2;injection hcc2 with i1 i2 i3;subst i1 i2 i3
            -- how far the row goes
            have hfit:q.off+cells.length+src.row.size≤crow.size:=by
              have hmul:(len+n) * s0≤cc * s0:=yQ7 _ hnc;have:=src.len;rw[gQl]at hmul;omega
            have hrs:=vJ1 (P:=P) (b:=q.blk) (i:=q.off+cells.length) src.row.toList W crow 0 hW (by simpa using hfit) hfr (src.vr.one hok);rw[Nat.add_zero]at hrs;have hsize:=dJ1 (c:=crow) (i:=q.off+cells.length) (vs:=src.row.toList) (by simpa using hfit);have hnl:((cells.drop o).take (len * s0)++new).length=(len+n) * s0:=by
              rw[yQs,src.len,gQl];simp;omega
            obtain⟨_,hrel⟩:=h.heir hw1 hq hcells ⟨q.blk,q.off+o,q.room - o⟩ (W':=zJh W q.blk (.cells (jJz crow (q.off+cells.length) src.row.toList) el fr))
              ⟨rfl,rfl⟩ ⟨by simp;exact h.old.1,fun c hc=>zJb (by omega)⟩ (by simp)
              (.inr ⟨rfl,by rw[hnl,gQl];dsimp only;omega,fun c hc=>zJb hc,crow,_,el,fr,hW,zJu hW,hsize,sJa (by simpa using hfit)⟩)
              ⟨_,el,fr,zJu hW,by rw[hsize];dsimp only;omega,hN1,by rw[hsize];exact hfr,by
                have hmul:(len+n) * s0≤cc * s0:=yQ7 _ hnc;rw[hnl];dsimp only;omega,hoknew,by
                rw[hnl];have hrow:(jJz crow (q.off+cells.length) src.row.toList).toList=crow.toList.take (q.off+cells.length)++src.row.toList++crow.toList.drop (q.off+cells.length+src.row.toList.length):=rfl;rw[hrow];have hl1:(crow.toList.take (q.off+cells.length)).length=q.off+cells.length:=by simp;omega
                have hd:((crow.toList.take (q.off+cells.length)++src.row.toList++crow.toList.drop (q.off+cells.length+src.row.toList.length)).drop (q.off+o))=
                    (crow.toList.drop (q.off+o)).take (len * s0)++(src.row.toList++crow.toList.drop (q.off+cells.length+src.row.toList.length)):=by
                  rw[yQy,List.drop_append_of_le_length (by rw[hl1];omega),List.drop_take];congr 2;omega
                rw[hd,←yQy];have hl2:((crow.toList.drop (q.off+o)).take (len * s0)++src.row.toList).length=(len+n) * s0:=by
                  rw[yQs,gQl];simp[←hlen,src.len];omega
                have e2:∀z:List Value,((crow.toList.drop (q.off+o)).take (len * s0)++src.row.toList++z).take ((len+n) * s0)=(crow.toList.drop (q.off+o)).take (len * s0)++src.row.toList:=fun z=>by
                  rw[gQk (by omega),yQ5 (by omega)]
                rw[e2];exact hseg.append src.vr⟩
            refine⟨.slice (some ad) (len+n) cc,_,_,?_,?_,hrel,Ext.heir h hw1 hq⟩
            · rw[hrun]
              unfold pJd;simp only[hnc,if_true];rw[qJb (src.run W rfl)];have e1:(⟨q.blk,q.off+o+len * s0,none⟩:Addr)=⟨q.blk,q.off+cells.length,none⟩:=by rw[←hend,Nat.add_assoc]
              rw[had hcc,jJ3,e1,qJb hrs,qJo]
            · simp only[VR]
              refine⟨⟨q.blk,q.off+o,q.room - o⟩,ad,cc,by simp[Emb.ext],rfl,yQm _,?_,fun _=>by rw[had hcc];simp⟩;simp only[CapR];exact⟨hnc,by omega⟩
          · obtain⟨newCap,W',row,hcap2,hr,hW',hE',hrs,hvr,hll⟩:=grow hnc
            have hsz:W'.heap.size=W.heap.size+1:=by rw[hW'];simp
            have hWo:∀c,c<W.heap.size→W'.heap[c]? =W.heap[c]? :=fun c hc=>by
              have:c≠W.heap.size:=by omega
              rw[hW'];simp[Array.getElem?_push,this]
            have hWn:W'.heap[W.heap.size]? =some (.cells row e):=by rw[hW'];simp
            obtain⟨_,hrel⟩:=h.heir hw1 hq hcells ⟨W.heap.size,0,row.size⟩ (W':=W')
              hE' ⟨by have:=h.old.1;omega,fun c hc=>hWo c (by have:=h.old.1;omega)⟩ (by omega)
              (.inl ⟨rfl,hWo⟩)
              ⟨row,e,(0,0),hWn,by simp,h.old.1, .inl rfl,by rw[hll,hrs];exact yQ7 _ hcap2,hoknew,by simpa using hvr⟩
            refine⟨_,W',_,hr,?_,hrel,Ext.heir h hw1 hq⟩;simp only[VR];refine⟨⟨W.heap.size,0,row.size⟩,_,newCap,by simp[Emb.ext],rfl,yQm _,?_,fun _=>by simp⟩;simp only[CapR,hrs];exact⟨hcap2,by simp⟩
    · simp at ha
end
end Go.Sx
namespace Go.Sx
section
variable {P:Program}{W0:World}{N0:Nat}{m:Emb}{w:AW}{W:World}{tmps:Tm}{ts:Array Value}{ds:List Deferred}
theorem Ext.setOb {b:Nat}{p:Pl}(hb:m b=some p)(o':AO):Ext m m w (w.set b o'):=by
 refine⟨m.le_refl,fun _ _ h=> .inl h,fun k _ hm=>?_,by simp⟩;have:k≠b:=fun e=>by subst e;rw[hb]at hm;simp at hm
 simp[this]
theorem Rel.setMap(h:Rel W0 N0 m w W){r:Nat}{p:Pl}(hr:m r=some p){es es':List (AV×AV)}{c c':Nat}{ces:Array MapEntry}{cl:Nat}
  (hx:xJk w r=some (es,c)) (hM:MapR m es' ces.toList) (hB:jJt ces.toList cl) (hc:c<c'):∃W',(Go.setObj p.blk (.map ces cl)).run P W= .ok () W'∧Rel W0 N0 m (w.set r (.map es' c')) W':=by
 obtain⟨hN,ces0,cl0,hW,_⟩:=h.map hr hx;refine⟨_,jJ8 hW (by simp),?_⟩;refine h.setObj hr (.map es c) (.map es' c') (.map ces cl) (xJb.1 hx) (by simp) (by simp) (fun es0 v0 e=>by cases e;exact⟨es',c',rfl,hc⟩) ?_ hN;exact⟨hN,ces,cl,zJu hW,hM,hB⟩
theorem jJt.erase {l1 l2:List MapEntry}{e:MapEntry}{cl:Nat}(h:jJt (l1++e::l2) cl):jJt (l1++l2) cl:=by
 obtain⟨h1,h2⟩:=h;refine⟨?_,fun x hx=>h2 x (by simp at hx ⊢;rcases hx with h | h<;>simp[h])⟩;rw[List.map_append,List.map_cons]at h1;rw[List.map_append];exact h1.sublist (List.Sublist.append (List.Sublist.refl _) (List.sublist_cons_self _ _))
theorem jJt.push {l:List MapEntry}{cl:Nat}(h:jJt l cl)(k v:Value):jJt (l++[{key:=k,val:=v,born:=cl}]) (cl+1):=by
 obtain⟨h1,h2⟩:=h;refine⟨?_,fun x hx=>?_⟩
 ·rw[List.map_append,List.nodup_append];refine⟨h1,by simp,?_⟩;intro a ha b hb;simp at hb;obtain⟨e,he,rfl⟩:=List.mem_map.1 ha;have:=h2 e he;omega
 ·rcases yQ1.1 hx with hx | hx
  ·have:=h2 x hx;omega
  ·simp at hx;subst hx;simp
theorem jJt.modify {l1 l2:List MapEntry}{e e':MapEntry}{cl:Nat}(h:jJt (l1++e::l2) cl)(he:e'.born=e.born):jJt (l1++e'::l2) cl:=by
 obtain⟨h1,h2⟩:=h;refine⟨by simpa [he]using h1,fun x hx=>?_⟩;rcases yQ1.1 hx with hx | hx
 ·exact h2 x (by simp[hx])
 ·rcases yQw.1 hx with rfl | hx
  ·rw[he];exact h2 e (by simp)
  ·exact h2 x (by simp[hx])
theorem MapR.nil:MapR m [] ([]:List MapEntry):=⟨⟨[],List.Perm.refl _,rfl⟩,by simp⟩
theorem cJ4(h:Rel W0 N0 m w W){size n k:Nat}{x:AV}{cx:Value}{new:List AV}(hs:zJp w size x=some (n,new))(hx:VR m x cx)(hk:k≤n):
  ∃row:Array Value,(Builtin.firstCells size k cx).run P W= .ok row W∧VRs m (new.take (k * size)) row.toList∧n * size=new.length:=by
 unfold zJp at hs;split at hs
 ·cases hs;simp only[VR]at hx;subst hx;have:k=0:=by omega
  subst this;exact⟨#[],rfl,by simp[VRs],by simp⟩
 ·rename_i b o nn cap ex;simp only[yQl]at hs;obtain⟨cs,hcs,he⟩:=hs;cases he;simp only[VR]at hx;obtain⟨q,ad,cc,hq,rfl,hlc,hcr,had⟩:=hx;unfold AW.read at hcs;split at hcs
  ·rename_i cells hcells;obtain⟨hle,rfl⟩:=zJq hcs;obtain⟨crow,el,fr,hW,hroom,hlen,hok,hv⟩:=h.row hq hcells;have hkn:k * size≤n * size:=yQ7 _ hk;refine⟨((crow.toList.drop (q.off+o)).take (k * size)).toArray,?_,?_,by simp;omega⟩
   ·show(loadCells ad (k * size)).run P W=_;by_cases h0:k=0
    ·subst h0;simp[loadCells,loadCellsFrom,qJo]
    ·have hcc:cc≠0:=by
      cases ex with
      | none=>simp only[CapR]at hcr;omega
      | some s=>simp only[CapR]at hcr;omega
     rw[had hcc];exact jJy hW (by omega)
   ·have:=(hv.seg hle).take (k * size);rw[List.take_take,List.take_take,Nat.min_eq_left hkn]at this;simpa [List.take_take,Nat.min_eq_left hkn]using this
  ·simp at hcs
 ·rename_i l;obtain⟨hg,h2⟩:=qJe.1 hs;have hsz:=yQp hg;subst hsz;cases h2;simp only[VR]at hx;obtain⟨bs,rfl,hb⟩:=hx;refine⟨(bs.extract 0 k).data.map fun b=> .int .u8 b.toNat,rfl,?_,by simp[qJk]⟩;have e:(bs.extract 0 k).data.toList=l.take k:=by
   rw[ByteArray.data_extract,Array.toList_extract,hb];simp[List.extract]
  have hc:∀(l:List UInt8),VRs m (qJk l) (l.map fun b=>Value.int .u8 b.toNat):=by
   intro l
   induction l with
   | nil=>exact VRs.nil
   | cons x l ih=>exact VRs.cons (by simp[VR]) ih
  rw[Array.toList_map,e,Nat.mul_one];have:=hc (l.take k);simpa [qJk,List.map_take]using this
 ·simp at hs
theorem iJc(h:Rel W0 N0 m w W){ats:Array TypeId}{ty st:TypeId}{args:Array Value}{s x v:AV}{cs cx:Value}{w':AW}
    (h0:ats[0]? =some st) (a0:args[0]? =some cs) (a1:args[1]? =some cx) (hs:VR m s cs) (hx:VR m x cx) (ha:qQm P w st s x=some (v,w')):
    ∃cv W' m',(Builtin.copy_ ats ty args).run P W= .ok cv W'∧VR m' v cv∧Rel W0 N0 m' w' W'∧Ext m m' w w':=by
  unfold qQm at ha;simp only[yQi]at ha;obtain⟨e,he,size,hsz,⟨n,new⟩,hsrc,ha⟩:=ha;simp only[]at ha;rw[zJf]at he;obtain⟨hl,_⟩:=dJw (P:=P) h hsrc hx;have hrun:∀{base:Option Addr} {dLen cap:Nat},cs= .slice base dLen cap→(Builtin.copy_ ats ty args).run P W=
      (do
          let cells←Builtin.firstCells size (Nat.min n dLen) cx
          if let some a:=base then storeCells a cells.toList
          pure (goInt (Nat.min n dLen)):Sem Value).run P W:=by
    intro base dLen cap hcs;subst hcs;unfold Builtin.copy_;simp only[h0,a0,a1];rw[qJb (qJa he)];refine(qJb (s:=Builtin.lenOf cx) (hl W)).trans ?_;rw[qJb (qJ9 hsz)];rfl
  cases s with
  | nilslice=>
    cases ha;simp only[VR]at hs;obtain⟨row,hr,_⟩:=cJ4 (P:=P) (k:=Nat.min n 0) h hsrc hx (Nat.min_le_left _ _);refine⟨_,W,m,by
      rw[hrun hs,qJb hr];rfl,by simp[VR];rfl,h,Ext.refl _ _⟩
  | slice b o len cap ex=>
    simp only[VR]at hs;obtain⟨q,ad,cc,hq,hcs,hlc,hcr,had⟩:=hs;obtain⟨row,hr,hvr,hnl⟩:=cJ4 (P:=P) (k:=Nat.min n len) h hsrc hx (Nat.min_le_left _ _);simp only[]at ha;by_cases hm:Nat.min n len=0
    · rw[hm]at ha hr hvr
      simp only[Nat.beq_refl,cond_true]at ha;cases ha;have hrow:row.toList=[]:=by simpa [VRs]using hvr
      refine⟨_,W,m,by
        have hst:(storeCells ad row.toList).run P W= .ok () W:=by rw[hrow];rfl
        rw[hrun hcs,hm,qJb hr];simp only[];rw[qJb hst];rfl,by simp[VR];rfl,h,Ext.refl _ _⟩
    · have hb:Nat.beq (Nat.min n len) 0=false:=by rw[←gQh];intro e;exact hm (yQp e)
      rw[hb]at ha;simp only[cond_false]at ha;obtain⟨hg,ha⟩:=qJe.1 ha;simp only[yQl]at ha;obtain⟨w1,hw1,he1⟩:=ha;cases he1;have hcc:cc≠0:=by
        have:Nat.min n len≤len:=Nat.min_le_right _ _
        cases ex with
        | none=>simp only[CapR]at hcr;omega
        | some s=>simp only[CapR]at hcr;omega
      obtain⟨W',hst,hrel⟩:=vJs (P:=P) h hw1 hq hvr (fun a ha=>yQv.1 hg a (gQz ha));refine⟨.int .i64 (Nat.min n len:Nat),W',m,?_,?_,hrel,Ext.put h hw1 hq⟩
      · rw[hrun hcs,qJb hr]
        simp only[];rw[had hcc,qJb hst];rfl
      · simp[VR]
  | _=>simp at ha
theorem cJ9(h:Rel W0 N0 m w W){ats:Array TypeId}{ty st:TypeId}{args:Array Value}{s x v:AV}{cs cx:Value}{w':AW}
    (h0:ats[0]? =some st) (a0:args[0]? =some cs) (a1:args[1]? =some cx) (hs:VR m s cs) (hx:VR m x cx) (ha:cJj P w st s x=some (v,w')):
    ∃cv W' m',(Builtin.delete_ ats ty args).run P W= .ok cv W'∧VR m' v cv∧Rel W0 N0 m' w' W'∧Ext m m' w w':=by
  unfold cJj at ha
  cases s with
  | nilmap=>
    simp only[yQi]at ha;obtain⟨ke,⟨u,hu,hm⟩,ha⟩:=ha;rw[jJa]at hm;subst hm;obtain⟨hg,h2⟩:=qJe.1 ha;cases h2;obtain⟨uk,huk,hok,hall⟩:=wJx hg;simp only[VR]at hs;subst hs;refine⟨_,W,m,?_,VR.undef,h,Ext.refl _ _⟩;unfold Builtin.delete_;simp only[h0,a0,a1];rw[qJb (qJa hu)];simp only[];rw[qJb (vJt true huk hx hok)];rfl
  | map r=>
    simp only[yQi]at ha;obtain⟨⟨es,clock⟩,hes,ke,⟨u,hu,hm⟩,ha⟩:=ha;rw[jJa]at hm;subst hm;obtain⟨hg,h2⟩:=qJe.1 ha;cases h2;obtain⟨uk,huk,hok,hall⟩:=wJx hg;simp only[VR]at hs;obtain⟨p,hp,rfl⟩:=hs;obtain⟨hN,ces,cl,hW,hM,hB⟩:=h.map hp hes;have hd:∀{R:Option (Nat×Value)} {ces':Array MapEntry},Instr.findNow uk cx ces.toList 0=some R→MapR m (delM x es) ces'.toList→jJt ces'.toList cl→
        (match R with | some (i,_)=>(.map (ces.eraseIdxIfInBounds i) cl:Obj) | none=> .map ces cl)= .map ces' cl→
        ∃cv W' m',(Builtin.delete_ ats ty args).run P W= .ok cv W'∧VR m' Go.Sx.undef cv∧Rel W0 N0 m' (w.set r (.map (delM x es) (clock+1))) W'∧Ext m m' w (w.set r (.map (delM x es) (clock+1))):=by
      intro R ces' hf hM' hB' hc;obtain⟨W',hr,hrel⟩:=h.setMap (P:=P) (c':=clock+1) hp hes hM' hB' (by omega);refine⟨.tuple #[],W',m,?_,VR.undef,hrel,Ext.setOb hp _⟩;unfold Builtin.delete_;simp only[h0,a0,a1];rw[qJb (qJa hu)];simp only[];rw[qJb (zJa hW (by simp))];simp only[];rw[qJb (vJt _ huk hx hok),qJb (vJa huk hf)]
      cases R with
      | none=>simp only[]at hc ⊢;rw[hc,qJb hr];rfl
      | some R=>simp only[]at hc ⊢;rw[hc,qJb hr];rfl
    rcases fJ3 hM hx hok hall with⟨hf,_,hdel,_⟩ | ⟨l1,e,l2,v,hl,hf,_,_,_,hdel,_⟩
    · exact hd (ces':=ces) hf (by rw[hdel];exact hM) hB rfl
    · refine hd (ces':=(l1++l2).toArray) hf (by simpa using hdel) (by rw[hl]at hB;exact hB.erase) ?_
      simp only[];congr 1;apply Array.ext';have hlt:l1.length<ces.size:=by
        rw[←Array.length_toList,hl];simp
      simp only[Array.eraseIdxIfInBounds,hlt,dif_pos,Array.toList_eraseIdx,hl];rw[List.eraseIdx_append_of_length_le (by simp)];simp
  | _=>simp at ha
theorem nJ3(h:Rel W0 N0 m w W){ats:Array TypeId}{ty st:TypeId}{args:Array Value}{s:AV}{cs:Value}{w':AW}
    (h0:ats[0]? =some st) (a0:args[0]? =some cs) (hs:VR m s cs) (ha:yJg P w st s=some w'):
    ∃cv W' m',(Builtin.clear_ ats ty args).run P W= .ok cv W'∧VR m' Go.Sx.undef cv∧Rel W0 N0 m' w' W'∧Ext m m' w w':=by
  unfold yJg at ha
  cases s with
  | nilmap=>
    simp only[yQl]at ha;obtain⟨u,hu,rfl⟩:=ha;simp only[VR]at hs;subst hs;refine⟨_,W,m,?_,VR.undef,h,Ext.refl _ _⟩;unfold Builtin.clear_;simp only[h0,a0];rw[qJb (qJa hu)];rfl
  | nilslice=>
    simp only[yQl]at ha;obtain⟨u,hu,rfl⟩:=ha;simp only[VR]at hs;subst hs;refine⟨_,W,m,?_,VR.undef,h,Ext.refl _ _⟩;unfold Builtin.clear_;simp only[h0,a0];rw[qJb (qJa hu)];rfl
  | map r=>
    simp only[yQi,yQl]at ha;obtain⟨u,hu,⟨es,clock⟩,hes,rfl⟩:=ha;simp only[VR]at hs;obtain⟨p,hp,rfl⟩:=hs;obtain⟨hN,ces,cl,hW,hM,hB⟩:=h.map hp hes;obtain⟨W',hr,hrel⟩:=h.setMap (P:=P) (ces:=#[]) (es':=[]) (c':=clock+1) (cl:=cl) hp hes MapR.nil (jJt.nil _) (by omega);refine⟨.tuple #[],W',m,?_,VR.undef,hrel,Ext.setOb hp _⟩;unfold Builtin.clear_;simp only[h0,a0];rw[qJb (qJa hu),qJb (zJa hW (by simp))];simp only[];rw[qJb hr];rfl
  | slice b o n cap ex=>
    simp only[yQi]at ha;obtain⟨e,he,ha⟩:=ha;rw[zJf]at he;simp only[VR]at hs;obtain⟨q,ad,cc,hq,rfl,hlc,hcr,had⟩:=hs;by_cases hn:n=0
    · subst hn
      simp only[Nat.beq_refl,cond_true]at ha;cases ha;refine⟨_,W,m,?_,VR.undef,h,Ext.refl _ _⟩;unfold Builtin.clear_;simp only[h0,a0];rw[qJb (qJa he)];rfl
    · have hb:Nat.beq n 0=false:=by rw[←gQh];intro e;exact hn (yQp e)
      rw[hb]at ha;simp only[cond_false,yQi]at ha;obtain⟨z,hz,ha⟩:=ha;obtain⟨hg,ha⟩:=qJe.1 ha;obtain⟨zv,hrun,hvr,_,hsz⟩:=kJi hz;have hcc:cc≠0:=by
        cases ex with
        | none=>simp only[CapR]at hcr;omega
        | some s=>simp only[CapR]at hcr;omega
      obtain⟨W',hst,hrel⟩:=vJs (P:=P) h ha hq (yJ9 (jJj (hvr m)) n) (sJf hg n);refine⟨.tuple #[],W',m,?_,VR.undef,hrel,Ext.put h ha hq⟩;unfold Builtin.clear_;simp only[h0,a0];rw[qJb (qJa he)];obtain⟨k,rfl⟩:∃k,n=k+1:=⟨n - 1,by omega⟩;simp only[];rw[qJb (hrun W),had hcc,qJb hst];rfl
  | _=>simp at ha
theorem cJ6(h:Rel W0 N0 m w W){t:TypeId}{a k x v:AV}{ca ck cx:Value}{w':AW}(hs:yJz P w t a k x=some (v,w'))(ha:VR m a ca)(hk:VR m k ck)(hx:VR m x cx):
    ∃W',(Instr.mapUpdate t ca ck cx).run P W= .ok () W'∧v=Go.Sx.undef∧Rel W0 N0 m w' W'∧Ext m m w w':=by
  unfold yJz at hs
  cases a with
  | map r=>
    simp only[yQi]at hs;obtain⟨⟨es,clock⟩,hes,ke,⟨u,hu,hm⟩,hs⟩:=hs;rw[jJa]at hm;subst hm;obtain⟨hg,h2⟩:=qJe.1 hs;obtain⟨uk,huk,hok,hall⟩:=wJx hg;simp only[VR]at ha;obtain⟨p,hp,rfl⟩:=ha;obtain⟨hN,ces,cl,hW,hM,hB⟩:=h.map hp hes;have head:(Instr.mapUpdate t (.map (some p.blk)) ck cx).run P W=(do
        match←Instr.findKey ke.1 ck ces.toList with
        | some (i,_)=>do
          let key←Instr.keyThatStays (((ces[i]?).map (·.key)).getD ck) ck
          Go.setObj p.blk (.map (ces.modify i fun e=>{e with key,val:=cx}) cl)
        | none=>Go.setObj p.blk (.map (ces.push {key:=ck,val:=cx,born:=cl}) (cl+1)):Sem Unit).run P W:=by
      unfold Instr.mapUpdate;rw[qJb (qJa hu)];simp only[];rw[qJb (zJa hW (by simp))];simp only[];rw[qJb (vJt _ huk hk hok)];rfl
    rcases fJ3 hM hk hok hall with⟨hf,hlook,_,hins⟩ | ⟨l1,e,l2,v0,hl,hf,hlook,_,hke,_,hins⟩
    · simp only[yQx,Prod.mk.injEq]at h2
      obtain⟨rfl,rfl⟩:=h2;obtain⟨W',hr,hrel⟩:=h.setMap (P:=P) (ces:=ces.push {key:=ck,val:=cx,born:=cl}) (es':=insM k x es) (c':=clock+1) (cl:=cl+1) hp hes (by
        simpa using hins x {key:=ck,val:=cx,born:=cl} hk hx) (by simpa using hB.push ck cx) (by omega)
      refine⟨W',?_,rfl,hrel,Ext.setOb hp _⟩;rw[head,qJb (vJa huk hf)];exact hr
    · simp only[yQx,Prod.mk.injEq]at h2
      obtain⟨rfl,rfl⟩:=h2;have emod:(ces.modify l1.length fun e=>{e with key:=ck,val:=cx}).toList=l1++{e with key:=ck,val:=cx}::l2:=by
        rw[Array.toList_modify,hl,List.modify_eq_take_cons_drop (by simp)];simp
      have hat:ces[l1.length]? =some e:=by
        rw[←yQ4,hl];simp
      obtain⟨W',hr,hrel⟩:=h.setMap (P:=P) (ces:=ces.modify l1.length fun e=>{e with key:=ck,val:=cx}) (es':=insM k x es) (c':=clock+1) (cl:=cl) hp hes (by
        rw[emod];exact hins x {e with key:=ck,val:=cx} hk hx) (by rw[emod];rw[hl]at hB;exact hB.modify rfl) (by omega)
      refine⟨W',?_,rfl,hrel,Ext.setOb hp _⟩;rw[head,qJb (vJa huk hf)];simp only[hat,Option.map_some,Option.getD_some];rw[qJb (jQ3 hok hke hk)];exact hr
  | _=>simp at hs
theorem cJ5(h:Rel W0 N0 m w W){t:TypeId}{a v:AV}{ca:Value}{w':AW}(hs:mJ9 P w t a=some (v,w'))(ha:VR m a ca):
    ∃cv W' m',(Instr.range t ca).run P W= .ok cv W'∧VR m' v cv∧Rel W0 N0 m' w' W'∧Ext m m' w w':=by
  have hno:m w.size=none:=by
    cases hm:m w.size with
    | none=>rfl
    | some p=>exact absurd (h.dom _ _ hm) (gQx _)
  unfold mJ9 at hs
  cases a with
  | nilmap=>
    simp only[yQl,yQi]at hs;obtain⟨ke,⟨u,hu,hm⟩,he⟩:=hs;rw[jJa]at hm;subst hm;cases he;simp only[VR]at ha;subst ha;obtain⟨hle,hrel⟩:=h.push (.mapIter none [] 0 [] none) (.mapIter none 0 #[] 0) 0 (fun _=>⟨h.old.1,rfl,0,#[],0,kJb⟩) (by simp);refine⟨.pointer (some ⟨W.heap.size,0,none⟩),jJ4 W (.mapIter none 0 #[] 0),_,?_,?_,hrel,Ext.push h _ _⟩
    · unfold Instr.range
      rw[qJb (qJa hu)];rfl
    · simp only[VR]
      exact⟨⟨W.heap.size,0,0⟩,by simp[Emb.ext],rfl⟩
  | map r=>
    simp only[yQi,yQl]at hs;obtain⟨ke,⟨u,hu,hm⟩,⟨es,ver⟩,hes,he⟩:=hs;rw[jJa]at hm;subst hm;cases he;simp only[VR]at ha;obtain⟨q,hq,rfl⟩:=ha;obtain⟨hN,ces,cl,hW,hM,hB⟩:=h.map hq hes;have hne:r≠w.size:=fun e=>by subst e;rw[hno]at hq;simp at hq
    have hle0:=m.le_ext ⟨W.heap.size,0,0⟩ hno;obtain⟨l,hp,hE⟩:=hM.1;obtain⟨hle,hrel⟩:=h.push (.mapIter (some r) es ver es none) (.mapIter (some q.blk) cl #[] cl) 0 (fun _=>⟨h.old.1,rfl,q,cl,#[],cl,es,ver,hle0 _ _ hq,kJb,by
      have:=xJb.1 hes;simp[hne,this],yQm _,fun _=>⟨ces,(gJn (h.lt hq)).trans hW, .inl rfl,⟨l,by rw[List.filter_eq_self.2 (by simp)];exact hp,hE.mono hle0⟩,by simp⟩⟩) (by simp)
    refine⟨.pointer (some ⟨W.heap.size,0,none⟩),jJ4 W (.mapIter (some q.blk) cl #[] cl),_,?_,?_,hrel,Ext.push h _ _⟩
    · unfold Instr.range
      rw[qJb (qJa hu)];simp only[];rw[qJb (zJa hW (by simp))];rfl
    · simp only[VR]
      exact⟨⟨W.heap.size,0,0⟩,by simp[Emb.ext],rfl⟩
  | _=>simp at hs
end
end Go.Sx
namespace Go.Sx
section
variable {P:Program}{W0:World}{N0:Nat}{m:Emb}{w:AW}{W:World}
theorem yJd {n:Nat}(hn:0<n):∃k W',(choose (.mapNext n)).run P W= .ok k W'∧k<n∧W'.heap=W.heap∧Env W W':=by
 by_cases h1:n≤1
 ·refine⟨0,W,?_,hn,rfl,rfl,rfl⟩;simp[choose,Sem.run,Question.forced,h1]
 ·refine⟨W.tape W.drawn (.mapNext n) % n,{W with drawn:=W.drawn+1},?_,Nat.mod_lt _ hn,rfl,rfl,rfl⟩;simp[choose,Sem.run,Question.forced,Question.cut,h1]
theorem eJ2 {l p1 p2:List MapEntry}{e:MapEntry}{ces:List MapEntry}{seen:Array Nat}{cl:Nat}(hB:jJt ces cl)(hp:l.Perm (ces.filter fun e=>!seen.contains e.born))(hl:l=p1++e::p2):
  (p1++p2).Perm (ces.filter fun x=>!(seen.push e.born).contains x.born):=by
 subst hl;have hf:(ces.filter fun x=>!(seen.push e.born).contains x.born)=(ces.filter fun x=>!seen.contains x.born).filter fun x=>x.born !=e.born:=by
  rw[List.filter_filter];refine List.filter_congr fun x _=>?_;simp only[Array.contains_push,Bool.not_or];rw[Bool.and_comm];congr 1
 rw[hf];have hnd:((p1++e::p2).map (·.born)).Nodup:=(hp.map (·.born)).nodup_iff.2 (hB.1.sublist (List.Sublist.map _ List.filter_sublist));have h1:=hp.filter fun x=>x.born !=e.born;have h2:(p1++e::p2).filter (fun x=>x.born !=e.born)=p1++p2:=by
  rw[List.map_append,List.map_cons,List.nodup_append,List.nodup_cons]at hnd;obtain⟨n1,⟨n2,n3⟩,n4⟩:=hnd;rw[List.filter_append,List.filter_cons];simp only[bne_self_eq_false,yQ2,if_false];congr 1
  ·refine List.filter_eq_self.2 fun x hx=>?_;have:=n4 x.born (List.mem_map.2 ⟨x,hx,rfl⟩) e.born (by simp);simpa using this
  ·refine List.filter_eq_self.2 fun x hx=>?_;have:x.born≠e.born:=fun h=>n2 (List.mem_map.2 ⟨x,hx,h⟩);simpa using this
 rw[h2]at h1;exact h1
theorem jQr(h:Rel W0 N0 m w W){b mm:Nat}{es rest:List (AV×AV)}{c:Nat}{last:Option AV}{q:Pl}(hq:m b=some q)(hg:w.get b=some (.mapIter (some mm) es c rest last)){K:AV→AW→Prop}
    (hs:eJe w b mm es c rest K) (ty:TypeId):
    ∃v w' cv W',K v w'∧VR m v cv∧Rel W0 N0 m w' W'∧Ext m m w w'∧(Instr.next (.pointer (some ⟨q.blk,q.off+0,none⟩)) false ty).run P W= .ok cv W':=by
  obtain⟨⟨es',hm⟩,hs⟩:=hs;obtain⟨ob,hg',hob⟩:=h.obj b q hq;rw[hg]at hg';cases hg';obtain⟨hN,h0,q',since,seen,st,esn,vn,hq',hWi,hgm,hver,hrel⟩:=hob;rw[xJb.1 hm]at hgm;cases hgm;obtain⟨ces,hWm,hst,⟨l,hp,hE⟩,_⟩:=hrel rfl;obtain⟨_,ces0,cl0,hW0,_,hB0⟩:=h.map hq' hm;rw[hWm]at hW0;have hB:jJt ces.toList since:=by
    have:=gQb hW0;injection this with i1 i2;subst i1 i2;exact hB0
  -- the model's own words
  have hold:((ces.filter fun e=>!seen.contains e.born).filter fun e=>decide (e.born<since))=ces.filter fun e=>!seen.contains e.born:=by
    rw[Array.filter_eq_self];intro e he;have:=hB.2 e (by simpa using(Array.mem_filter.1 he).1);simpa using this
  have hnew:((ces.filter fun e=>!seen.contains e.born).filter fun e=>decide (e.born≥since))=#[]:=by
    rw[Array.filter_eq_empty_iff];intro e he;have:=hB.2 e (by simpa using(Array.mem_filter.1 he).1);simp;omega
  have hchk:(!seen.isEmpty&&!ces.isEmpty&&ces.all fun e=>decide (e.born≥st))=false:=by
    rcases hst with rfl | rfl
    · rfl
    · by_cases hemp:ces.isEmpty=true
      · simp[hemp]
      · have:(ces.all fun e=>decide (e.born≥st))=false:=by
          rw[←gQh];intro hall;have hsz:0<ces.size:=by
            rw[Array.isEmpty_iff_size_eq_zero]at hemp;omega
          have h1:=Array.all_eq_true.1 hall 0 hsz;have h2:=hB.2 ces[0] (by simp);simp at h1;omega
        rw[this];simp
  have hl:∀(e:MapEntry),e∈(ces.filter fun e=>!seen.contains e.born)→e∈l:=fun e he=>hp.mem_iff.2 (by simpa using he);have hlen:l.length=(ces.filter fun e=>!seen.contains e.born).size:=by
    rw[hp.length_eq,←Array.length_toList,Array.toList_filter]
  have head:(Instr.next (.pointer (some ⟨q.blk,q.off+0,none⟩)) false ty).run P W=(do
      let left:=ces.filter fun e=>!seen.contains e.born
      let candidates:=(if left.isEmpty then #[none]else #[])++left.map some
      match candidates[←choose (.mapNext candidates.size)]? with
      | some (some e)=>
        Go.setObj q.blk (.mapIter (some q'.blk) since (seen.push e.born) since)
        pure (.tuple #[.bool true,e.key,e.val])
      | some none=>pure (.tuple #[.bool false])
      | none => stuck "Next: no such candidate" : Sem Value).run P W := by
    unfold Instr.next;rw[h0];simp only[];rw[qJb (zJa hWi (by simp))];simp only[];rw[qJb (zJa hWm (by simp))];simp only[hchk,yQ2,if_false,hold,hnew,Array.append_empty];rfl
  have hlen2:rest.length=l.length:=hE.length
  cases rest with
  | nil=>
    simp only[]at hs;have hz:(ces.filter fun e=>!seen.contains e.born)=#[]:=Array.eq_empty_of_size_eq_zero (by rw[←hlen,←hlen2];rfl);obtain⟨k,W',hr,hk,hheap,hE'⟩:=yJd (P:=P) (W:=W) (n:=1) (by omega);have hk0:k=0:=by omega
    subst hk0;refine⟨_,w, .tuple #[.bool false],W',hs,by simp only[VR];exact⟨_,rfl,VRs.cons (by simp[VR]) VRs.nil⟩,h.same hheap hE',Ext.refl _ _,?_⟩;rw[head,hz];simp only[Array.isEmpty_empty,if_true,Array.map_empty,Array.append_empty,List.size_toArray,gQd,gQw];rw[qJb hr];rfl
  | cons kv0 rest0=>
    simp only[]at hs;have hsz:0<(ces.filter fun e=>!seen.contains e.born).size:=by rw[←hlen,←hlen2];simp
    have hne:(ces.filter fun e=>!seen.contains e.born).isEmpty=false:=by
      rw[←gQh,Array.isEmpty_iff_size_eq_zero];omega
    obtain⟨k,W1,hr,hk,hheap,hE'⟩:=yJd (P:=P) (W:=W) hsz
    let e:=(ces.filter fun e=>!seen.contains e.born)[k]
    have hel:e∈l:=hl e (Array.getElem_mem hk);obtain⟨e1,e2,p1,p2,ak,av,hes,hls,ha,hb,g1,g2⟩:=hE.mem hel;have hperm:((ak,av),e1++e2)∈picks (kv0::rest0):=by rw[hes];exact rJq _ _ _
    have hKK:=hs (ak,av) (e1++e2) hperm;have h1:=h.same hheap hE';have hWi1:W1.heap[q.blk]? =some (.mapIter (some q'.blk) since seen st):=by rw[hheap];exact hWi
    have hrel1:=h1.setObj hq (.mapIter (some mm) es c (kv0::rest0) last) (.mapIter (some mm) es c (e1++e2) (some (.tup [ak,av]))) (.mapIter (some q'.blk) since (seen.push e.born) since) hg (by simp) (by simp) (by simp)
      ⟨hN,h0,q',since,seen.push e.born,since,es',c,hq',zJu hWi1,by
        have hne:mm≠b:=fun e=>by subst e;have:=xJb.1 hm;rw[hg]at this;simp at this
        simp[hne,xJb.1 hm],yQm _,fun _=>⟨ces,by
        have hne:q'.blk≠q.blk:=fun e=>by rw[e,hWi]at hWm;simp at hWm
        rw[zJb hne,hheap];exact hWm, .inr rfl,⟨p1++p2,eJ2 hB hp hls,g1.append g2⟩,fun x hx=>by
        cases hx;exact⟨e,(Array.mem_filter.1 (Array.getElem_mem hk)).1 |>Array.mem_def.1,by simp,rfl,by simp only[VR];exact⟨_,rfl,VRs.cons ha (VRs.cons hb VRs.nil)⟩⟩⟩⟩ hN
    refine⟨_,_, .tuple #[.bool true,e.key,e.val],_,hKK,by simp only[VR];exact⟨_,rfl,VRs.cons (by simp[VR]) (VRs.cons ha (VRs.cons hb VRs.nil))⟩,hrel1,Ext.setOb hq _,?_⟩;rw[head];simp only[hne,yQ2,if_false,Array.empty_append,Array.size_map];rw[qJb hr];have hget:((ces.filter fun e=>!seen.contains e.born).map some)[k]? =some (some e):=by
      rw[Array.getElem?_map,Array.getElem?_eq_getElem hk];rfl
    simp only[hget];rw[qJb (jJ8 hWi1 (by simp))];rfl
theorem aJk(h:Rel W0 N0 m w W){b:Nat}{q:Pl}(hq:m b=some q){v:AV}{w':AW}(he:lJy w b=some (v,w')):
  ∃cv,(Instr.entry (.pointer (some ⟨q.blk,q.off+0,none⟩))).run P W= .ok cv W∧VR m v cv∧w'=w:=by
 unfold lJy at he;split at he
 ·rename_i r es c rest x hg;rw[yQi]at he;obtain⟨⟨es',c'⟩,hm,he⟩:=he;split at he
  ·rename_i hc;simp only[]at hc;subst hc;cases he;obtain⟨ob,hg',hob⟩:=h.obj b q hq;rw[hg]at hg';cases hg';obtain⟨hN,h0,q',since,seen,st,esn,vn,hq',hWi,hgm,hver,hrel⟩:=hob;rw[xJb.1 hm]at hgm;cases hgm;obtain⟨ces,hWm,hst,_,hlast⟩:=hrel rfl;obtain⟨e,he,hback,rfl,hv⟩:=hlast v rfl;obtain⟨_,ces0,cl0,hW0,_,hB0⟩:=h.map hq' hm;rw[hWm]at hW0;have hB:jJt ces.toList st:=by
    have:=gQb hW0;injection this with i1 i2;subst i1 i2;exact hB0
   refine⟨_,?_,hv,rfl⟩;unfold Instr.entry;rw[h0];simp only[];rw[qJb (zJa hWi (by simp))];simp only[hback];rw[qJb (zJa hWm (by simp))];have hfind:ces.find? (fun x=>x.born==e.born)=some e:=by
    rw[←Array.find?_toList];obtain⟨l1,l2,hl⟩:=List.append_of_mem he;rw[hl,List.find?_append,List.find?_cons];have hnd:=hB.1;rw[hl,List.map_append,List.map_cons,List.nodup_append]at hnd;have:l1.find? (fun x=>x.born==e.born)=none:=by
     rw[List.find?_eq_none];intro x hx;have:=hnd.2.2 x.born (List.mem_map.2 ⟨x,hx,rfl⟩) e.born (by simp);simpa using this
    rw[this];simp
   simp[hfind]
  ·simp at he
 ·simp at he
end
end Go.Sx
namespace Go.Sx
section
variable {P:Program}{W0:World}{N0:Nat}{m:Emb}{w:AW}{W:World}{tmps:Tm}{ts:Array Value}{ds:List Deferred}
theorem run_u {s:Sem Unit}{W':World}(h:s.run P W= .ok () W'):(do s;pure Next.skip:Sem Next).run P W= .ok .skip W':=by
 rw[qJb h,qJo]
def xQ9(m:Emb)(v:AV):Next→Prop
 | .value cv=>VR m v cv
 | .skip=>v=Go.Sx.undef
 | _=>False
theorem qQi(h:Rel W0 N0 m w W)(ht:VRs m tmps ts.toList){o:Oper}{v:AV}{w':AW}(he:vJ4 P w tmps o.op=some (v,w')):
  ∃nx W' m',(execOp (Act.mk ts ds).eval o).run P W= .ok nx W'∧xQ9 m' v nx∧Rel W0 N0 m' w' W'∧Ext m m' w w':=by
 have mapU:∀{t:TypeId} {mo k x:Operand},execOp (Act.mk ts ds).eval o=(do Instr.mapUpdate t ((Act.mk ts ds).eval mo) ((Act.mk ts ds).eval k) ((Act.mk ts ds).eval x);pure Next.skip)→
   ((qJs tmps mo).bind fun m=>(qJs tmps k).bind fun k=>(qJs tmps x).bind fun v=>yJz P w t m k v)=some (v,w')→
   ∃nx W' m',(execOp (Act.mk ts ds).eval o).run P W= .ok nx W'∧xQ9 m' v nx∧Rel W0 N0 m' w' W'∧Ext m m' w w':=by
  intro t mo k x hex hp;simp only[yQi]at hp;obtain⟨am,ham,ak,hak,ax,hax,hs⟩:=hp;obtain⟨W',hr,rfl,hrel,hext⟩:=cJ6 (P:=P) h hs (qJj (ds:=ds) ht ham) (qJj (ds:=ds) ht hak) (qJj (ds:=ds) ht hax);exact⟨.skip,W',m,by rw[hex];exact run_u hr,rfl,hrel,hext⟩
 cases hop:o.op<;>rw[hop]at he<;>simp only[vJ4]at he<;>(try (simp at he;done))
 case store t a x=>
  simp only[yQi,yQl]at he;obtain⟨p,⟨av,ha,hb⟩,xv,hx,w1,hs,he⟩:=he;cases he;rw[gJ1]at hb;subst hb;have hav:=qJj (ds:=ds) ht ha;simp only[VR]at hav;obtain⟨q,hq,hea⟩:=hav;obtain⟨W',hr,hrel⟩:=rJc (P:=P) h hs hq (qJj (ds:=ds) ht hx);refine⟨.skip,W',m,?_,rfl,hrel,?_⟩
  ·unfold execOp;rw[hop];refine run_u ?_;rw[hea,Instr.storeAt];exact hr
  ·unfold dJt at hs;simp only[yQi]at hs;obtain⟨n,hn,hs⟩:=hs;obtain⟨_,hs⟩:=qJe.1 hs;exact Ext.put h hs hq
 case entry i=>
  simp only[yQi]at he;obtain⟨p,⟨av,ha,hb⟩,he⟩:=he;rw[gJ1]at hb;subst hb;obtain⟨hg,he⟩:=qJe.1 he;have h0:p.2=0:=yQp hg;have hav:=qJj (ds:=ds) ht ha;simp only[VR]at hav;obtain⟨q,hq,hea⟩:=hav;rw[h0]at hea;obtain⟨cv,hr,hv,rfl⟩:=aJk (P:=P) h hq he;exact⟨.value cv,W,m,by unfold execOp;rw[hop];refine gJj ?_;rw[hea];exact hr,hv,h,Ext.refl _ _⟩
 case range t x=>
  rw[yQi]at he;obtain⟨a,ha,hs⟩:=he;obtain⟨cv,W',m',hr,hv,hrel,hext⟩:=cJ5 (P:=P) h hs (qJj (ds:=ds) ht ha);exact⟨.value cv,W',m',by unfold execOp;rw[hop];exact gJj hr,hv,hrel,hext⟩
 case mapUpdate t mo k x=>exact mapU (by unfold execOp;rw[hop]) he
 case insert t mo k x=>exact mapU (by unfold execOp;rw[hop]) he
 case call c=>
  unfold wJk at he;split at he
  ·rename_i b hc;obtain⟨consts,hex⟩:=pJs (ρ:=(Act.mk ts ds).eval) hop hc;rw[hex];unfold gJz at he;rw[yQi]at he;obtain⟨vs,hvs,he⟩:=he;have hv:=xJ5 (ds:=ds) ht hvs;have hargs:c.args.map (Act.mk ts ds).eval=(c.args.toList.map (Act.mk ts ds).eval).toArray:=by rw[←Array.toList_map]
   have val:∀{s:Sem Value},(∃cv W' m',s.run P W= .ok cv W'∧VR m' v cv∧Rel W0 N0 m' w' W'∧Ext m m' w w')→
     ∃nx W' m',(do pure (Next.value (←s)):Sem Next).run P W= .ok nx W'∧xQ9 m' v nx∧Rel W0 N0 m' w' W'∧Ext m m' w w':=by
    rintro s ⟨cv,W',m',hr,hvr,hrel,hext⟩;exact⟨.value cv,W',m',gJj hr,hvr,hrel,hext⟩
   split at he
   ·rename_i x r;simp only[VRs]at hv;obtain⟨cx,cr,hcs,hxr,hrr⟩:=hv;rw[yQi]at he;obtain⟨t,ht0,he⟩:=he;rw[hargs,hcs];have a0:(cx::cr).toArray[0]? =some cx:=by simp
    split at he
    ·rename_i y;simp only[VRs]at hrr;obtain⟨cy,cr',rfl,hyr,rfl⟩:=hrr;have a1:(cx::[cy]).toArray[1]? =some cy:=by simp
     split at he
     ·exact val (rJb h ht0 a0 a1 hxr hyr he)
     ·exact val (iJc h ht0 a0 a1 hxr hyr he)
     ·exact val (cJ9 h ht0 a0 a1 hxr hyr he)
     ·simp at he
    ·split at he
     ·simp only[yQl]at he;obtain⟨w1,hc,he⟩:=he;cases he;exact val (nJ3 h ht0 a0 hxr hc)
     ·simp at he
    ·simp at he
   ·simp at he
  ·simp at he
end
end Go.Sx
