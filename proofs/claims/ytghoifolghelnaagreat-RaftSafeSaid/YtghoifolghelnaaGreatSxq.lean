/-
 A law's arguments with all that they read,and what they read as.
 No condition beyond those that each theorem names.
-/
import Derived.Test.YtghoifolghelnaaGreatSxp
import Derived.SizedLaws
set_option linter.unusedVariables false
set_option linter.unusedSimpArgs false
/-! A law's arguments, with all that they read. -/
namespace Go.Sx
open Go.ChangeShapes Go.WideShapes Go.ChangeAt Go.RowKit
def argL(css:List (List AV)):AW:=css.foldl (fun w cs=>w.push (.cells cs 0 0 false)) ((AW.mk 1 .nil).set 0 (.cells [] 0 0 false))
theorem nJc(css:List (List AV))(cs:List AV):argL (css++[cs])=(argL css).push (.cells cs 0 0 false):=by simp[argL]
theorem tJs {α:Type}{p:List α→Prop}(h0:p [])(h1:∀l a,p l→p (l++[a]))(l:List α):p l:=by
 rw[←List.reverse_reverse l];generalize l.reverse=r
 induction r with
 | nil=>exact h0
 | cons a r ih=>rw[List.reverse_cons];exact h1 _ _ ih
theorem xJo(css:List (List AV)):(argL css).size=css.length+1:=by
 induction css using tJs with
 | h0=>rfl
 | h1 l a ih=>rw[nJc,AW.push_size,ih];simp
theorem jJn(css:List (List AV)):∀b,(argL css).get b=match b with | 0=>some (.cells [] 0 0 false) | i+1=>(css[i]?).map fun cs=> .cells cs 0 0 false:=by
  induction css using tJs with
  | h0=>
    intro b;show((AW.mk 1 .nil).set 0 _).get b=_;rw[AW.set_get]
    cases b with
    | zero=>rfl
    | succ i=>simp
  | h1 l a ih=>
    intro b;rw[nJc,AW.push_get,xJo,ih]
    cases b with
    | zero=>simp
    | succ i=>
      by_cases h:i=l.length
      · subst h;simp
      · rw[if_neg (by omega)]
        by_cases h2:i<l.length
        · simp[List.getElem?_append,h2]
        · show Option.map _ (l[i]?)=Option.map _ ((l++[a])[i]?)
          rw[yQ6 (by omega),yQ6 (by simp;omega)]
theorem gJ2(css:List (List AV)):(argL css).root? 0=some (0,0,false):=AW.root?_iff.2 ⟨[],jJn css 0,rfl⟩
theorem oJy {css:List (List AV)}{b:Nat}{x:Nat×Nat×Bool}(h:(argL css).fam? b=some x):b≤css.length∧x=(0,0,false):=by
  obtain⟨cs,o,d,h1,h2⟩:=AW.fam?_iff.1 h;rw[jJn]at h1
  cases b with
  | zero=>
    simp at h1;obtain⟨_,h3,_⟩:=h1;rw[←h3,gJ2]at h2;exact⟨yQz _,(gQb h2).symm⟩
  | succ i=>
    simp only[yQl]at h1;obtain⟨c,hc,h1⟩:=h1;simp at h1;obtain⟨_,h3,_⟩:=h1;rw[←h3,gJ2]at h2;exact⟨(yQt.1 hc).1,(gQb h2).symm⟩
theorem wJq {css:List (List AV)}{b:Nat}(hb:b≤css.length):(argL css).fam? b=some (0,0,false):=by
  cases b with
  | zero=>exact AW.fam?_iff.2 ⟨[],0,false,jJn css 0,gJ2 css⟩
  | succ i=>
    have:i<css.length:=hb;exact AW.fam?_iff.2 ⟨css[i],0,false,by rw[jJn];simp[this],gJ2 css⟩
theorem iJ8 {css:List (List AV)}{i:Nat}{cs:List AV}(h:css[i]? =some cs):(argL css).cells? (i+1)=some cs:=by
 have hi:=(yQt.1 h).1;exact AW.cells?_iff.2 ⟨(0,0,false),0,false,wJq hi,.inl rfl,by rw[jJn];simp[h]⟩
theorem mJb {css:List (List AV)}{b:Nat}{cs:List AV}(h:(argL css).cells? b=some cs):(b=0∧cs=[])∨∃i,b=i+1∧css[i]? =some cs:=by
  obtain⟨x,o,d,h1,h2,h3⟩:=AW.cells?_iff.1 h;rw[jJn]at h3
  cases b with
  | zero=>simp at h3;exact .inl ⟨rfl,h3.1⟩
  | succ i=>
    simp only[yQl]at h3;obtain⟨c,hc,h3⟩:=h3;simp at h3;exact .inr ⟨i,rfl,by rw[hc,h3.1]⟩
theorem xQ3(css:List (List AV)):Mem (argL css):=by
  constructor
  · intro b o h
    rw[jJn]at h;rw[xJo]
    cases b with
    | zero=>omega
    | succ i=>
      simp only[yQl]at h;obtain⟨c,hc,_⟩:=h;have:=(yQt.1 hc).1;omega
  · intro b cs f own d h
    rw[jJn]at h
    cases b with
    | zero=>simp at h;omega
    | succ i=>
      simp only[yQl]at h;obtain⟨c,hc,h⟩:=h;simp at h;omega
structure ArgR(W:World)(css:List (List AV))(m:Emb):Prop where
 le:∀b p,m b=some p→b≤css.length
 at0:∀q,m 0=some q→∃c e fr,W.heap[q.blk]? =some (.cells c e fr)∧q.off=c.size∧q.room=0
 row:∀i p,m (i+1)=some p→∃cs c e fr,css[i]? =some cs∧W.heap[p.blk]? =some (.cells c e fr)∧p.off+p.room≤c.size∧cs.length≤p.room∧(∀a∈cs,qJc a=true)∧VRs m cs ((c.toList.drop p.off).take cs.length)
 root:∀b p,m b=some p→∃q,m 0=some q
theorem Rel.rows {W:World}{css:List (List AV)}{m:Emb}(h:ArgR W css m):Rel W W.heap.size m (argL css) W:=by
  have any:∀b p,m b=some p→∃c e fr,W.heap[p.blk]? =some (.cells c e fr)∧p.off+p.room≤c.size∧∀cs,(argL css).cells? b=some cs→cs.length≤p.room∧(∀a∈cs,qJc a=true)∧VRs m cs ((c.toList.drop p.off).take cs.length):=fun b p hb=>by
    cases b with
    | zero=>
      obtain⟨c,e,fr,h1,h2,h3⟩:=h.at0 p hb;refine⟨c,e,fr,h1,by omega,fun cs hcs=>?_⟩;rcases mJb hcs with⟨_,rfl⟩ | ⟨i,hi,_⟩
      · exact⟨yQz _,by simp,by simp[VRs]⟩
      · cases hi
    | succ i=>
      obtain⟨cs0,c,e,fr,h0,h1,h2,h3,h4,h5⟩:=h.row i p hb;refine⟨c,e,fr,h1,h2,fun cs hcs=>?_⟩;rcases mJb hcs with⟨h,_⟩ | ⟨j,hj,hcj⟩
      · cases h
      · cases hj
        rw[h0]at hcj;cases hcj;exact⟨h3,h4,h5⟩
  refine⟨⟨rfl,rfl⟩,by rw[xJo];omega,fun b p hb=>by rw[xJo];have:=h.le b p hb;omega,⟨yQm _,fun _ _=>rfl⟩,fun b p hb=>?_,fun b b' p p' hb hb' _ _=>?_,fun b b' p p' x cs cs' hb hb' hblk hf hf' ho hc hc'=>?_,fun b x hf hx=>?_,fun b hb=>?_,fun b cs f own d hg=>?_,fun b p cs own d _ h0 hg=>?_⟩
  · obtain⟨c,e,fr,h1,h2,h3⟩:=any b p hb
    have hle:=h.le b p hb;have hg:∃cs,(argL css).get b=some (.cells cs 0 0 false):=by
      rw[jJn]
      cases b with
      | zero=>exact⟨[],rfl⟩
      | succ i=>have:i<css.length:=hle;exact⟨css[i],by simp[this]⟩
    obtain⟨cs0,hg⟩:=hg;exact⟨_,hg,c,e,fr,(0,0,false),h1,h2,wJq hle,h.root b p hb,fun hx=>absurd rfl hx,h3⟩
  · exact⟨_,wJq (h.le b p hb),wJq (h.le b' p' hb')⟩
  · obtain⟨_,rfl⟩:=oJy hf
    simp only[]at ho;subst ho;obtain⟨c,e,fr,h1,h2,_⟩:=h.at0 p hb;obtain⟨c',e',fr',h1',h2',h3'⟩:=any b' p' hb';rw[hblk,h1']at h1;cases h1;have:=(h3' cs' hc').1;omega
  · obtain⟨_,rfl⟩:=oJy hf
    exact absurd rfl hx
  · rw[xJo]at hb
    rw[jJn]
    cases b with
    | zero=>omega
    | succ i=>simp;omega
  · rw[jJn]at hg
    cases b with
    | zero=>simp at hg;rw[xJo];omega
    | succ i=>
      simp only[yQl]at hg;obtain⟨c,_,hg⟩:=hg;simp at hg;rw[xJo];omega
  · rw[jJn]at hg
    cases b with
    | zero=>exact absurd rfl h0
    | succ i=>
      simp only[yQl]at hg;obtain⟨c,_,hg⟩:=hg;simp at hg
inductive Dt(P:Program)(css:List (List AV)):TypeId→List AV→Prop where
 | int {t:TypeId} {k:IntKind} {n:Int}:P.underlying t=some (.int k)→(Lit.int k n).wf=true→Dt P css t [.int k n]
 | bool {t:TypeId} {b:Bool}:P.underlying t=some .bool→Dt P css t [.bool b]
 | str {t:TypeId} {s:List UInt8}:P.underlying t=some .string→s.length≤reachBytes→Dt P css t [.str s]
 | nils {t e:TypeId}:P.underlying t=some (.slice e)→Dt P css t [.nilslice]
 | slice {t e:TypeId} {i len cap:Nat} {cs:List AV}:P.underlying t=some (.slice e)→css[i]? =some cs→cs.length=len * P.cellsOf e→len≤cap→cap≤maxLen∧cap * P.bytesOf e≤reachBytes→
   (∀j,j<len→Dt P css e ((cs.drop (j * P.cellsOf e)).take (P.cellsOf e)))→Dt P css t [.slice (i+1) 0 len cap none]
 | struct {t:TypeId} {fs:Array Field} {cs:List AV}:P.underlying t=some (.struct fs)→cs.length=P.cellsOf t→
   (∀(j:Nat) (f:Field),fs.toList[j]? =some f→Dt P css f.type ((cs.drop f.offset).take (P.cellsOf f.type)))→Dt P css t cs
theorem Dt.more {P:Program}{css:List (List AV)}(x:List (List AV)){t:TypeId}{cs:List AV}(h:Dt P css t cs):Dt P (css++x) t cs:=by
 induction h with
 | int h1 h2=>exact .int h1 h2
 | bool h1=>exact .bool h1
 | str h1 h2=>exact .str h1 h2
 | nils h1=>exact .nils h1
 | slice h1 h2 h3 h4 h5 _ ih=>exact .slice h1 (by rw[gQa (yQt.1 h2).1];exact h2) h3 h4 h5 ih
 | struct h1 h2 _ ih=>exact .struct h1 h2 ih
def tiles(P:Program):Nat→List Field→Option Nat
 | n,[]=>some n
 | n,f::fs=>bif Nat.beq f.offset n then tiles P (n+P.cellsOf f.type) fs else none
def wJg(P:Program):Nat→TypeId→Bool
  | 0,_=>false
  | d+1,t=>match P.underlying t with
    | some (.int _)=>true
    | some .bool=>true
    | some .string=>true
    | some (.slice e)=>Nat.blt 0 (P.cellsOf e)&&wJg P d e
    | some (.struct fs)=>(match tiles P 0 fs.toList with | some n=>Nat.beq n (P.cellsOf t) | none=>false)&&fs.toList.all fun f=>wJg P d f.type
    | _=>false
theorem Dt.okc {P:Program}{css:List (List AV)}:∀(d:Nat) {t:TypeId} {cs:List AV},wJg P d t=true→Dt P css t cs→∀a∈cs,qJc a=true:=by
  intro d
  induction d with
  | zero=>intro t cs h;cases h
  | succ d ih=>
    intro t cs hf h
    cases h with
    | int=>simp[qJc]
    | bool=>simp[qJc]
    | str=>simp[qJc]
    | nils=>simp[qJc]
    | slice=>simp[qJc]
    | struct hu hl hc=>
      rename_i fs;unfold wJg at hf;rw[hu]at hf;simp only[gQ3]at hf;obtain⟨ht,hall⟩:=hf;have key:∀(l:List Field) (n k:Nat),tiles P n l=some k→(∀f∈l,∀a∈(cs.drop f.offset).take (P.cellsOf f.type),qJc a=true)→∀i,n≤i→i<k→∀a,cs[i]? =some a→qJc a=true:=by
        intro l
        induction l with
        | nil=>intro n k h _ i h1 h2;simp[tiles]at h;omega
        | cons f l ih2=>
          intro n k h hp i h1 h2 a ha;simp only[tiles]at h
          cases hb:Nat.beq f.offset n with
          | false=>rw[hb]at h;cases h
          | true=>
            rw[hb]at h;have e:=yQp hb;by_cases hi:i<n+P.cellsOf f.type
            · refine hp f yQu a ?_
              rw[List.mem_iff_getElem?];exact⟨i - n,by rw[gQr (by omega),gQj,e,show n+(i - n)=i by omega];exact ha⟩
            · exact ih2 _ _ h (fun g hg=>hp g (yQq _ hg)) i (by omega) h2 a ha
      intro a ha;obtain⟨i,hi,rfl⟩:=List.getElem_of_mem ha;split at ht
      · rename_i n hn
        have hn2:=yQp ht;subst hn2;refine key _ 0 _ hn (fun f hf a ha=>?_) i (yQz _) (by omega) _ (yQn hi);obtain⟨j,hj,rfl⟩:=List.getElem_of_mem hf;exact ih (yQv.1 hall _ hf) (hc j _ (yQn hj)) a ha
      · cases ht
section
variable {H:Type}{enc:TypeId×Value→H}{P:Program}{W:World}
theorem pJa {base n:Nat}{a:Addr}{vs:List Value}(h:W.cells? base a n=some vs):vs.length=n∧∀f,f<n→W.cell? (a.add f)=vs[f]? :=by
 unfold World.cells? at h;split at h
 ·have hl:=mapM_some_length h;refine⟨by simpa using hl,fun f hf=>?_⟩;exact mapM_some_get h f f (by simp[hf])
 ·cases h
theorem mJf {a:Addr}(h:a.spot=none)(n:Nat):a.add n=⟨a.block,a.off+n,none⟩:=by
 obtain⟨b,o,s⟩:=a;simp only at h;subst h;exact jJ3 b o n
theorem ArgR.push {css:List (List AV)}{m:Emb}(h:ArgR W css m){q:Pl}(hq:m 0=some q){p:Pl}{cs:List AV}{c:Array Value}{e:TypeId}{fr:Nat×Nat}(hW:W.heap[p.blk]? =some (.cells c e fr))(hr:p.off+p.room≤c.size)(hl:cs.length≤p.room)
  (hok:∀a∈cs,qJc a=true) (hv:VRs m cs ((c.toList.drop p.off).take cs.length)):m.le (m.ext (css.length+1) p)∧ArgR W (css++[cs]) (m.ext (css.length+1) p)∧(m.ext (css.length+1) p) 0=m 0:=by
 have hno:m (css.length+1)=none:=by
  cases hk:m (css.length+1)with
  | none=>rfl
  | some p=>have:=h.le _ _ hk;omega
 have hle:=m.le_ext p hno;have h0:(m.ext (css.length+1) p) 0=m 0:=by simp[Emb.ext]
 refine⟨hle,⟨fun b p' hb=>?_,fun q' hq'=>h.at0 q' (by rw[←h0];exact hq'),fun i p' hb=>?_,fun b p' _=>⟨q,by rw[h0];exact hq⟩⟩,h0⟩
 ·unfold Emb.ext at hb;split at hb
  ·rename_i e;simp;omega
  ·have:=h.le _ _ hb;simp;omega
 ·unfold Emb.ext at hb;split at hb
  ·rename_i e;have e:i=css.length:=by omega
   subst e;cases hb;exact⟨cs,c,_,fr,by simp,hW,hr,hl,hok,hv.mono hle⟩
  ·obtain⟨cs',c',e',fr',h1,h2,h3,h4,h5,h6⟩:=h.row _ _ hb;exact⟨cs',c',e',fr',by rw[gQa (yQt.1 h1).1];exact h1,h2,h3,h4,h5,h6.mono hle⟩
theorem wJ8 {P:Program}{e:TypeId}{n:Nat}:∀{l:List (DataW H)} {d:DataW H},d∈l→n∈d.weights P e→n∈DataW.weightsAll P e l
  | a::l,d,hd,hn=>by
    simp only[DataW.weightsAll,yQ1];rcases yQw.1 hd with rfl | hd
    · exact .inl hn
    · exact .inr (wJ8 hd hn)
theorem hJg {base:Nat}{sp:Nat→Bool}(hsp:∀b,sp b=true):∀(fuel:Nat) {t:TypeId} {vs:List Value} {x:DataW H×List MemPlace} {css:List (List AV)} {m:Emb} {d:Nat},ArgR W css m→(∃q,m 0=some q)→wJg P d t=true→
    DataW.trod enc P W base sp true fuel t vs=some x→(∀n∈x.1.weights P t,n≤reachBytes)→∃(y:List (List AV)) (m':Emb) (avs:List AV),ArgR W (css++y) m'∧m.le m'∧m' 0=m 0∧VRs m' avs vs∧Dt P (css++y) t avs:=by
  intro fuel
  induction fuel with
  | zero=>intro t vs x css m d _ _ _ h;simp[DataW.trod]at h
  | succ fuel ih=>
    intro t vs x css m d hm hroot hf hd hw
    cases d with
    | zero=>cases hf
    | succ d=>
      have hf0:=hf;unfold wJg at hf;split at hf
      · rename_i k hu
        obtain⟨n,rfl,_,hwf⟩:=DataW.trod_int hu hd;exact⟨[],m,[.int k n],by simpa using hm,Emb.le_refl _,rfl,VRs.cons (by simp[VR]) VRs.nil, .int hu hwf⟩
      · rename_i hu
        obtain⟨b,rfl,_⟩:=DataW.trod_bool hu hd;exact⟨[],m,[.bool b],by simpa using hm,Emb.le_refl _,rfl,VRs.cons (by simp[VR]) VRs.nil, .bool hu⟩
      · rename_i hu
        obtain⟨s,rfl,rfl,hs⟩:=DataW.trod_string hu hd;exact⟨[],m,[.str s.data.toList],by simpa using hm,Emb.le_refl _,rfl,VRs.cons (by simp only[VR];exact⟨s,rfl,rfl⟩) VRs.nil, .str hu (hw _ (by simp[DataW.weights]))⟩
      · rename_i e hu
        simp only[gQ3,gQm]at hf;obtain⟨hpos,hfe⟩:=hf;rcases DataW.trod_slice hu hd with⟨rfl,_⟩ | ⟨a,len,cap,elems,rest,n',hfu,rfl,rfl,_,hle,hmax0,hlen,hel,hre,_⟩
        · exact⟨[],m,[.nilslice],by simpa using hm,Emb.le_refl _,rfl,VRs.cons (by simp[VR]) VRs.nil, .nils hu⟩
        · cases hfu
          have hmax:cap≤maxLen∧cap * P.bytesOf e≤reachBytes:=by
            refine⟨hmax0,?_⟩;have h1:=(hre (hsp _)).1;have:=hw (((elems.map (·.1)).length+(rest.map (·.1)).length) * P.bytesOf e) (by simp only[DataW.weights,hu];exact yQu);rw[yQr,yQr,hlen,h1,show len+(cap - len)=cap by omega]at this;exact this
          have hwe:∀(k:Nat) (hk:k<elems.length),∀n∈elems[k].1.weights P e,n≤reachBytes:=fun k hk n hn=>hw n (by
            simp only[DataW.weights,hu];refine yQq _ (List.mem_append_left _ (wJ8 (d:=elems[k].1) ?_ hn));exact List.mem_map_of_mem (gQp hk))
          obtain⟨q,hq⟩:=hroot;by_cases hc0:cap=0
          · -- nothing is read
            subst hc0;have hl0:len=0:=by omega
            subst hl0;obtain⟨c,e',fr,h1,h2,h3⟩:=hm.at0 q hq;obtain⟨g1,g2,g3⟩:=hm.push hq (p:=q) (cs:=[]) h1 (by omega) (yQz _) (by simp) (by simp[VRs]);refine⟨[[]],_,[.slice (css.length+1) 0 0 0 none],g2,g1,g3,VRs.cons ?_ VRs.nil, .slice hu (cs:=[]) (by simp) (by simp) (yQm _) hmax (fun j hj=>absurd hj (Nat.not_lt_zero _))⟩;simp only[VR];exact⟨q,a,0,by simp[Emb.ext],rfl,yQm _,rfl,fun h=>absurd rfl h⟩
          · -- its block
            have hblk:∃c e' fr,W.heap[a.block]? =some (.cells c e' fr)∧a.spot=none:=by
              have:∃cs,W.cells? base a (P.cellsOf e)=some cs:=by
                by_cases hl:0<len
                · have h1:=hel 0 hl
                  rw[yQn (by omega),yQi]at h1;obtain⟨cs,h3,_⟩:=h1;exact⟨cs,by simpa [Addr.add]using h3⟩
                · have hl:len=0:=by omega
                  subst hl;obtain⟨hr1,hr2⟩:=hre (hsp _);have h1:=hr2 0 (by omega);rw[yQn (by omega),yQi]at h1;obtain⟨cs,h3,_⟩:=h1;exact⟨cs,by simpa [Addr.add]using h3⟩
              obtain⟨cs,h3⟩:=this;obtain⟨g1,g2⟩:=pJa h3;have g3:=g2 0 hpos;rw[yQn (by omega),show a.add 0=a by simp[Addr.add]]at g3;unfold World.cell? at g3;split at g3
              · rename_i c e' fr hb
                split at g3
                · cases g3
                · rename_i hs;exact⟨c,e',fr,hb,by simpa using hs⟩
              · cases g3
            obtain⟨c,e',fr,hW,hspot⟩:=hblk;have hcell:∀k,W.cell? (a.add k)=c[a.off+k]? :=fun k=>by
              rw[mJf hspot,gJx hW]
            -- the items
            have items:∀k,k≤len→∃(y:List (List AV)) (m':Emb) (avs:List AV),ArgR W (css++y) m'∧m.le m'∧m' 0=m 0∧avs.length=k * P.cellsOf e∧(k≠0→a.off+k * P.cellsOf e≤c.size)∧
                VRs m' avs ((c.toList.drop a.off).take (k * P.cellsOf e))∧∀j,j<k→Dt P (css++y) e ((avs.drop (j * P.cellsOf e)).take (P.cellsOf e)):=by
              intro k
              induction k with
              | zero=>exact fun _=>⟨[],m,[],by simpa using hm,Emb.le_refl _,rfl,by simp,fun h=>absurd rfl h,by simp[VRs],fun j hj=>absurd hj (Nat.not_lt_zero _)⟩
              | succ k ihk=>
                intro hk;obtain⟨y,m1,avs,a1,a2,a3,a4,a5,a6,a7⟩:=ihk (by omega);have h1:=hel k (by omega);rw[yQn (by omega),yQi]at h1;obtain⟨cvs,h3,h4⟩:=h1;obtain⟨g1,g2⟩:=pJa h3;obtain⟨y2,m2,av2,b1,b2,b3,b4,b5⟩:=ih a1 ⟨q,by rw[a3];exact hq⟩ hfe h4 (hwe k (by omega));have hav2:av2.length=P.cellsOf e:=by rw[b4.length,g1]
                have hrow:∀f,f<P.cellsOf e→c[a.off+(k * P.cellsOf e+f)]? =cvs[f]? :=fun f hf=>by
                  rw[←hcell,←g2 f hf,mJf hspot,mJf hspot,jJ3,Nat.add_assoc]
                have hsz:a.off+(k+1) * P.cellsOf e≤c.size:=by
                  have h5:=hrow (P.cellsOf e - 1) (by omega);rw[yQn (by omega)]at h5;have h6:=(gQe.1 h5).1;rw[gQl,Nat.one_mul];omega
                refine⟨y++y2,m2,avs++av2,by rw[←yQy];exact b1,Emb.le_trans a2 b2,by rw[b3,a3],by rw[yQs,a4,hav2,gQl,Nat.one_mul],fun _=>hsz,?_,fun j hj=>?_⟩
                · have:(c.toList.drop a.off).take ((k+1) * P.cellsOf e)=(c.toList.drop a.off).take (k * P.cellsOf e)++cvs:=by
                    apply List.ext_getElem?;intro i;rw[gQl,Nat.one_mul]at hsz ⊢;by_cases hi:i<k * P.cellsOf e
                    · rw[gQa (by simp;omega),gQr (by omega),gQr hi]
                    · by_cases hi2:i<k * P.cellsOf e+P.cellsOf e
                      · rw[gQr hi2,gQj,gQg (by simp;omega)]
                        have hlen2:((c.toList.drop a.off).take (k * P.cellsOf e)).length=k * P.cellsOf e:=by simp;omega
                        rw[hlen2];have:=hrow (i - k * P.cellsOf e) (by omega);rw[←this,yQ4];congr 1;omega
                      · rw[yQ6 (by simp;omega),yQ6 (by simp;omega)]
                  rw[this];exact(a6.mono b2).append b4
                · by_cases hjk:j<k
                  · have:=(a7 j hjk).more y2
                    rw[yQy]at this;have hmul:(j+1) * P.cellsOf e≤k * P.cellsOf e:=yQ7 _ hjk;rw[gQl,Nat.one_mul]at hmul;rw[List.drop_append_of_le_length (by omega),gQk (by simp;omega)];exact this
                  · have:j=k:=by omega
                    subst this;rw[List.drop_append,←a4,List.drop_length];simp only[Nat.sub_self,List.drop_zero,List.nil_append];rw[←hav2,gQi,←yQy];exact b5
            obtain⟨y,m1,avs,a1,a2,a3,a4,a5,a6,a7⟩:=items len (yQm _);have hoffle:a.off+len * P.cellsOf e≤c.size:=by
              by_cases hl:len=0
              · subst hl
                -- the spare room is read
                obtain⟨hr1,hr2⟩:=hre (hsp _);have h1:=hr2 0 (by omega);rw[yQn (by omega),yQi]at h1;obtain⟨cvs,h3,_⟩:=h1;obtain⟨g1,g2⟩:=pJa h3;have g3:=g2 0 hpos;rw[yQn (by omega)]at g3;have e1:(a.add ((0+0) * P.cellsOf e)).add 0=a.add 0:=by simp[Addr.add]
                rw[e1,hcell]at g3;have h6:=(gQe.1 g3).1;omega
              · exact a5 hl
            have hokv:∀x∈avs,qJc x=true:=by
              intro x hx;obtain⟨i,hi,rfl⟩:=List.getElem_of_mem hx;rw[a4]at hi;have hdiv:i / P.cellsOf e<len:=Nat.div_lt_of_lt_mul (by rw[Nat.mul_comm];exact hi);have hr:=a7 _ hdiv;have hmod:=Nat.div_add_mod i (P.cellsOf e);have hmlt:=Nat.mod_lt i hpos;refine Dt.okc d hfe hr _ ?_;rw[List.mem_iff_getElem?];refine⟨i % P.cellsOf e,?_⟩;rw[gQr hmlt,gQj];have:i / P.cellsOf e * P.cellsOf e+i % P.cellsOf e=i:=by rw[Nat.mul_comm];exact hmod
              rw[this,yQn (by omega)]
            have hqm:m1 0=some q:=by rw[a3];exact hq
            obtain⟨g1,g2,g3⟩:=a1.push hqm (p:=⟨a.block,a.off,len * P.cellsOf e⟩) (cs:=avs) hW hoffle (by rw[a4];exact yQm _) hokv (by rw[a4];exact a6);refine⟨y++[avs],_,[.slice ((css++y).length+1) 0 len cap none],by rw[←yQy];exact g2,Emb.le_trans a2 g1,by rw[g3,a3],VRs.cons ?_ VRs.nil,?_⟩
            · simp only[VR]
              exact⟨_,a,cap,by simp[Emb.ext];rfl,rfl,hle,rfl,fun _=>by cases a;simp_all⟩
            · rw[←yQy]
              exact .slice hu (by simp) a4 hle hmax fun j hj=>(a7 j hj).more _
      · rename_i fs hu
        simp only[gQ3]at hf;obtain⟨ht,hall⟩:=hf;obtain⟨xs,n,hfu,rfl,hl,hxl,hfi⟩:=DataW.trod_struct hu hd;cases hfu;have items:∀(l:List Field) (k n:Nat),tiles P k l=some n→(∀f∈l,wJg P d f.type=true)→(∀f∈l,∃x,DataW.trod enc P W base sp true fuel f.type ((vs.drop f.offset).take (P.cellsOf f.type))=some x∧∀n∈x.1.weights P f.type,n≤reachBytes)→n≤vs.length→
            ∀{css:List (List AV)} {m:Emb},ArgR W css m→(∃q,m 0=some q)→∃(y:List (List AV)) (m':Emb) (avs:List AV),ArgR W (css++y) m'∧m.le m'∧m' 0=m 0∧k≤n∧VRs m' avs ((vs.drop k).take (n - k))∧
              ∀f∈l,Dt P (css++y) f.type ((avs.drop (f.offset - k)).take (P.cellsOf f.type)):=by
          intro l
          induction l with
          | nil=>
            intro k n ht _ _ _ css m hm _;simp[tiles]at ht;subst ht;exact⟨[],m,[],by simpa using hm,Emb.le_refl _,rfl,yQm _,by simp[VRs],by simp⟩
          | cons f l ihl=>
            intro k n ht hfl htr hn css m hm hroot;simp only[tiles]at ht
            cases hb:Nat.beq f.offset k with
            | false=>rw[hb]at ht;cases ht
            | true=>
              rw[hb]at ht;have ek:=yQp hb;obtain⟨x,hx,hxw⟩:=htr f yQu;obtain⟨y1,m1,av1,a1,a2,a3,a4,a5⟩:=ih hm hroot (hfl f yQu) hx hxw;obtain⟨q,hq⟩:=hroot;obtain⟨y2,m2,av2,b1,b2,b3,b4,b5,b6⟩:=ihl _ _ ht (fun g hg=>hfl g (yQq _ hg)) (fun g hg=>htr g (yQq _ hg)) hn a1 ⟨q,by rw[a3];exact hq⟩;have hl1:av1.length=P.cellsOf f.type:=by rw[a4.length];simp;omega
              refine⟨y1++y2,m2,av1++av2,by rw[←yQy];exact b1,Emb.le_trans a2 b2,by rw[b3,a3],by omega,?_,fun g hg=>?_⟩
              · have:(vs.drop k).take (n - k)=(vs.drop f.offset).take (P.cellsOf f.type)++(vs.drop (k+P.cellsOf f.type)).take (n - (k+P.cellsOf f.type)):=by
                  rw[ek,←gQs,←List.take_add];congr 1;omega
                rw[this];exact(a4.mono b2).append b5
              · rcases yQw.1 hg with rfl | hg
                · have:=a5.more y2
                  rw[yQy]at this;rw[ek,Nat.sub_self,List.drop_zero,←hl1,List.take_left' rfl];exact this
                · have h7:=b6 g hg
                  rw[yQy]at h7;have hge:k+P.cellsOf f.type≤g.offset:=by
                    have key:∀(l:List Field) (k n:Nat),tiles P k l=some n→∀g∈l,k≤g.offset:=by
                      intro l
                      induction l with
                      | nil=>intro _ _ _ g hg;simp at hg
                      | cons f l ih=>
                        intro k n ht g hg;simp only[tiles]at ht
                        cases hb:Nat.beq f.offset k with
                        | false=>rw[hb]at ht;cases ht
                        | true=>
                          rw[hb]at ht;have:=yQp hb;rcases yQw.1 hg with rfl | hg
                          · omega
                          · have:=ih _ _ ht g hg;omega
                    exact key _ _ _ ht g hg
                  have e9:g.offset - k=av1.length+(g.offset - (k+P.cellsOf f.type)):=by omega
                  rw[e9,List.drop_append];rw[List.drop_eq_nil_of_le (by omega),List.nil_append];rw[show av1.length+(g.offset - (k+P.cellsOf f.type)) - av1.length=g.offset - (k+P.cellsOf f.type)by omega];exact h7
        split at ht
        · rename_i n' hn'
          have hn2:=yQp ht;rw[hn2]at hn';obtain⟨y,m1,avs,a1,a2,a3,a4,a5,a6⟩:=items fs.toList 0 _ hn' (fun f hf=>yQv.1 hall f hf) (fun f hf=>by
            obtain⟨j,hj,rfl⟩:=List.getElem_of_mem hf;have:=hfi j fs.toList[j] (by rw[←yQ4,yQn hj]);have hjx:j<xs.length:=by rw[hxl];simpa using hj
            rw[yQn hjx]at this;refine⟨_,this,fun n hn=>hw n ?_⟩;simp only[DataW.weights,hu];exact DataW.weights_mem_each (j:=j) (by rw[gQn,yQn hj];rfl) (by rw[gQn,yQn hjx];rfl) n hn) (by omega) hm hroot
          rw[List.drop_zero,Nat.sub_zero,←hl,gQi]at a5;refine⟨y,m1,avs,a1,a2,a3,a5, .struct hu (by rw[a5.length,hl]) fun j f hf=>?_⟩;have:=a6 f (List.mem_of_getElem? hf);simpa using this
        · cases ht
      · cases hf
theorem rJv {base b0:Nat}{r:Reach}{css:List (List AV)}{m:Emb}{dd:Nat}(hm:ArgR W css m)(hroot:(∃q,m 0=some q)∨cJs W){t:TypeId}{v:Value}{d:DataW H}{ps:List MemPlace}{sp:Nat→Bool}(hsp:∀b,sp b=true)
    (ht:wJg P dd t=true) (hs:match P.underlying t with | some (.struct _)=>False | _=>True) (hv:Value.okWide P W r b0 t v) (hd:DataW.Trod enc P W base sp true t v d ps) (hw:∀n∈d.weights P t,n≤reachBytes):
    ∃(y:List (List AV)) (m':Emb) (av:AV),ArgR W (css++y) m'∧m.le m'∧m' 0=m 0∧VR m' av v∧Dt P (css++y) t [av]:=by
  obtain⟨n,hd⟩:=hd
  -- a value of one cell
  have one:∃w:Value,v=w∧v.cells.toList=[w]:=by
    cases dd with
    | zero=>cases ht
    | succ dd=>
      unfold wJg at ht;split at ht
      · rename_i k hu
        obtain⟨x,hcs,_,_⟩:=DataW.trod_int hu hd;cases v<;>simp[Value.cells]at hcs ⊢;unfold Value.okWide at hv;rw[hu]at hv;simp[Cell.okWide,hu,Cell.ok]at hv
      · rename_i hu
        obtain⟨x,hcs,_⟩:=DataW.trod_bool hu hd;cases v<;>simp[Value.cells]at hcs ⊢;unfold Value.okWide at hv;rw[hu]at hv;simp[Cell.okWide,hu,Cell.ok]at hv
      · rename_i hu
        obtain⟨x,hcs,_,_⟩:=DataW.trod_string hu hd;cases v<;>simp[Value.cells]at hcs ⊢;unfold Value.okWide at hv;rw[hu]at hv;simp[Cell.okWide,hu,Cell.ok]at hv
      · rename_i e hu
        rcases DataW.trod_slice hu hd with⟨hcs,_⟩ | ⟨a,len,cap,elems,rest,n',_,hcs,_⟩
        all_goals
          cases v<;>simp[Value.cells]at hcs ⊢;unfold Value.okWide at hv;rw[hu]at hv;simp[Cell.okWide,hu,Cell.ok]at hv
      · rename_i fs hu
        rw[hu]at hs;exact hs.elim
      · cases ht
  obtain⟨w,rfl,hcs⟩:=one;rcases hroot with hroot | hno
  · obtain⟨y,m',avs,a1,a2,a3,a4,a5⟩:=hJg hsp n hm hroot ht hd hw
    rw[hcs]at a4;have hl:=a4.length
    match avs,hl with
    | [av],_=>exact⟨y,m',av,a1,a2,a3,(VRs.cons_iff.1 a4).1,a5⟩
  · -- there are no rows: nothing is a slice but nil
    cases dd with
    | zero=>cases ht
    | succ dd=>
      unfold wJg at ht;split at ht
      · rename_i k hu
        obtain⟨x,h1,_,h2⟩:=DataW.trod_int hu hd;rw[hcs]at h1;cases h1;exact⟨[],m, .int k x,by simpa using hm,Emb.le_refl _,rfl,by simp[VR], .int hu h2⟩
      · rename_i hu
        obtain⟨x,h1,_⟩:=DataW.trod_bool hu hd;rw[hcs]at h1;cases h1;exact⟨[],m, .bool x,by simpa using hm,Emb.le_refl _,rfl,by simp[VR], .bool hu⟩
      · rename_i hu
        obtain⟨s,h1,h3,h2⟩:=DataW.trod_string hu hd;rw[hcs]at h1;cases h1;cases h3;exact⟨[],m, .str s.data.toList,by simpa using hm,Emb.le_refl _,rfl,by simp only[VR];exact⟨s,rfl,rfl⟩, .str hu (hw _ (by simp[DataW.weights]))⟩
      · rename_i e hu
        rcases DataW.trod_slice hu hd with⟨h1,_⟩ | ⟨a,len,cap,elems,rest,n',_,h1,_⟩
        · rw[hcs]at h1;cases h1
          exact⟨[],m, .nilslice,by simpa using hm,Emb.le_refl _,rfl,by simp[VR], .nils hu⟩
        · rw[hcs]at h1;cases h1
          obtain⟨c,u,fr,hb⟩:=jQm hu hv;exact absurd hb (hno _ _ _ _)
      · rename_i fs hu
        rw[hu]at hs;exact hs.elim
      · cases ht
def yQg(P:Program)(css:List (List AV)):List TypeId→List AV→Prop
 | [],avs=>avs=[]
 | t::ts,avs=>∃a l,avs=a::l∧Dt P css t [a]∧yQg P css ts l
theorem nJw:∃m:Emb,ArgR W [] m∧((∃q,m 0=some q)∨cJs W):=by
 by_cases h:∃(b:Nat) (c:Array Value) (e:TypeId) (fr:Nat×Nat),W.heap[b]? =some (.cells c e fr)
 ·obtain⟨b,c,e,fr,hb⟩:=h;refine⟨fun x=>if x=0 then some ⟨b,c.size,0⟩else none,⟨fun x p hx=>?_,fun q hq=>?_,fun i p hp=>?_,fun x p hx=>⟨⟨b,c.size,0⟩,rfl⟩⟩,.inl ⟨_,rfl⟩⟩
  ·split at hx
   ·omega
   ·cases hx
  ·simp only[if_true,yQx]at hq;subst hq;exact⟨c,e,fr,hb,rfl,rfl⟩
  ·simp at hp
 ·refine⟨fun _=>none,⟨by simp,by simp,by simp,by simp⟩,.inr fun b c e fr hb=>h ⟨b,c,e,fr,hb⟩⟩
end
end Go.Sx
/-! Structs as a law's arguments. -/
namespace Go.Sx
open Go.ChangeShapes Go.WideShapes Go.ChangeAt Go.RowKit
section
variable {P:Program}{W:World}{H:Type}{enc:TypeId×Value→H}
theorem eJ9 {base:Nat}{u:TypeId}{r:Reach}{a:Addr}{len cap:Nat}(h:Cell.okWide P W r base u (.slice (some a) len cap)):∃c u fr,W.heap[a.block]? =some (.cells c u fr):=by
  cases hd:P.underlying u with
  | none=>simp[Cell.okWide,Cell.ok,hd]at h
  | some d=>
    cases d<;>simp only[Cell.okWide,Cell.ok,hd]at h<;>try exact h.elim
    obtain⟨_,_,_,_,row,cells,hs,_⟩:=h;unfold World.shape? at hs;split at hs
    · rename_i c u fr hb;exact⟨c,u,fr,hb⟩
    · cases hs
theorem sJp {base:Nat}{sp:Nat→Bool}{m:Emb}{css:List (List AV)}:∀(fuel:Nat) {t:TypeId} {vs:List Value} {x:DataW H×List MemPlace} {d:Nat},wJg P d t=true→
    DataW.trod enc P W base sp true fuel t vs=some x→(∀n∈x.1.weights P t,n≤reachBytes)→(∀a l c,Value.slice (some a) l c∉vs)→∃avs:List AV,VRs m avs vs∧Dt P css t avs:=by
  intro fuel
  induction fuel with
  | zero=>intro t vs x d _ h;simp[DataW.trod]at h
  | succ fuel ih=>
    intro t vs x d hf hd hw hno
    cases d with
    | zero=>cases hf
    | succ d=>
      unfold wJg at hf;split at hf
      · rename_i k hu
        obtain⟨n,rfl,_,hwf⟩:=DataW.trod_int hu hd;exact⟨[.int k n],VRs.cons (by simp[VR]) VRs.nil, .int hu hwf⟩
      · rename_i hu
        obtain⟨b,rfl,_⟩:=DataW.trod_bool hu hd;exact⟨[.bool b],VRs.cons (by simp[VR]) VRs.nil, .bool hu⟩
      · rename_i hu
        obtain⟨s,rfl,rfl,hs⟩:=DataW.trod_string hu hd;exact⟨[.str s.data.toList],VRs.cons (by simp only[VR];exact⟨s,rfl,rfl⟩) VRs.nil, .str hu (hw _ (by simp[DataW.weights]))⟩
      · rename_i e hu
        rcases DataW.trod_slice hu hd with⟨rfl,_⟩ | ⟨a,len,cap,elems,rest,n',hfu,rfl,_⟩
        · exact⟨[.nilslice],VRs.cons (by simp[VR]) VRs.nil, .nils hu⟩
        · exact absurd yQu (hno a len cap)
      · rename_i fs hu
        simp only[gQ3]at hf;obtain⟨ht,hall⟩:=hf;obtain⟨xs,n,hfu,rfl,hl,hxl,hfi⟩:=DataW.trod_struct hu hd;cases hfu;have key:∀(l:List Field) (k n:Nat),tiles P k l=some n→∀g∈l,k≤g.offset:=by
          intro l
          induction l with
          | nil=>intro _ _ _ g hg;simp at hg
          | cons f l ih=>
            intro k n ht g hg;simp only[tiles]at ht
            cases hb:Nat.beq f.offset k with
            | false=>rw[hb]at ht;cases ht
            | true=>
              rw[hb]at ht;have:=yQp hb;rcases yQw.1 hg with rfl | hg
              · omega
              · have:=ih _ _ ht g hg;omega
        have items:∀(l:List Field) (k n:Nat),tiles P k l=some n→(∀f∈l,wJg P d f.type=true)→(∀f∈l,∃x,DataW.trod enc P W base sp true fuel f.type ((vs.drop f.offset).take (P.cellsOf f.type))=some x∧∀n∈x.1.weights P f.type,n≤reachBytes)→n≤vs.length→
            ∃avs:List AV,k≤n∧VRs m avs ((vs.drop k).take (n - k))∧∀f∈l,Dt P css f.type ((avs.drop (f.offset - k)).take (P.cellsOf f.type)):=by
          intro l
          induction l with
          | nil=>
            intro k n ht _ _ _;simp[tiles]at ht;subst ht;exact⟨[],yQm _,by simp[VRs],by simp⟩
          | cons f l ihl=>
            intro k n ht hfl htr hn;have ht0:=ht;simp only[tiles]at ht
            cases hb:Nat.beq f.offset k with
            | false=>rw[hb]at ht;cases ht
            | true=>
              rw[hb]at ht;have ek:=yQp hb;obtain⟨x,hx,hxw⟩:=htr f yQu;obtain⟨av1,a4,a5⟩:=ih (hfl f yQu) hx hxw fun a l c hm=>hno a l c (List.mem_of_mem_drop (gQz hm));obtain⟨av2,b4,b5,b6⟩:=ihl _ _ ht (fun g hg=>hfl g (yQq _ hg)) (fun g hg=>htr g (yQq _ hg)) hn;have hl1:av1.length=P.cellsOf f.type:=by rw[a4.length];simp;omega
              refine⟨av1++av2,by omega,?_,fun g hg=>?_⟩
              · have:(vs.drop k).take (n - k)=(vs.drop f.offset).take (P.cellsOf f.type)++(vs.drop (k+P.cellsOf f.type)).take (n - (k+P.cellsOf f.type)):=by
                  rw[ek,←gQs,←List.take_add];congr 1;omega
                rw[this];exact a4.append b5
              · rcases yQw.1 hg with rfl | hg
                · rw[ek,Nat.sub_self,List.drop_zero,←hl1,List.take_left' rfl]
                  exact a5
                · have h7:=b6 g hg
                  have hge:=key _ _ _ ht g hg;have e9:g.offset - k=av1.length+(g.offset - (k+P.cellsOf f.type)):=by omega
                  rw[e9,List.drop_append];rw[List.drop_eq_nil_of_le (by omega),List.nil_append];rw[show av1.length+(g.offset - (k+P.cellsOf f.type)) - av1.length=g.offset - (k+P.cellsOf f.type)by omega];exact h7
        split at ht
        · rename_i n' hn'
          have hn2:=yQp ht;rw[hn2]at hn';obtain⟨avs,_,a5,a6⟩:=items fs.toList 0 _ hn' (fun f hf=>yQv.1 hall f hf) (fun f hf=>by
            obtain⟨j,hj,rfl⟩:=List.getElem_of_mem hf;have:=hfi j fs.toList[j] (by rw[←yQ4,yQn hj]);have hjx:j<xs.length:=by rw[hxl];simpa using hj
            rw[yQn hjx]at this;refine⟨_,this,fun n hn=>hw n ?_⟩;simp only[DataW.weights,hu];exact DataW.weights_mem_each (j:=j) (by rw[gQn,yQn hj];rfl) (by rw[gQn,yQn hjx];rfl) n hn) (by omega)
          rw[List.drop_zero,Nat.sub_zero,←hl,gQi]at a5;refine⟨avs,a5, .struct hu (by rw[a5.length,hl]) fun j f hf=>?_⟩;have:=a6 f (List.mem_of_getElem? hf);simpa using this
        · cases ht
      · cases hf
def DtA(P:Program)(css:List (List AV))(t:TypeId)(a:AV):Prop:=
 match P.underlying t with
 | some (.struct _)=>∃cs,a= .agg cs∧Dt P css t cs
 | _=>Dt P css t [a]
theorem DtA.more {css:List (List AV)}(x:List (List AV)){t:TypeId}{a:AV}(h:DtA P css t a):DtA P (css++x) t a:=by
 unfold DtA at *;split at h
 ·obtain⟨cs,h1,h2⟩:=h;exact⟨cs,h1,h2.more x⟩
 ·exact h.more x
theorem eJ7 {base b0:Nat}{r:Reach}{css:List (List AV)}{m:Emb}{dd:Nat}(hm:ArgR W css m)(hroot:(∃q,m 0=some q)∨cJs W){t:TypeId}{v:Value}{d:DataW H}{ps:List MemPlace}{sp:Nat→Bool}(hsp:∀b,sp b=true)
    (ht:wJg P dd t=true) (hv:Value.okWide P W r b0 t v) (hd:DataW.Trod enc P W base sp true t v d ps) (hw:∀n∈d.weights P t,n≤reachBytes):
    ∃(y:List (List AV)) (m':Emb) (av:AV),ArgR W (css++y) m'∧m.le m'∧m' 0=m 0∧VR m' av v∧DtA P (css++y) t av:=by
  cases hu:P.underlying t with
  | none=>
    obtain⟨y,m',av,a1,a2,a3,a4,a5⟩:=rJv hm hroot hsp ht (by rw[hu];trivial) hv hd hw;exact⟨y,m',av,a1,a2,a3,a4,by unfold DtA;rw[hu];exact a5⟩
  | some u=>
    cases u
    case struct fs=>
      have hv':=hv;unfold Value.okWide at hv';rw[hu]at hv';obtain⟨cs,rfl,_,hrow⟩:=hv';obtain⟨n,hd⟩:=hd;have hd:DataW.trod enc P W base sp true n t cs.toList=some (d,ps):=hd;rcases hroot with hroot | hno
      · obtain⟨y,m',avs,a1,a2,a3,a4,a5⟩:=hJg hsp n hm hroot ht hd hw
        exact⟨y,m', .agg avs,a1,a2,a3,by simp only[VR];exact⟨cs,rfl,a4⟩,by unfold DtA;rw[hu];exact⟨avs,rfl,a5⟩⟩
      · obtain⟨avs,a4,a5⟩:=sJp (m:=m) (css:=css) n ht hd hw fun a l c hmem=>by
          obtain⟨ts,_,_,hcell⟩:=hrow;obtain⟨i,hi⟩:=List.mem_iff_getElem?.1 hmem;rw[yQ4]at hi;obtain⟨u,_,h3⟩:=hcell i _ hi;obtain⟨c,u,fr,hb⟩:=eJ9 h3;exact hno _ _ _ _ hb
        refine⟨[],m, .agg avs,by simpa using hm,Emb.le_refl _,rfl,by simp only[VR];exact⟨cs,rfl,a4⟩,by unfold DtA;rw[hu];exact⟨avs,rfl,by simpa using a5⟩⟩
    all_goals
      obtain⟨y,m',av,a1,a2,a3,a4,a5⟩:=rJv hm hroot hsp ht (by rw[hu];trivial) hv hd hw;exact⟨y,m',av,a1,a2,a3,a4,by unfold DtA;rw[hu];exact a5⟩
def oJ3(P:Program)(css:List (List AV)):List TypeId→List AV→Prop
 | [],avs=>avs=[]
 | t::ts,avs=>∃a l,avs=a::l∧DtA P css t a∧oJ3 P css ts l
theorem hJh {base b0:Nat}{r:Reach}{dd:Nat}{sp:Nat→Bool}(hsp:∀b,sp b=true):∀{ts:List TypeId} {vs:List Value} {ds:List (DataW H)} {ps:List MemPlace} {css:List (List AV)} {m:Emb},ArgR W css m→((∃q,m 0=some q)∨cJs W)→
    (∀t∈ts,wJg P dd t=true)→(∀(j:Nat) t v,ts[j]? =some t→vs[j]? =some v→Value.okWide P W r b0 t v)→DataW.TrodAll enc P W base sp true ts vs ds ps→(∀n∈DataW.weightsEach P ts ds,n≤reachBytes)→
    ∃(y:List (List AV)) (m':Emb) (avs:List AV),ArgR W (css++y) m'∧m.le m'∧VRs m' avs vs∧oJ3 P (css++y) ts avs
  | [],vs,ds,ps,css,m,hm,hr,hf,hv,h,hw=>by
    obtain⟨rfl,_,_⟩:=trodAll_nil h;exact⟨[],m,[],by simpa using hm,Emb.le_refl _,by simp[VRs],rfl⟩
  | t::ts,vs,ds,ps,css,m,hm,hr,hf,hv,h,hw=>by
    cases vs with
    | nil=>simp[DataW.TrodAll]at h
    | cons v vs=>
      cases ds with
      | nil=>simp[DataW.TrodAll]at h
      | cons d ds=>
        obtain⟨p,q,h1,h2,_⟩:=h;obtain⟨y1,m1,av,a1,a2,a3,a4,a5⟩:=eJ7 hm hr hsp (hf t yQu) (hv 0 t v rfl rfl) h1 (fun n hn=>hw n (by simp only[DataW.weightsEach,yQ1];exact .inl hn));obtain⟨y2,m2,avs,b1,b2,b3,b4⟩:=hJh hsp a1 (by rw[a3];exact hr) (fun t' ht'=>hf t' (yQq _ ht')) (fun j t' v' h3 h4=>hv (j+1) t' v' h3 h4) h2 (fun n hn=>hw n (by simp only[DataW.weightsEach,yQ1];exact .inr hn));refine⟨y1++y2,m2,av::avs,by rw[←yQy];exact b1,Emb.le_trans a2 b2,VRs.cons (a4.mono b2) b3,?_⟩;have:=a5.more y2;rw[yQy]at this b4;exact⟨av,avs,rfl,this,b4⟩
theorem walkS {hk:Hook}{base b0:Nat}{r:Reach}{dd:Nat}{f:FuncId}{fn:Func}{c:Code}{ts:List TypeId}(hh:Host P hk W W.heap.size)(hf:P.funcs[f]? =some fn)(hb:fn.body=some c)(hts:∀t∈ts,wJg P dd t=true)
  (law:∀css avs,oJ3 P css ts avs→hk f avs (argL css)=none∧Cl P hk f avs (argL css) fun v _=>v= .bool true)
  {args:Array Value} {ds:List (DataW H)} {ps:List MemPlace} (hv:∀(j:Nat) t v,ts[j]? =some t→args.toList[j]? =some v→Value.okWide P W r b0 t v) (hd:DataW.TrodAll enc P W base (fun _=>true) true ts args.toList ds ps) (hsz:(DataW.weightsEach P ts ds).all (· ≤reachBytes)=true):
  Calls P f args W fun e W'=>e= .returned (.bool true)∧∃w' m',Rel W W.heap.size m' w' W':=by
 obtain⟨m0,h0,hr0⟩:=nJw (W:=W);obtain⟨y,m,avs,hm,_,hvs,hdt⟩:=hJh (fun _=>rfl) h0 hr0 hts hv hd (fun n hn=>by simpa using yQv.1 hsz n hn);rw[List.nil_append]at hm hdt;obtain⟨hn,hl⟩:=law y avs hdt;refine(lJ3 hh hn hl hf hb (Rel.rows hm) hvs).mono ?_;rintro e W' ⟨v,w',m',cv,rfl,rfl,hv,hrel,_⟩;simp only[VR]at hv;subst hv;exact⟨rfl,w',m',hrel⟩
end
end Go.Sx
/-! What arguments read as. -/
namespace Go.Sx
open Go.RowKit
variable {P:Program}{css:List (List AV)}{t e:TypeId}
theorem Dt.i64 {cs:List AV}(hu:P.underlying t=some (.int .i64))(h:Dt P css t cs):∃n:Int,cs=[.int .i64 n]∧-9223372036854775808≤n∧n<9223372036854775808:=by
  cases h with
  | int h1 h2=>
    rw[hu]at h1;cases h1;simp only[Lit.wf,gQ3,decide_eq_true_eq]at h2;refine⟨_,rfl,?_,?_⟩
    · have:=h2.1;simp[IntKind.min,IntKind.bits,IntKind.signed]at this;omega
    · have:=h2.2;simp[IntKind.max,IntKind.bits,IntKind.signed]at this;omega
  | bool h=>rw[hu]at h;cases h
  | str h=>rw[hu]at h;cases h
  | nils h=>rw[hu]at h;cases h
  | slice h=>rw[hu]at h;cases h
  | struct h=>rw[hu]at h;cases h
end Go.Sx
