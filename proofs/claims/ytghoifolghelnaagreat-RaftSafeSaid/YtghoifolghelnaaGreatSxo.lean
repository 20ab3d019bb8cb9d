/-
 A slice of numbers sorted in its place,from the shelf,as a hook.
 No condition beyond those that each theorem names.
-/
import Derived.Test.YtghoifolghelnaaGreatSxm
set_option linter.unusedVariables false
set_option linter.unusedSimpArgs false
/-! slices.Sort of numbers, in its place, from the shelf, as a hook. -/
namespace Go.Sx
open Go.RowKit Go.Maps Go.Sort Go.Shelf Go.ChangeShapes Go.WideShapes
def bJs:List AV→Option (List Int)
 | []=>some []
 | .int .i64 n::r=>(bJs r).map (n:: ·)
 | _=>none
theorem lJg:∀{cs:List AV} {l:List Int},bJs cs=some l→cs=l.map (AV.int .i64)
  | [],l,h=>by simp[bJs]at h;subst h;rfl
  | .int .i64 n::r,l,h=>by
    simp only[bJs,yQl]at h;obtain⟨l',h1,rfl⟩:=h;rw[lJg h1];rfl
theorem hJo:∀(l:List Int),bJs (l.map (AV.int .i64))=some l
 | []=>rfl
 | n::l=>by simp only[List.map_cons,bJs,hJo l,Option.map_some]
def sortI(l:List Int):List Int:=l.mergeSort fun x y=>decide (x≤y)
theorem vJq(l:List Int):(sortI l).length=l.length:=(List.mergeSort_perm l _).length_eq
def kJn(w:AW)(args:List AV):Option (AV×AW):=
 match args with
 | [.nilslice]=>some (undef,w)
 | [.slice b o n _ _]=>if n=0 then some (undef,w)else(w.read b o n).bind fun cs=>(bJs cs).bind fun l=>if l.length<4611686018427387904 then(w.putCells b o ((sortI l).map (AV.int .i64))).map fun w'=>(undef,w')else none
 | _=>none
def SortP(P:Program)(f:FuncId):Prop:=
 (∀(blk off cap:Nat) (ss:List Int) (W:World),Holds (Value.int .i64) W blk off ss.toArray→blk<W.heap.size→ss.length<4611686018427387904→
  Calls P f #[.slice (some ⟨blk,off,none⟩) ss.length cap] W fun e w'=>e= .returned (.tuple #[])∧∃k os,w'=grow (putRow (Value.int .i64) (Sort.ahead W k) blk off (ss.mergeSort fun x y=>decide (x≤y)).toArray) os)∧
 (∀(p:Option Addr) (cap:Nat) (W:World),Calls P f #[.slice p 0 cap] W fun e w'=>e= .returned (.tuple #[])∧w'=W)
theorem sJk {W:World}{blk off:Nat}{c:Array Value}{e:TypeId}{fr:Nat×Nat}{l:List Int}(h:W.heap[blk]? =some (.cells c e fr))(hl:off+l.length≤c.size):
  Go.Sort.putCells (Value.int .i64) off l.toArray c=jJz c off (l.map (Value.int .i64)):=by
 apply Array.ext_getElem?;intro k;unfold Go.Sort.putCells;simp only[Array.getElem?_mapIdx,jJz,List.getElem?_toArray,List.size_toArray,yQr];by_cases h1:k<off
 ·rw[yQy,gQa (by simp;omega),gQr h1,yQ4]
  cases c[k]? with
  | none=>rfl
  | some x=>simp only[Option.map_some];rw[if_neg (by omega)]
 ·by_cases h2:k<off+l.length
  ·rw[gQa (by simp;omega),gQg (by simp;omega)];have e1:(c.toList.take off).length=off:=by simp;omega
   rw[e1,Array.getElem?_eq_getElem (by omega)];simp only[Option.map_some];rw[if_pos ⟨by omega,h2⟩,gQn,yQn (by omega)];simp only[Option.map_some,yQx];congr 1;rw[getElem!_pos _ _ (by simp;omega)];simp
  ·rw[gQg (by simp;omega),gQj];have e1:(c.toList.take off++l.map (Value.int .i64)).length=off+l.length:=by simp;omega
   rw[e1,show off+l.length+(k - (off+l.length))=k by omega,yQ4]
   cases c[k]? with
   | none=>rfl
   | some x=>simp only[Option.map_some];rw[if_neg (by omega)]
section
variable {P:Program}{W0:World}{N0:Nat}
theorem oJ1 {m:Emb}:∀(l:List Int),VRs m (l.map (AV.int .i64)) (l.map (Value.int .i64))
 | []=>VRs.nil
 | n::l=>VRs.cons (by simp[VR]) (oJ1 l)
theorem nJi {m:Emb}:∀{l:List Int} {vs:List Value},VRs m (l.map (AV.int .i64)) vs→vs=l.map (Value.int .i64)
  | [],vs,h=>by simpa [VRs]using h
  | n::l,vs,h=>by
    simp only[List.map_cons,VRs,VR]at h;obtain⟨v,vs',rfl,rfl,h⟩:=h;rw[nJi h];rfl
theorem mJq {f:FuncId}(hC:SortP P f){args:List AV}{w:AW}{x:AV×AW}(h:kJn w args=some x)(m:Emb)(W:World)(cargs:Array Value)(hr:Rel W0 N0 m w W)(ha:VRs m args cargs.toList):
  Calls P f cargs W fun e W'=>∃cv m',e= .returned cv∧VR m' x.1 cv∧Rel W0 N0 m' x.2 W'∧Ext m m' w x.2:=by
 unfold kJn at h;split at h
 ·cases h;simp only[VRs,VR]at ha;obtain⟨v,vs,h1,rfl,rfl⟩:=ha;have:cargs=#[.slice none 0 0]:=Array.ext' h1;subst this;refine(hC.2 none 0 W).mono ?_;rintro e W' ⟨rfl,rfl⟩;exact⟨_,m,rfl,VR.undef,hr,Ext.refl _ _⟩
 ·rename_i b o n cap ex;simp only[VRs,VR]at ha;obtain⟨v,vs,h1,⟨p,a,cc,hp,rfl,hle,hcap,haddr⟩,rfl⟩:=ha;have:cargs=#[.slice (some a) n cc]:=Array.ext' h1;subst this;split at h
  ·rename_i hn;subst hn;cases h;refine(hC.2 (some a) cc W).mono ?_;rintro e W' ⟨rfl,rfl⟩;exact⟨_,m,rfl,VR.undef,hr,Ext.refl _ _⟩
  ·rename_i hn;simp only[yQi]at h;obtain⟨cs,hrd,l,hl,h⟩:=h;split at h
   ·rename_i hlen;simp only[yQl]at h;obtain⟨w',hput,rfl⟩:=h;have hcs:=lJg hl;unfold AW.read at hrd;split at hrd
    ·rename_i all hall;obtain⟨hbound,hcs2⟩:=zJq hrd;have hcc:cc≠0:=by
      cases ex with
      | none=>simp only[CapR]at hcap;omega
      | some s=>simp only[CapR]at hcap;omega
     have hadr:=haddr hcc;subst hadr;obtain⟨c,e,fr,hW,hroom,hlr,hok,hvr⟩:=hr.row hp hall;have hln:l.length=n:=by
      have:=congrArg List.length hcs2;rw[hcs]at this;simp at this;omega
     obtain⟨c',e',fr',hW',hsz,hfr,hrel⟩:=hr.put hput hp (oJ1 (m:=m) (sortI l)) (fun a ha=>by
      obtain⟨y,_,rfl⟩:=List.mem_map.1 ha;rfl)
     rw[hW]at hW';cases hW';rw[yQr,vJq]at hsz
     -- what stands there
     have hrow:(c.toList.drop (p.off+o)).take n=l.map (Value.int .i64):=by
      have h5:=(hvr.drop o).take n;rw[←hcs2,hcs]at h5;have h6:=nJi h5;rw[List.drop_take,List.take_take,gQs,Nat.min_eq_left (by omega)]at h6;exact h6
     have hh:Holds (Value.int .i64) W p.blk (p.off+o) l.toArray:=by
      intro j hj;simp only[List.size_toArray]at hj;refine⟨?_,?_⟩
      ·rw[gJx hW];have h7:=congrArg (fun x=>x[j]?) hrow;rw[gQr (by omega),gQj,gQn,yQn hj,yQ4]at h7;rw[h7];simp only[Option.map_some,yQx];congr 1;rw[getElem!_pos _ _ (by simpa using hj)];simp
      ·rw[hJr hW];rcases hfr with hf | hf
       ·simp;omega
       ·simp;omega
     have hblk:p.blk<W.heap.size:=(gQe.1 hW).1;rw[←hln];refine(hC.1 p.blk (p.off+o) cc l W hh hblk hlen).mono ?_;rintro e1 W' ⟨rfl,k,os,rfl⟩;refine⟨_,m,rfl,VR.undef,?_,Ext.put hr hput hp⟩;have hheap:∀q,q<W.heap.size→(grow (putRow (Value.int .i64) (Sort.ahead W k) p.blk (p.off+o) (l.mergeSort fun x y=>decide (x≤y)).toArray) os).heap[q]? =(zJh W p.blk (.cells (jJz c (p.off+o) ((sortI l).map (Value.int .i64))) e fr)).heap[q]? :=by
      intro q hq;have hsize:(putRow (Value.int .i64) (Sort.ahead W k) p.blk (p.off+o) (l.mergeSort fun x y=>decide (x≤y)).toArray).heap.size=W.heap.size:=by
       simp[putRow,mapBlock,Sort.ahead]
      simp only[grow];rw[Array.getElem?_append_left (by rw[hsize];exact hq)];simp only[putRow,mapBlock,Sort.ahead,Array.getElem?_modify];by_cases hqp:p.blk=q
      ·subst hqp;rw[if_pos rfl,hW,zJu hW];simp only[Option.map_some,onCells,yQx,Obj.cells.injEq,and_true];exact sJk hW (by rw[List.length_mergeSort];omega)
      ·rw[if_neg hqp,zJb (Ne.symm hqp)]
     have hsz2:(zJh W p.blk (.cells (jJz c (p.off+o) ((sortI l).map (Value.int .i64))) e fr)).heap.size≤(grow (putRow (Value.int .i64) (Sort.ahead W k) p.blk (p.off+o) (l.mergeSort fun x y=>decide (x≤y)).toArray) os).heap.size:=by
      simp[grow,putRow,mapBlock,Sort.ahead]
     exact hrel.more (fun q hq=>hheap q (by simpa using hq)) hsz2 ⟨rfl,rfl⟩
    ·cases hrd
   ·cases h
 ·cases h
theorem sJ4 {f:FuncId}(hC:SortP P f){fn:Func}{c:Code}(hf:P.funcs[f]? =some fn)(hb:fn.body=some c):HRok P ⟨f,kJn⟩:=
 ⟨⟨fn,c,hf,hb⟩,fun _ _ _ _ _ h m W cargs hr ha=>mJq hC h m W cargs hr ha⟩
end
end Go.Sx
