/-
 Operations that change no memory: the model does what the abstract machine says (the first part).
 No condition beyond those that each theorem names.
-/
import Derived.Test.YtghoifolghelnaaGreatSxe
import Derived.Laws.Strings
set_option linter.unusedVariables false
set_option linter.unusedSimpArgs false
namespace Go.Sx
section
variable {P:Program}{W0:World}{N0:Nat}{m:Emb}{w:AW}{W:World}
theorem uJe {s:ByteArray}{l:List UInt8}(h:s.data.toList=l):s.size=l.length:=by subst h;rfl
theorem eJq {op:BinOp}{a b:List UInt8}{ca cb:ByteArray}{v:AV}(ha:ca.data.toList=a)(hb:cb.data.toList=b)(h:kQn op a b=some v)(t:TypeId):
    ∃cv,(binOp op t (.string ca) (.string cb)).run P W= .ok cv W∧VR m v cv:=by
  have e1:ca.toList=a:=by rw[ByteArray.toList_eq,ha]
  have e2:cb.toList=b:=by rw[ByteArray.toList_eq,hb]
  cases op<;>simp only[kQn]at h
  case add=>
    split at h
    · rename_i hl
      cases h;have s1:=uJe ha;have s2:=uJe hb;have hlen:¬ ((ca.size+cb.size:Nat):Int)>IntKind.i64.max:=by
        have:IntKind.i64.max=9223372036854775807:=rfl;rw[this];omega
      refine⟨.string (ca++cb),?_,?_⟩
      · simp only[binOp,Op.stringOp,if_neg hlen];rfl
      · simp only[VR];exact⟨_,rfl,by rw[←ha,←hb];simp⟩
    · simp at h
  all_goals first
    | (cases h;done)
    | (cases h
       refine⟨_,by simp only[binOp,Op.stringOp,e1,e2];rfl,?_⟩;simp[VR,vQ9])
theorem bJ5(s s':ByteArray):(s==s')=(s.data.toList==s'.data.toList):=by
  cases s with
  | mk d=>
    cases s' with
    | mk d'=>
      have:(ByteArray.mk d==ByteArray.mk d')=(d==d'):=rfl;rw[this,Bool.eq_iff_iff];simp
theorem zJr {t:TypeId}{p:TypeDesc→Bool}{r x:Bool}:isT P t p r=some x↔∃u,P.underlying t=some u∧p u=true∧x=r:=by
 unfold isT;rw[yQi];constructor
 ·rintro⟨u,hu,h⟩;obtain⟨h1,h2⟩:=qJe.1 h;exact⟨u,hu,h1,by cases h2;rfl⟩
 ·rintro⟨u,hu,h,rfl⟩;exact⟨u,hu,qJe.2 ⟨h,rfl⟩⟩
theorem mJ2 {d:Nat}{t:TypeId}{x y:AV}{cx cy:Value}{r:Bool}(h:eq1 P t x y=some r)(hx:VR m x cx)(hy:VR m y cy):
  (Op.equalIn (d+1) t cx cy).run P W= .ok r W:=by
 unfold Op.equalIn;cases x<;>cases y<;>simp only[eq1]at h<;>(try (simp at h;done))<;>simp only[VR]at hx hy
 case bool=>
  obtain⟨u,hu,hp,rfl⟩:=zJr.1 h;subst hx hy;rw[qJb (qJa hu)];cases u<;>simp[vQh]at hp;rfl
 case int=>
  split at h
  ·rename_i hk;obtain⟨u,hu,hp,rfl⟩:=zJr.1 h;subst hx hy hk;rw[qJb (qJa hu)];cases u<;>simp[kJw]at hp;simp[qJo];rfl
  ·simp at h
 case str=>
  obtain⟨u,hu,hp,rfl⟩:=zJr.1 h;obtain⟨s,rfl,hs⟩:=hx;obtain⟨s',rfl,hs'⟩:=hy;rw[qJb (qJa hu)];cases u<;>simp[zJi]at hp;subst hs hs';simp only[qJo,bJ5]
 case nilptr.nilptr=>
  obtain⟨u,hu,hp,rfl⟩:=zJr.1 h;subst hx hy;rw[qJb (qJa hu)];cases u<;>simp[hJ9]at hp;rfl
 case nilptr.ptr=>
  obtain⟨u,hu,hp,rfl⟩:=zJr.1 h;obtain⟨q,_,rfl⟩:=hy;subst hx;rw[qJb (qJa hu)];cases u<;>simp[hJ9]at hp;rfl
 case ptr.nilptr=>
  obtain⟨u,hu,hp,rfl⟩:=zJr.1 h;obtain⟨q,_,rfl⟩:=hx;subst hy;rw[qJb (qJa hu)];cases u<;>simp[hJ9]at hp;rfl
 case ptr.ptr b o b' o'=>
  unfold eqPtr at h;simp only[yQi]at h;obtain⟨e,⟨u,hu,he⟩,n,hn,h⟩:=h;rw[oJ8]at he;subst he;obtain⟨hg,hr⟩:=qJe.1 h;simp only[gQ3,Bool.not_eq_true']at hg;have hb:=yQp hg.2;have hn0:n≠0:=fun e=>by subst e;simp at hg
  subst hb;obtain⟨q,hq,rfl⟩:=hx;obtain⟨q',hq',rfl⟩:=hy;rw[hq]at hq';cases hq';rw[qJb (qJa hu)];simp only[];rw[qJb (qJ9 hn)];simp only[ne_eq,hn0,not_false_eq_true,if_true,sameAddr,beq_self_eq_true];cases hr;simp only[qJo];congr 1;rw[Bool.eq_iff_iff];simp
 case nilslice.nilslice=>
  obtain⟨u,hu,hp,rfl⟩:=zJr.1 h;subst hx hy;rw[qJb (qJa hu)];cases u<;>simp[jJe]at hp;rfl
 case nilslice.slice=>
  obtain⟨u,hu,hp,rfl⟩:=zJr.1 h;obtain⟨q,a,cc,_,rfl,_⟩:=hy;subst hx;rw[qJb (qJa hu)];cases u<;>simp[jJe]at hp;rfl
 case slice.nilslice=>
  obtain⟨u,hu,hp,rfl⟩:=zJr.1 h;obtain⟨q,a,cc,_,rfl,_⟩:=hx;subst hy;rw[qJb (qJa hu)];cases u<;>simp[jJe]at hp;rfl
 case nilmap.nilmap=>
  obtain⟨u,hu,hp,rfl⟩:=zJr.1 h;subst hx hy;rw[qJb (qJa hu)];cases u<;>simp[xJj]at hp;rfl
 case nilmap.map=>
  obtain⟨u,hu,hp,rfl⟩:=zJr.1 h;obtain⟨q,_,rfl⟩:=hy;subst hx;rw[qJb (qJa hu)];cases u<;>simp[xJj]at hp;rfl
 case map.nilmap=>
  obtain⟨u,hu,hp,rfl⟩:=zJr.1 h;obtain⟨q,_,rfl⟩:=hx;subst hy;rw[qJb (qJa hu)];cases u<;>simp[xJj]at hp;rfl
 case nilfunc.nilfunc=>
  obtain⟨u,hu,hp,rfl⟩:=zJr.1 h;subst hx hy;rw[qJb (qJa hu)];cases u<;>simp[mJz]at hp;rfl
 case nilfunc.func=>
  obtain⟨u,hu,hp,rfl⟩:=zJr.1 h;obtain⟨q,a,rfl,_⟩:=hy;subst hx;rw[qJb (qJa hu)];cases u<;>simp[mJz]at hp;rfl
 case func.nilfunc=>
  obtain⟨u,hu,hp,rfl⟩:=zJr.1 h;obtain⟨q,a,rfl,_⟩:=hx;subst hy;rw[qJb (qJa hu)];cases u<;>simp[mJz]at hp;rfl
 case niliface.iface=>
  obtain⟨u,hu,hp,rfl⟩:=zJr.1 h;obtain⟨q,rfl,_⟩:=hy;subst hx;rw[qJb (qJa hu)];cases u<;>simp[jJw]at hp;rfl
 case iface.niliface=>
  obtain⟨u,hu,hp,rfl⟩:=zJr.1 h;obtain⟨q,rfl,_⟩:=hx;subst hy;rw[qJb (qJa hu)];cases u<;>simp[jJw]at hp;rfl
theorem qQh {t:TypeId}{x y:AV}{r:Bool}(h:eq1 P t x y=some r):(∀cs,x≠ .agg cs)∧(x= .niliface→y≠ .niliface):=by
 cases x<;>cases y<;>simp[eq1]at h<;>simp
theorem uJ4 {op:BinOp}{t:TypeId}{x y:Operand}{a b:Value}(h1:∀cs,a≠ .agg cs)(h2:a= .nilIface→b≠ .nilIface):
    (eqGuard op t x y a b).run P W= .ok () W:=by
  unfold eqGuard
  cases a with
  | agg cs=>exact absurd rfl (h1 cs)
  | nilIface=>cases b with
    | nilIface=>exact absurd rfl (h2 rfl)
    | _=>cases op<;>rfl
  | _=>cases op<;>rfl
theorem xQ8 {a:AV}{v:Value}(h:VR m a v)(hn:∀cs,a≠ .agg cs):∀cs,v≠ .agg cs:=by
 rintro cs rfl;cases a<;>simp[VR]at h;exact hn _ rfl
theorem zQm {a:AV}{v:Value}(h:VR m a v):a= .niliface↔v= .nilIface:=by
 cases a<;>simp only[VR]at h
 case str=>obtain⟨s,rfl,_⟩:=h;simp
 case ptr=>obtain⟨p,_,rfl⟩:=h;simp
 case slice=>obtain⟨p,a,cc,_,rfl,_⟩:=h;simp
 case map=>obtain⟨p,_,rfl⟩:=h;simp
 case func=>obtain⟨x,y,rfl,_⟩:=h;simp
 case yield=>obtain⟨p,_,rfl⟩:=h;simp
 case iface=>obtain⟨x,rfl,_⟩:=h;simp
 case agg=>obtain⟨x,rfl,_⟩:=h;simp
 case tup=>obtain⟨x,rfl,_⟩:=h;simp
 all_goals (subst h;simp)
theorem mJ0 {d:Nat}{eq:TypeId→AV→AV→Option Bool}(heq:∀t x y cx cy r,eq t x y=some r→VR m x cx→VR m y cy→(Op.equalIn d t cx cy).run P W= .ok r W){xs ys:List AV}{cxs cys:Array Value}(hx:VRs m xs cxs.toList)(hy:VRs m ys cys.toList):
    ∀{fs:List Field} {r:Bool},eqFs P eq fs xs ys=some r→
    (do
      for f in fs do
        if f.name ≠ "_" then
          if !(←Op.equalIn d f.type (←part f.type cxs f.offset) (←part f.type cys f.offset))then return false
      pure true:Sem Bool).run P W= .ok r W
  | [],r,h=>by
    simp only[eqFs,yQx]at h;subst h;rfl
  | f::fs,r,h=>by
    simp only[eqFs]at h;obtain⟨hn,h⟩:=qJe.1 h;simp only[yQi]at h;obtain⟨a,ha,b,hb,r1,hr1,h⟩:=h;obtain⟨ca,hca,hva⟩:=wJs (P:=P) (W:=W) hx ha;obtain⟨cb,hcb,hvb⟩:=wJs (P:=P) (W:=W) hy hb;have h1:=heq _ _ _ _ _ _ hr1 hva hvb
    have hn' : f.name ≠ "_" := by simpa using hn
    have ih:=fun(h:eqFs P eq fs xs ys=some r)=>mJ0 heq hx hy h;simp only[List.forIn_cons,ne_eq,hn',not_false_eq_true,if_true,pJ5,hca,hcb,h1]at ih ⊢
    cases r1 with
    | true=>
      simp only[cond_true]at h;have:=ih h;simpa using this
    | false=>
      simp only[cond_false,yQx]at h;subst h;rfl
theorem gJl {d:Nat}{t:TypeId}{fs:Array Field}{xs ys:Array Value}(ht:P.underlying t=some (.struct fs))(hs:P.stoodInHeld t=false):
  (Op.equalIn (d+1) t (.agg xs) (.agg ys)).run P W=(do
   for f in fs.toList do
    if f.name ≠ "_" then
     if !(←Op.equalIn d f.type (←part f.type xs f.offset) (←part f.type ys f.offset))then return false
   pure true:Sem Bool).run P W:=by
 have hp:(program).run P W= .ok P W:=rfl;rw[Array.forIn_toList]
 conv=>lhs;unfold Op.equalIn
 rw[qJb (qJa ht)];simp only[];rw[qJb hp];simp only[hs,yQ2,if_false,qJn]
theorem mJ1 {d:Nat}{eq:TypeId→AV→AV→Option Bool}(heq:∀t x y cx cy r,eq t x y=some r→VR m x cx→VR m y cy→(Op.equalIn d t cx cy).run P W= .ok r W){e:TypeId}{sz:Nat}{xs ys:List AV}{cxs cys:Array Value}(hx:VRs m xs cxs.toList)(hy:VRs m ys cys.toList):
    ∀{is:List Nat} {r:Bool},eqAs P eq e sz xs ys is=some r→
    (do
      for i in is do
        if !(←Op.equalIn d e (←part e cxs (i * sz)) (←part e cys (i * sz)))then return false
      pure true:Sem Bool).run P W= .ok r W
  | [],r,h=>by
    simp only[eqAs,yQx]at h;subst h;rfl
  | i::is,r,h=>by
    simp only[eqAs,yQi]at h;obtain⟨a,ha,b,hb,r1,hr1,h⟩:=h;obtain⟨ca,hca,hva⟩:=wJs (P:=P) (W:=W) hx ha;obtain⟨cb,hcb,hvb⟩:=wJs (P:=P) (W:=W) hy hb;have h1:=heq _ _ _ _ _ _ hr1 hva hvb;have ih:=fun(h:eqAs P eq e sz xs ys is=some r)=>mJ1 heq hx hy h;simp only[List.forIn_cons,pJ5,hca,hcb,h1]at ih ⊢
    cases r1 with
    | true=>
      simp only[cond_true]at h;have:=ih h;simpa using this
    | false=>
      simp only[cond_false,yQx]at h;subst h;rfl
theorem uJh {d:Nat}{t e:TypeId}{n sz:Nat}{xs ys:Array Value}(ht:P.underlying t=some (.array n e))(hs:szOf P e=some sz):
  (Op.equalIn (d+1) t (.agg xs) (.agg ys)).run P W=(do
   for i in List.range' 0 n do
    if !(←Op.equalIn d e (←part e xs (i * sz)) (←part e ys (i * sz)))then return false
   pure true:Sem Bool).run P W:=by
 conv=>lhs;unfold Op.equalIn
 rw[qJb (qJa ht)];simp only[];rw[qJb (qJ9 hs)];simp only[Std.Legacy.Range.forIn_eq_forIn_range',Std.Legacy.Range.size,Nat.sub_zero,Nat.add_one_sub_one,Nat.div_one]
theorem dJx:∀{n d:Nat} {t:TypeId} {x y:AV} {cx cy:Value} {r:Bool},n≤d→eqS P n t x y=some r→VR m x cx→VR m y cy→(Op.equalIn d t cx cy).run P W= .ok r W
  | 0,d,t,x,y,cx,cy,r,hd,h,_,_=>by cases h
  | n+1,d,t,x,y,cx,cy,r,hd,h,hx,hy=>by
    obtain⟨d,rfl⟩:∃k,d=k+1:=⟨d - 1,by omega⟩;cases x
    case agg xs=>
      cases y
      case agg ys=>
        simp only[eqS,yQi]at h;obtain⟨u,hu,h⟩:=h;simp only[VR]at hx hy;obtain⟨cxs,rfl,hx⟩:=hx;obtain⟨cys,rfl,hy⟩:=hy;split at h
        · obtain⟨hg,h⟩:=qJe.1 h
          rw[gJl hu (by simpa using hg)];exact mJ0 (fun t x y cx cy r h1 h2 h3=>dJx (by omega) h1 h2 h3) hx hy h
        · rw[yQi]at h
          obtain⟨sz,hsz,h⟩:=h;rw[uJh hu hsz];exact mJ1 (fun t x y cx cy r h1 h2 h3=>dJx (by omega) h1 h2 h3) hx hy h
        · cases h
      all_goals (simp only[eqS]at h;cases h)
    all_goals (simp only[eqS]at h;exact mJ2 h hx hy)
theorem eJs {t:TypeId}{x y:AV}{cx cy:Value}{r:Bool}(h:eq1 P t x y=some r)(hx:VR m x cx)(hy:VR m y cy):
  (Op.equal t cx cy).run P W= .ok r W:=by
 unfold Op.equal;rw[show Op.maxDepth=9999+1 from rfl];exact mJ2 h hx hy
theorem wQj {t:TypeId}{xs:List AV}{y:AV}{r:Bool}(h:eq2 P t (.agg xs) y=some r):P.eqGuardType P.depth t=false∧(∃ys,y= .agg ys)∧eqS P 8 t (.agg xs) y=some r:=by
 unfold eq2 at h;simp only[]at h;obtain⟨hg,h⟩:=qJe.1 h;refine⟨by simpa using hg,?_,h⟩;cases y<;>first | exact⟨_,rfl⟩ | (simp only[eqS]at h;cases h)
theorem cJ8 {op:BinOp}{t:TypeId}{x y:AV}{cx cy:Value}{r:Bool}(a b:Operand)(h:eq2 P t x y=some r)(hx:VR m x cx)(hy:VR m y cy):
    (eqGuard op t a b cx cy).run P W= .ok () W∧(Op.equal t cx cy).run P W= .ok r W:=by
  have one:eq1 P t x y=some r→(eqGuard op t a b cx cy).run P W= .ok () W∧(Op.equal t cx cy).run P W= .ok r W:=fun h=>by
    obtain⟨e1,e2⟩:=qQh h;exact⟨uJ4 (xQ8 hx e1) (fun e e'=>e2 ((zQm hx).2 e) ((zQm hy).2 e')),eJs h hx hy⟩
  cases x
  case agg xs=>
    obtain⟨hg,⟨ys,rfl⟩,h⟩:=wQj h;refine⟨?_,?_⟩
    · simp only[VR]at hx hy
      obtain⟨cxs,rfl,_⟩:=hx;obtain⟨cys,rfl,_⟩:=hy;unfold eqGuard;have hp:(program).run P W= .ok P W:=rfl;cases op<;>first
        | rfl
        | (simp only[Bool.not_true,yQ2,if_false,qJn]
           rw[qJb hp,qJb hp];simp only[hg,Bool.not_false,if_true];rfl)
    · unfold Op.equal
      exact dJx (by decide) h hx hy
  all_goals exact one h
end
end Go.Sx
namespace Go.Sx
section
variable {P:Program}{W0:World}{N0:Nat}{m:Emb}{w:AW}{W:World}
theorem lJ7 {t:TypeId}{a b:Value}(h1:∀k n,a≠ .int k n)(h2:∀s,a≠ .string s)(h3:∀k n,a≠ .float k n)(h4:∀k x y,a≠ .complex k x y):
  binOp .eql t a b=(do pure (.bool (←Op.equal t a b))):=by
 cases a<;>first | rfl | exact absurd rfl (h1 _ _) | exact absurd rfl (h2 _) | exact absurd rfl (h3 _ _) | exact absurd rfl (h4 _ _ _)
theorem lJ6 {t:TypeId}{a b:Value}(h1:∀k n,a≠ .int k n)(h2:∀s,a≠ .string s)(h3:∀k n,a≠ .float k n)(h4:∀k x y,a≠ .complex k x y):
  binOp .neq t a b=(do pure (.bool (!(←Op.equal t a b)))):=by
 cases a<;>first | rfl | exact absurd rfl (h1 _ _) | exact absurd rfl (h2 _) | exact absurd rfl (h3 _ _) | exact absurd rfl (h4 _ _ _)
theorem xQ7 {a:AV}{v:Value}(h:VR m a v)(hi:∀k n,a≠ .int k n)(hs:∀l,a≠ .str l):
  (∀k n,v≠ .int k n)∧(∀s,v≠ .string s)∧(∀k n,v≠ .float k n)∧(∀k x y,v≠ .complex k x y):=by
 cases a<;>simp only[VR]at h
 case int=>exact absurd rfl (hi _ _)
 case str=>exact absurd rfl (hs _)
 case ptr=>obtain⟨p,_,rfl⟩:=h;simp
 case slice=>obtain⟨p,a,cc,_,rfl,_⟩:=h;simp
 case map=>obtain⟨p,_,rfl⟩:=h;simp
 case func=>obtain⟨x,y,rfl,_⟩:=h;simp
 case yield=>obtain⟨p,_,rfl⟩:=h;simp
 case iface=>obtain⟨x,rfl,_⟩:=h;simp
 case agg=>obtain⟨x,rfl,_⟩:=h;simp
 case tup=>obtain⟨x,rfl,_⟩:=h;simp
 all_goals (subst h;simp)
theorem eJu {op:BinOp}{t:TypeId}{x y:Operand}{a b:AV}{ca cb:Value}{v:AV}(h:jJ6 P op t (Sx.isConst x || Sx.isConst y) a b=some v)
    (ha:VR m a ca) (hb:VR m b cb):∃cv,(do eqGuard op t x y ca cb;binOp op t ca cb:Sem Value).run P W= .ok cv W∧VR m v cv:=by
  unfold jJ6 at h;by_cases hn:(bJr a&&bJr b)=true
  · rw[hn]at h
    simp only[cond_true]at h;simp only[gQ3]at hn;have ea:a= .niliface:=by cases a<;>simp[bJr]at hn;rfl
    have eb:b= .niliface:=by cases b<;>simp[bJr]at hn;rfl
    subst ea eb;simp only[VR]at ha hb;subst ha hb;unfold nilEq at h;rw[yQi]at h;obtain⟨u,hu,h⟩:=h;obtain⟨hg,h2⟩:=qJe.1 h;clear h;simp only[gQ3]at hg;have hug:∃ms,u= .interface ms:=by cases u<;>simp[jJw]at hg;exact⟨_,rfl⟩
    obtain⟨ms,rfl⟩:=hug;have hguard:(eqGuard op t x y .nilIface .nilIface).run P W= .ok () W:=by
      unfold eqGuard;have hc:=hg.2;cases x<;>cases y<;>simp[Sx.isConst]at hc<;>cases op<;>rfl
    have heq:(Op.equal t .nilIface .nilIface).run P W= .ok true W:=by
      unfold Op.equal;rw[show Op.maxDepth=9999+1 from rfl];unfold Op.equalIn;rw[qJb (qJa hu)];rfl
    rw[qJb hguard];cases op<;>simp only[]at h2<;>(try (simp at h2;done))
    · cases h2
      refine⟨.bool true,?_,by simp[VR]⟩;rw[lJ7 (by simp) (by simp) (by simp) (by simp),qJb heq,qJo]
    · cases h2
      refine⟨.bool false,?_,by simp[VR]⟩;rw[lJ6 (by simp) (by simp) (by simp) (by simp),qJb heq,qJo];rfl
  · simp only[gQh]at hn
    rw[hn]at h;simp only[cond_false]at h;unfold binA at h;split at h
    · rename_i k n
      simp only[VR]at ha;subst ha;split at h
      · rename_i k' n'
        simp only[VR]at hb;subst hb;rw[qJb (uJ4 (by simp) (by simp))]
        cases hs:xJs op with
        | true=>rw[hs]at h;simp only[cond_true]at h;exact nJz hs h t
        | false=>
          rw[hs]at h;simp only[cond_false]at h;split at h
          · rename_i hk;subst hk;exact nJ5 hs h t
          · simp at h
      · simp at h
    · rename_i l
      simp only[VR]at ha;obtain⟨s,rfl,hs⟩:=ha;split at h
      · rename_i l'
        simp only[VR]at hb;obtain⟨s',rfl,hs'⟩:=hb;rw[qJb (uJ4 (by simp) (by simp))];exact eJq hs hs' h t
      · simp at h
    · rename_i hni hns
      unfold eqOp at h;obtain⟨n1,n2,n3,n4⟩:=xQ7 ha hni hns;split at h
      · simp only[yQl]at h
        obtain⟨r,hr,rfl⟩:=h;obtain⟨e1,e2⟩:=cJ8 (op:=_) x y hr ha hb;rw[qJb e1];refine⟨.bool r,?_,by simp[VR]⟩;rw[lJ7 n1 n2 n3 n4,qJb e2,qJo]
      · simp only[yQl]at h
        obtain⟨r,hr,rfl⟩:=h;obtain⟨e1,e2⟩:=cJ8 (op:=_) x y hr ha hb;rw[qJb e1];refine⟨.bool (!r),?_,by simp[VR]⟩;rw[lJ6 n1 n2 n3 n4,qJb e2,qJo]
      · simp at h
theorem zQx {op:UnOp}{a v:AV}{ca:Value}(h:unA op a=some v)(ha:VR m a ca):∃cv,(Op.unary op ca).run P W= .ok cv W∧VR m v cv:=by
 unfold unA at h;split at h
 ·simp only[VR]at ha;subst ha;split at h
  ·cases h;exact⟨_,by simp[Op.unary,Op.intArith];rfl,by simp[VR]⟩
  ·cases h;exact⟨_,by simp[Op.unary,Op.intBits];rfl,by simp[VR,bits]⟩
  ·simp at h
 ·simp only[VR]at ha;subst ha;split at h
  ·cases h;exact⟨_,rfl,by simp[VR]⟩
  ·simp at h
 ·simp at h
theorem fJg {s:TypeId}{f:Nat}{a v:AV}{ca:Value}(h:xJ4 P s f a=some v)(ha:VR m a ca):
  ∃cv,(Instr.fieldAt s ca f).run P W= .ok cv W∧VR m v cv:=by
 unfold xJ4 at h;simp only[yQi]at h;obtain⟨p,hp,fd,hf,n,hn,h⟩:=h;obtain⟨hg,h⟩:=qJe.1 h;cases h;rw[gJ1]at hp;subst hp;simp only[VR]at ha;obtain⟨q,hq,rfl⟩:=ha;unfold uJ6 at hf;simp only[yQi]at hf;obtain⟨fs,⟨u,hu,hs⟩,hf⟩:=hf;rw[gJe]at hs;subst hs;have hn0:n≠0:=fun e=>by subst e;simp at hg
 refine⟨.pointer (some ⟨q.blk,q.off+(p.2+fd.offset),none⟩),?_,?_⟩
 ·rw[Instr.fieldAt,qJb (qJa hu)];simp only[hf];rw[qJb (a:=⟨q.blk,q.off+p.2,none⟩) (W':=W) rfl];rw[fieldPlace,pJ5,qJb (qJ9 hn)];simp only[hn0,if_false,qJo,jJ3,Nat.add_assoc]
 ·simp only[VR];exact⟨q,hq,rfl⟩
theorem nJ2 {t:TypeId}{f:Nat}{a v:AV}{ca:Value}(h:lJu P t f a=some v)(ha:VR m a ca):
  ∃cv,(Instr.field t ca f).run P W= .ok cv W∧VR m v cv:=by
 unfold lJu at h;simp only[yQi]at h;obtain⟨cs,hc,fd,hf,h⟩:=h;rw[xQ1]at hc;subst hc;simp only[VR]at ha;obtain⟨vs,rfl,hv⟩:=ha;unfold uJ6 at hf;simp only[yQi]at hf;obtain⟨fs,⟨u,hu,hs⟩,hf⟩:=hf;rw[gJe]at hs;subst hs;obtain⟨cv,hr,hvr⟩:=wJs (P:=P) (W:=W) hv h;refine⟨cv,?_,hvr⟩;rw[Instr.field,qJb (qJa hu)];simp only[hf];rw[qJb (a:=vs) (W':=W) rfl];exact hr
theorem fJf {t:TypeId}{a i v:AV}{ca ci:Value}(h:kJd P t a i=some v)(ha:VR m a ca)(hi:VR m i ci):
  ∃cv,(Instr.indexAt t ca ci).run P W= .ok cv W∧VR m v cv:=by
 unfold kJd at h;rw[yQi]at h;obtain⟨k,hk,h⟩:=h;obtain⟨kd,rfl,hrun⟩:=kJ2 (P:=P) (W:=W) hk hi;cases a<;>simp only[]at h<;>(try (simp at h;done))<;>simp only[VR]at ha
 case ptr b o=>
  simp only[yQi]at h;obtain⟨ar,har,s,hs,h⟩:=h;obtain⟨hg,h⟩:=qJe.1 h;cases h;rw[kJe]at har;obtain⟨q,hq,rfl⟩:=ha;have hlt:k<ar.1:=by have:=hg;simp[Nat.blt]at this;omega
  refine⟨.pointer (some ⟨q.blk,q.off+(o+k * s),none⟩),?_,by simp only[VR];exact⟨q,hq,rfl⟩⟩;rw[Instr.indexAt,qJb hrun,qJb (qJa har)];simp only[];simp only[Instr.sureAddr,qJn];rw[qJb (qJa har)];simp only[];have c1:(0:Int)≤(k:Int)∧(k:Int)<(ar.1:Int):=⟨by omega,by omega⟩;rw[if_pos c1,qJb (qJ9 hs),qJo,jJ3];simp[Nat.add_assoc]
 case slice b o len cap ex=>
  simp only[yQi]at h;obtain⟨e,he,s,hs,h⟩:=h;obtain⟨hg,h⟩:=qJe.1 h;cases h;rw[zJf]at he;obtain⟨q,ad,cc,hq,rfl,hlc,hcr,had⟩:=ha;have hlt:k<len:=by have:=hg;simp[Nat.blt]at this;omega
  have hcc:cc≠0:=by
   cases ex with
   | none=>simp only[CapR]at hcr;omega
   | some s=>simp only[CapR]at hcr;omega
  have had':=had hcc;subst had';refine⟨.pointer (some ⟨q.blk,q.off+(o+k * s),none⟩),?_,by simp only[VR];exact⟨q,hq,rfl⟩⟩;rw[Instr.indexAt,qJb hrun,qJb (qJa he)];simp only[];simp only[qJn];rw[qJb (qJa he)];simp only[];have c1:(0:Int)≤(k:Int)∧(k:Int)<(len:Int):=⟨by omega,by omega⟩;rw[if_pos c1,qJb (qJ9 hs),qJo,jJ3];simp[Nat.add_assoc]
theorem nJ0 {t:TypeId}{a i v:AV}{ca ci:Value}(h:bJt P t a i=some v)(ha:VR m a ca)(hi:VR m i ci):
  ∃cv,(Instr.index t ca ci).run P W= .ok cv W∧VR m v cv:=by
 unfold bJt at h;rw[yQi]at h;obtain⟨k,hk,h⟩:=h;obtain⟨kd,rfl,hrun⟩:=kJ2 (P:=P) (W:=W) hk hi;cases a<;>simp only[]at h<;>(try (simp at h;done))<;>simp only[VR]at ha
 case agg cs=>
  simp only[yQi]at h;obtain⟨ar,har,s,hs,h⟩:=h;obtain⟨hg,h⟩:=qJe.1 h;rw[kJe]at har;obtain⟨vs,rfl,hv⟩:=ha;have hlt:k<ar.1:=by have:=hg;simp[Nat.blt]at this;omega
  obtain⟨cv,hr,hvr⟩:=wJs (P:=P) (W:=W) hv h;refine⟨cv,?_,hvr⟩;rw[Instr.index,qJb hrun,qJb (qJa har)];simp only[];have c1:(0:Int)≤(k:Int)∧(k:Int)<(ar.1:Int):=⟨by omega,by omega⟩;rw[if_pos c1,qJb (qJ9 hs)];simpa using hr
 case str l=>
  simp only[yQi]at h;obtain⟨u,hu,h1⟩:=h;obtain⟨hg,h2⟩:=qJe.1 h1;rw[zJl]at hg;subst hg;simp only[yQl]at h2;obtain⟨c,hc,rfl⟩:=h2;obtain⟨s,rfl,hs⟩:=ha;refine⟨.int .u8 c.toNat,?_,by simp[VR]⟩;rw[Instr.index,qJb hrun,qJb (qJa hu)];have hk':s[k]? =some c:=by
   subst hs;have hlt:k<s.data.toList.length:=(yQt.1 hc).1;have hlt':k<s.size:=hlt;rw[getElem?_pos s k hlt'];congr 1;have:=(yQt.1 hc).2;rw[←this];rfl
  simp[hk',qJo]
end
end Go.Sx
