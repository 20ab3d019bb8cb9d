/-
 Calls whose order plays no part,as hooks.
 No condition beyond those that each theorem names.
-/
import Derived.Test.YtghoifolghelnaaGreatSxl
set_option linter.unusedVariables false
set_option linter.unusedSimpArgs false
/-! A call whose order plays no part, as a hook: every order is tried, and all come to one memory but for what nobody looks at. -/
namespace Go.Sx
open Go.ChangeShapes Go.WideShapes
-- the test
end Go.Sx
/-! A call that is handed no memory and hands none back, xs a hook: it is run in a memory of its own. -/
namespace Go.Sx
open Go.ChangeShapes Go.WideShapes
def tJ5:AV→Bool
 | .int ..=>true
 | .bool _=>true
 | .str _=>true
 | _=>false
theorem hJc {a:AV}(h:tJ5 a=true){m m':Emb}{v:Value}(hv:VR m a v):VR m' a v:=by
 cases a<;>first | (cases h;done) | (simp only[VR]at *;exact hv)
theorem hJd {m m':Emb}:∀{xs:List AV} {vs:List Value},xs.all tJ5=true→VRs m xs vs→VRs m' xs vs
  | [],vs,_,h=>by simp only[VRs]at *;exact h
  | a::xs,vs,ha,h=>by
    simp only[VRs]at h;obtain⟨v,vs',rfl,h1,h2⟩:=h;simp only[List.all_cons,gQ3]at ha;exact VRs.cons (hJc ha.1 h1) (hJd ha.2 h2)
noncomputable def says(v:AV)(r:FRes):Bool:=tJh r fun v' _=>AV.beq v' v
noncomputable def lJj(xs:List AV)(v:AV)(w:AW)(args:List AV):Option (AV×AW):=cond (AV.beqL args xs) (some (v,w)) none
theorem lJi {P:Program}{hk:Hook}(hh:∀W0 N0,Host P hk W0 N0){f:FuncId}{xs:List AV}{v:AV}(hpa:xs.all tJ5=true)(hpv:tJ5 v=true)(hnk:hk f xs ⟨1, .nil⟩=none){n:Nat}
    (hev:kN P hk n (.call f xs ⟨1, .nil⟩) (says v)=true) {fn:Func} {c:Code} (hf:P.funcs[f]? =some fn) (hb:fn.body=some c):HRok P ⟨f,lJj xs v⟩:=by
  refine⟨⟨fn,c,hf,hb⟩,fun W0 N0 args w x h m W cargs hr ha=>?_⟩;have h:cond (AV.beqL args xs) (some (v,w)) none=some x:=h
  cases hq:AV.beqL args xs with
  | false=>rw[hq]at h;cases h
  | true=>
    rw[hq]at h;cases h;have e:=AV.beqL_eq _ _ hq;subst e;have hwp:=kN_ok n _ _ hev (valK fun v' _=>v'=v) fun r hr=>by
      obtain⟨v',w',rfl,hr⟩:=wJ1 hr;exact AV.beq_eq _ _ hr
    refine(cJm (hh W W.heap.size) hnk hwp hf hb (Rel.start W) (hJd hpa ha)).mono ?_;rintro e W' ⟨v',w',m',cv,rfl,rfl,hv,hrel,_⟩;exact⟨cv,m,rfl,hJc hpv hv,hr.more hrel.old.2 hrel.old.1 hrel.env,Ext.refl _ _⟩
end Go.Sx
