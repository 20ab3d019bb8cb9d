/-
 The sorted keys of a map,from the shelf,as a hook.
 No condition beyond those that each theorem names.
-/
import Derived.Test.YtghoifolghelnaaGreatSxx
import Derived.Shelf.SlIterI.Nil
import Derived.Shelf.SlIter.Nil
set_option linter.unusedVariables false
set_option linter.unusedSimpArgs false
/-! slices.Sorted(maps.Keys(m)): the contract, and the hook. -/
namespace Go.Sx
open Go.Proofs Go.RowKit Go.Maps Go.Sort Go.Shelf Go.MapKept Go.WideElems Go.WideShapes
/-! ### Sorting -/
section sort
variable {α:Type}(le:α→α→Bool)
variable {le}(tot:∀a b,le a b=true∨le b a=true)(tr:∀a b c,le a b=true→le b c=true→le a c=true)
include tot tr
end sort
/-! ### The contract, ints -/
section ints
variable {P:Program}{ρ ρ':Ren}
end ints
/-! ### The contract, strings -/
section strs
variable {P:Program}{ρ ρ':Ren}
end strs
variable {α:Type}
section hooked
variable {P:Program}{W0:World}{N0:Nat}
end hooked
section kinds
variable {P:Program}{ρ ρ':Ren}
end kinds
/-! ### The whole program, with hooks -/
structure HR where
 f:FuncId
 run:AW→List AV→Option (AV×AW)
noncomputable def wJe:List HR→Hook
 | []=>fun _ _ _=>none
 | h::l=>fun f args w=>Bool.rec (motive:=fun _=>Option (Option (AV×AW))) (wJe l f args w) (match h.run w args with | some x=>some (some x) | none=>wJe l f args w) (Nat.beq f h.f)
def HRok(P:Program)(h:HR):Prop:=(∃(fn:Func) (c:Code),P.funcs[h.f]? =some fn∧fn.body=some c)∧
  ∀(W0:World) (N0:Nat) (args:List AV) (w:AW) (x:AV×AW),h.run w args=some x→∀(m:Emb) (W:World) (cargs:Array Value),Rel W0 N0 m w W→VRs m args cargs.toList→
    Calls P h.f cargs W fun e W'=>∃cv m',e= .returned cv∧VR m' x.1 cv∧Rel W0 N0 m' x.2 W'∧Ext m m' w x.2
theorem yJ1 {P:Program}:∀{l:List HR} {f:FuncId} {args:List AV} {w:AW} {x:AV×AW},(∀h∈l,HRok P h)→wJe l f args w=some (some x)→∃h,HRok P h∧h.f=f∧h.run w args=some x
  | [],f,args,w,x,_,h=>by cases h
  | r::l,f,args,w,x,hl,h=>by
    have h:Bool.rec (motive:=fun _=>Option (Option (AV×AW))) (wJe l f args w) (match r.run w args with | some x=>some (some x) | none=>wJe l f args w) (Nat.beq f r.f)=some (some x):=h;rw[pJb]at h
    cases hb:Nat.beq f r.f with
    | false=>rw[hb]at h;exact yJ1 (fun h hh=>hl h (yQq _ hh)) h
    | true=>
      rw[hb]at h;simp only[cond_true]at h;split at h
      · rename_i y hy
        cases h;exact⟨r,hl r yQu,(xJf.1 hb).symm,hy⟩
      · exact yJ1 (fun h hh=>hl h (yQq _ hh)) h
theorem hJq {P:Program}{W0:World}{N0:Nat}{l:List HR}(hl:∀h∈l,HRok P h)(hm:P.follows .mixedOrders=true)(hn:aJg P=true)(hx:kJ6 P=true):Host P (wJe l) W0 N0:=by
 have hp:=iJx (W0:=W0) (N0:=N0) hm hn hx;refine⟨hp.mixed,hp.num,hp.ext,fun f args w v w' h=>?_⟩;obtain⟨r,⟨h1,h2⟩,rfl,h3⟩:=yJ1 hl h;exact⟨h1,h2 W0 N0 args w (v,w') h3⟩
end Go.Sx
