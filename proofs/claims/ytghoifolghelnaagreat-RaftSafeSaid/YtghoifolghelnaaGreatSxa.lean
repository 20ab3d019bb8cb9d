/-
 An abstract machine of the model's programs: values,memory,operations,the meaning of code.
 No condition beyond those that each theorem names.
-/
import GoSem.Step
set_option linter.unusedVariables false
set_option linter.unusedSimpArgs false
/-! The abstract machine: deterministic, over a heap of its own. -/
namespace Go.Sx
theorem yQi:type_of% @Option.bind_eq_some_iff:=@Option.bind_eq_some_iff
theorem yQj:type_of% @List.getD_eq_getElem?_getD:=@List.getD_eq_getElem?_getD
theorem yQk:type_of% @Nat.le_of_ble_eq_true:=@Nat.le_of_ble_eq_true
theorem yQl:type_of% @Option.map_eq_some_iff:=@Option.map_eq_some_iff
theorem yQm:type_of% @Nat.le_refl:=@Nat.le_refl
theorem yQn:type_of% @List.getElem?_eq_getElem:=@List.getElem?_eq_getElem
theorem yQo:type_of% @Int.le_refl:=@Int.le_refl
theorem yQp:type_of% @Nat.eq_of_beq_eq_true:=@Nat.eq_of_beq_eq_true
theorem yQq:type_of% @List.mem_cons_of_mem:=@List.mem_cons_of_mem
theorem yQr:type_of% @List.length_map:=@List.length_map
theorem yQs:type_of% @List.length_append:=@List.length_append
theorem yQt:type_of% @List.getElem?_eq_some_iff:=@List.getElem?_eq_some_iff
theorem yQu:type_of% @List.mem_cons_self:=@List.mem_cons_self
theorem yQv:type_of% @List.all_eq_true:=@List.all_eq_true
theorem yQw:type_of% @List.mem_cons:=@List.mem_cons
theorem yQx:type_of% @Option.some.injEq:=@Option.some.injEq
theorem yQy:type_of% @List.append_assoc:=@List.append_assoc
theorem yQz:type_of% @Nat.zero_le:=@Nat.zero_le
theorem yQ0:type_of% @List.length_set:=@List.length_set
theorem yQ1:type_of% @List.mem_append:=@List.mem_append
theorem yQ2:type_of% @Bool.false_eq_true:=@Bool.false_eq_true
theorem yQ3:type_of% @List.length_drop:=@List.length_drop
theorem yQ4:type_of% @Array.getElem?_toList:=@Array.getElem?_toList
theorem yQ5:type_of% @List.take_of_length_le:=@List.take_of_length_le
theorem yQ6:type_of% @List.getElem?_eq_none:=@List.getElem?_eq_none
theorem yQ7:type_of% @Nat.mul_le_mul_right:=@Nat.mul_le_mul_right
theorem yQ8:type_of% @Int.eq_ofNat_of_zero_le:=@Int.eq_ofNat_of_zero_le
theorem yQ9:type_of% @List.length_take:=@List.length_take
theorem gQa:type_of% @List.getElem?_append_left:=@List.getElem?_append_left
theorem gQb:type_of% @Option.some.inj:=@Option.some.inj
theorem gQc:type_of% @List.append_nil:=@List.append_nil
theorem gQd:type_of% @List.length_cons:=@List.length_cons
theorem gQe:type_of% @Array.getElem?_eq_some_iff:=@Array.getElem?_eq_some_iff
theorem gQf:type_of% @List.prefix_rfl:=@List.prefix_rfl
theorem gQg:type_of% @List.getElem?_append_right:=@List.getElem?_append_right
theorem gQh:type_of% @Bool.not_eq_true:=@Bool.not_eq_true
theorem gQi:type_of% @List.take_length:=@List.take_length
theorem gQj:type_of% @List.getElem?_drop:=@List.getElem?_drop
theorem gQk:type_of% @List.take_append_of_le_length:=@List.take_append_of_le_length
theorem gQl:type_of% @Nat.add_mul:=@Nat.add_mul
theorem gQm:type_of% @Nat.blt_eq:=@Nat.blt_eq
theorem gQn:type_of% @List.getElem?_map:=@List.getElem?_map
theorem gQo:type_of% @List.getElem?_set:=@List.getElem?_set
theorem gQp:type_of% @List.getElem_mem:=@List.getElem_mem
theorem gQq:type_of% @List.drop_eq_getElem_cons:=@List.drop_eq_getElem_cons
theorem gQr:type_of% @List.getElem?_take_of_lt:=@List.getElem?_take_of_lt
theorem gQs:type_of% @List.drop_drop:=@List.drop_drop
theorem gQt:type_of% @Nat.le_trans:=@Nat.le_trans
theorem gQu:type_of% @List.take_prefix:=@List.take_prefix
theorem gQv:type_of% @List.length_singleton:=@List.length_singleton
theorem gQw:type_of% @List.length_nil:=@List.length_nil
theorem gQx:type_of% @Nat.lt_irrefl:=@Nat.lt_irrefl
theorem gQy:type_of% @Int.le_trans:=@Int.le_trans
theorem gQz:type_of% @List.mem_of_mem_take:=@List.mem_of_mem_take
theorem gQ0:type_of% @List.length_replicate:=@List.length_replicate
theorem gQ1:type_of% @List.drop_of_length_le:=@List.drop_of_length_le
theorem gQ2:type_of% @Nat.mul_div_cancel:=@Nat.mul_div_cancel
theorem gQ3:type_of% @Bool.and_eq_true:=@Bool.and_eq_true
inductive AV where
 | int (k:IntKind) (n:Int)
 | bool (b:Bool)
 | str (s:List UInt8)
 | nilptr
 | ptr (b o:Nat)
 | nilslice
 | slice (b o len cap : Nat) (ex : Option Nat)   -- ex: none: the capacity is just so; some s: it may be more (elements of s cells)
 | nilmap
 | map (r:Nat)
 | nilfunc
 | func (f:FuncId) (first captured:List AV)
 | yield (l:Nat)
 | niliface
 | iface (t:TypeId) (v:AV)
 | agg (cs:List AV)
 | tup (vs:List AV)
 deriving Inhabited
abbrev undef:AV:= .tup []
mutual
def AV.beq:AV→AV→Bool
 | .int k n,.int k' n'=>k==k'&&n==n'
 | .bool b,.bool b'=>b==b'
 | .str s,.str s'=>s==s'
 | .nilptr,.nilptr=>true
 | .ptr b o,.ptr b' o'=>Nat.beq b b'&&Nat.beq o o'
 | .nilslice,.nilslice=>true
 | .slice b o l c e,.slice b' o' l' c' e'=>Nat.beq b b'&&Nat.beq o o'&&Nat.beq l l'&&Nat.beq c c'&&e==e'
 | .nilmap,.nilmap=>true
 | .map r,.map r'=>Nat.beq r r'
 | .nilfunc,.nilfunc=>true
 | .func f a b,.func f' a' b'=>Nat.beq f f'&&AV.beqL a a'&&AV.beqL b b'
 | .yield l,.yield l'=>Nat.beq l l'
 | .niliface,.niliface=>true
 | .iface t v,.iface t' v'=>Nat.beq t t'&&AV.beq v v'
 | .agg cs,.agg cs'=>AV.beqL cs cs'
 | .tup cs,.tup cs'=>AV.beqL cs cs'
 | _,_=>false
def AV.beqL:List AV→List AV→Bool
 | [],[]=>true
 | a::as,b::bs=>AV.beq a b&&AV.beqL as bs
 | _,_=>false
end
inductive AO where
 | cells (cs:List AV) (fam own:Nat) (dirty:Bool)
 | map (es:List (AV×AV)) (clock:Nat)
 | loop (st:LoopState) (pending:Option Code) (fn:FuncId) (tmps:List AV) (params:List Tmp) (assign body:Code) (defers:Nat)
 | deferred
 | mapIter (m:Option Nat) (es:List (AV×AV)) (clock:Nat) (rest:List (AV×AV)) (last:Option AV)
 | strIter (s:List UInt8) (pos:Nat)
 | gone
 deriving Inhabited
inductive Tr(α:Type)where
 | nil
 | nd (l:Tr α) (v:Option α) (r:Tr α)
 deriving Inhabited
section
variable {α:Type}
def Tr.getN(n:Nat):Tr α→Nat→Option α:=
 Nat.rec (motive:=fun _=>Tr α→Nat→Option α)
  (fun t _=>Tr.casesOn (motive:=fun _=>Option α) t none (fun _ v _=>v))
  (fun _ ih t b=>Tr.casesOn (motive:=fun _=>Option α) t none
   (fun l v r=>cond (Nat.beq b 0) v (cond (Nat.beq (Nat.mod b 2) 1) (ih l (Nat.div b 2)) (ih r (Nat.sub (Nat.div b 2) 1))))) n
def Tr.get(t:Tr α)(b:Nat):Option α:=Tr.getN b t b
def Tr.setN(o:α)(n:Nat):Tr α→Nat→Tr α:=
 Nat.rec (motive:=fun _=>Tr α→Nat→Tr α)
  (fun t _=>Tr.casesOn (motive:=fun _=>Tr α) t (.nd .nil (some o) .nil) (fun l _ r=> .nd l (some o) r))
  (fun _ ih t b=>Tr.casesOn (motive:=fun _=>Tr α) t
   (cond (Nat.beq b 0) (.nd .nil (some o) .nil) (cond (Nat.beq (Nat.mod b 2) 1) (.nd (ih .nil (Nat.div b 2)) none .nil) (.nd .nil none (ih .nil (Nat.sub (Nat.div b 2) 1)))))
   (fun l v r=>cond (Nat.beq b 0) (.nd l (some o) r) (cond (Nat.beq (Nat.mod b 2) 1) (.nd (ih l (Nat.div b 2)) v r) (.nd l v (ih r (Nat.sub (Nat.div b 2) 1)))))) n
theorem Tr.getN_eq(v:Option α)(l r:Tr α)(n b:Nat):Tr.getN (n+1) (.nd l v r) b=cond (Nat.beq b 0) v (cond (Nat.beq (b % 2) 1) (Tr.getN n l (b / 2)) (Tr.getN n r (b / 2 - 1))):=rfl
theorem Tr.getN_enough:∀(n k:Nat) (t:Tr α) (b:Nat),b≤n→b≤k→Tr.getN n t b=Tr.getN k t b:=by
  intro n
  induction n with
  | zero=>
    intro k t b hn hk;have hb:b=0:=by omega
    subst hb;cases k<;>cases t<;>rfl
  | succ n ih=>
    intro k t b hn hk
    cases t with
    | nil=>cases k<;>rfl
    | nd l v r=>
      cases k with
      | zero=>
        have hb:b=0:=by omega
        subst hb;rfl
      | succ k=>
        rw[Tr.getN_eq,Tr.getN_eq];by_cases h0:b=0
        · subst h0;rfl
        · rw[ih k l (b / 2) (by omega) (by omega),ih k r (b / 2 - 1) (by omega) (by omega)]
theorem Tr.get_nil(b:Nat):(Tr.nil:Tr α).get b=none:=by cases b<;>rfl
theorem Tr.get_nd(l:Tr α)(v:Option α)(r:Tr α)(b:Nat):
    (Tr.nd l v r).get b=if b=0 then v else if b % 2=1 then l.get (b / 2)else r.get (b / 2 - 1):=by
  have:(Tr.nd l v r).get b=cond (Nat.beq b 0) v (cond (Nat.beq (b % 2) 1) (l.get (b / 2)) (r.get (b / 2 - 1))):=by
    unfold Tr.get
    cases b with
    | zero=>rfl
    | succ b=>
      rw[Tr.getN_eq,Tr.getN_enough b ((b+1) / 2) l ((b+1) / 2) (by omega) (by omega),Tr.getN_enough b ((b+1) / 2 - 1) r ((b+1) / 2 - 1) (by omega) (by omega)]
  rw[this];by_cases h0:b=0
  · subst h0;rfl
  · have h0':Nat.beq b 0=false:=by
      cases h:Nat.beq b 0 with
      | false=>rfl
      | true=>exact absurd (yQp h) h0
    rw[h0',if_neg h0];by_cases h1:b % 2=1
    · rw[if_pos h1,h1];rfl
    · have h1':Nat.beq (b % 2) 1=false:=by
        cases h:Nat.beq (b % 2) 1 with
        | false=>rfl
        | true=>exact absurd (yQp h) h1
      rw[if_neg h1,h1'];rfl
theorem zJ5 {a b:Nat}(h:a≠b):Nat.beq a b=false:=by
 cases h':Nat.beq a b with
 | false=>rfl
 | true=>exact absurd (yQp h') h
theorem Tr.get_set(o:α):∀(n:Nat) (t:Tr α) (b:Nat),b≤n→∀x,(Tr.setN o n t b).get x=if x=b then some o else t.get x:=by
  intro n
  induction n with
  | zero=>
    intro t b hb x;have hb:b=0:=by omega
    subst hb
    cases t with
    | nil=>
      show(Tr.nd .nil (some o) .nil).get x=_;rw[Tr.get_nd];by_cases hx:x=0<;>simp[hx,Tr.get_nil]
    | nd l v r=>
      show(Tr.nd l (some o) r).get x=_;rw[Tr.get_nd,Tr.get_nd];by_cases hx:x=0<;>simp[hx]
  | succ n ih=>
    intro t b hb x;have key:∀(l r:Tr α) (v:Option α),(cond (Nat.beq b 0) (Tr.nd l (some o) r) (cond (Nat.beq (b % 2) 1) (Tr.nd (Tr.setN o n l (b / 2)) v r) (Tr.nd l v (Tr.setN o n r (b / 2 - 1))))).get x=if x=b then some o else(Tr.nd l v r).get x:=by
      intro l r v;by_cases h0:b=0
      · subst h0
        show(Tr.nd l (some o) r).get x=_;rw[Tr.get_nd,Tr.get_nd];by_cases hx:x=0<;>simp[hx]
      · rw[zJ5 h0]
        by_cases h1:b % 2=1
        · rw[h1]
          show(Tr.nd (Tr.setN o n l (b / 2)) v r).get x=_;rw[Tr.get_nd,Tr.get_nd,ih l (b / 2) (by omega)];by_cases hx0:x=0
          · subst hx0;rw[if_pos rfl,if_neg (Ne.symm h0),if_pos rfl]
          · rw[if_neg hx0,if_neg hx0]
            by_cases hx1:x % 2=1
            · rw[if_pos hx1,if_pos hx1]
              by_cases hxb:x=b
              · subst hxb;simp
              · rw[if_neg (by omega),if_neg hxb]
            · rw[if_neg hx1,if_neg hx1,if_neg (by omega)]
        · rw[zJ5 h1]
          show(Tr.nd l v (Tr.setN o n r (b / 2 - 1))).get x=_;rw[Tr.get_nd,Tr.get_nd,ih r (b / 2 - 1) (by omega)];by_cases hx0:x=0
          · subst hx0;rw[if_pos rfl,if_neg (Ne.symm h0),if_pos rfl]
          · rw[if_neg hx0,if_neg hx0]
            by_cases hx1:x % 2=1
            · rw[if_pos hx1,if_pos hx1,if_neg (by omega)]
            · rw[if_neg hx1,if_neg hx1]
              by_cases hxb:x=b
              · subst hxb;simp
              · rw[if_neg (by omega),if_neg hxb]
    cases t with
    | nil=>
      have:=key .nil .nil none;rw[show(Tr.nd .nil none .nil).get x=(Tr.nil:Tr α).get x from by rw[Tr.get_nd];simp[Tr.get_nil]]at this;exact this
    | nd l v r=>exact key l r v
end
structure AW where
 size:Nat
 tr:Tr AO
def AW.get(w:AW)(b:Nat):Option AO:=w.tr.get b
def AW.set(w:AW)(b:Nat)(o:AO):AW:=⟨w.size,Tr.setN o b w.tr b⟩
def AW.push(w:AW)(o:AO):AW:=⟨w.size+1,Tr.setN o w.size w.tr w.size⟩
def oJe:AO→Option (List AV)
 | .cells cs _ _ _=>some cs
 | _=>none
def AW.root?(w:AW)(f:Nat):Option (Nat×Nat×Bool):=
 match w.get f with
 | some (.cells _ f' own dirty)=>if f'=f then some (f,own,dirty)else none
 | _=>none
def AW.fam?(w:AW)(b:Nat):Option (Nat×Nat×Bool):=
 match w.get b with
 | some (.cells _ f _ _)=>w.root? f
 | _=>none
def AW.cells?(w:AW)(b:Nat):Option (List AV):=
 match w.fam? b with
 | some (_,own,dirty)=>if dirty=false∨own=b then(w.get b).bind oJe else none
 | none=>none
def AW.setFam(w:AW)(f own:Nat)(dirty:Bool):AW:=
 match w.get f with
 | some (.cells cs fam _ _)=>w.set f (.cells cs fam own dirty)
 | _=>w
def AW.setCs(w:AW)(b:Nat)(cs:List AV):AW:=
 match w.get b with
 | some (.cells _ fam own dirty)=>w.set b (.cells cs fam own dirty)
 | _=>w
def qJg(cs:List AV)(i:Nat)(vs:List AV):List AV:=cs.take i++vs++cs.drop (i+vs.length)
def AW.putCells(w:AW)(b o:Nat)(vs:List AV):Option AW:=
  match w.fam? b,w.cells? b with
  | some (f,own,dirty),some cs=>
    if f=0∨cs.length<o+vs.length then none
    else if f=b∧own=b∧dirty=false then some (w.setCs b (qJg cs o vs))
    else some ((w.setFam f b true).setCs b (qJg cs o vs))
  | _,_=>none
def AW.heir(w:AW)(b:Nat)(cs:List AV):Option AW:=
 match w.fam? b with
 | some (f,own,dirty)=>if f≠0∧own=b then some ((w.setFam f w.size dirty).push (.cells cs f 0 false))else none
 | none=>none
def qJz(cs:List AV)(o n:Nat):Option (List AV):=
 if o+n≤cs.length then some ((cs.drop o).take n)else none
def AW.read(w:AW)(b o n:Nat):Option (List AV):=
 match w.cells? b with
 | some cs=>qJz cs o n
 | none=>none
def qJ4(w:AW)(cs:List AV):AO:= .cells cs w.size w.size false
def newCells(w:AW)(cs:List AV):AW:=w.push (qJ4 w cs)
def AV.cells:AV→List AV
 | .agg cs=>cs
 | v=>[v]
mutual
def ofValue:Value→Option AV
 | .bool b=>some (.bool b)
 | .int k n=>some (.int k n)
 | .string s=>some (.str s.data.toList)
 | .pointer none=>some .nilptr
 | .slice none 0 0=>some .nilslice
 | .map none=>some .nilmap
 | .nilFunc=>some .nilfunc
 | .nilIface=>some .niliface
 | .iface t v=>(ofValue v).map (.iface t)
 | .agg ⟨cs⟩=>(wJy cs).map .agg
 | .tuple ⟨cs⟩=>(wJy cs).map .tup
 | _=>none
def wJy:List Value→Option (List AV)
  | []=>some []
  | v::vs=>match ofValue v,wJy vs with
    | some a,some as=>some (a::as)
    | _,_=>none
end
abbrev Tm:=List AV
def getT(tmps:Tm)(t:Nat):AV:=tmps.getD t undef
def qJs(tmps:Tm):Operand→Option AV
 | .tmp t=>some (getT tmps t)
 | .const v=>ofValue v
 | .global _=>none
 | .func f=>some (.func f [] [])
def jJi(tmps:Tm):List Operand→Option (List AV)
  | []=>some []
  | x::xs=>match qJs tmps x with
    | some a=>match jJi tmps xs with
      | some as=>some (a::as)
      | none=>none
    | none=>none
def asN:AV→Option Nat
 | .int _ (.ofNat n)=>some n
 | _=>none
def asB:AV→Option Bool
 | .bool b=>some b
 | _=>none
def asP:AV→Option (Nat×Nat)
 | .ptr b o=>some (b,o)
 | _=>none
def asA:AV→Option (List AV)
 | .agg cs=>some cs
 | _=>none
def asT:AV→Option (List AV)
 | .tup cs=>some cs
 | _=>none
def jJe:TypeDesc→Option TypeId
 | .slice e=>some e
 | _=>none
def nJt:TypeDesc→Option (Nat×TypeId)
 | .array n e=>some (n,e)
 | _=>none
def hJ8:TypeDesc→Option (Array Field)
 | .struct fs=>some fs
 | _=>none
def xJj:TypeDesc→Option (TypeId×TypeId)
 | .map k e=>some (k,e)
 | _=>none
def hJ9:TypeDesc→Option TypeId
 | .pointer e=>some e
 | _=>none
def kJw:TypeDesc→Option IntKind
 | .int k=>some k
 | _=>none
def zJi:TypeDesc→Bool
 | .string=>true
 | _=>false
def jJw:TypeDesc→Bool
 | .interface _=>true
 | _=>false
def tdAgg:TypeDesc→Bool
 | .struct _ | .array _ _=>true
 | _=>false
def tdU8:TypeDesc→Bool
 | .int .u8=>true
 | _=>false
def qJf {α:Type}(b:Bool)(x:Option α):Option α:=bif b then x else none
section ops
variable(P:Program)
def szOf(t:TypeId):Option Nat:=(P.info? t).map (·.size)
def bytesOf(t:TypeId):Option Nat:=(P.info? t).map (·.bytes)
def isAgg(t:TypeId):Option Bool:=(P.underlying t).map tdAgg
def zJv(t:TypeId):Option AV:=(((P.info? t).bind (·.zero)).bind ofValue).bind fun z=>(szOf P t).bind fun n=>qJf (Nat.beq z.cells.length n) (some z)
def elemOf(t:TypeId):Option TypeId:=(P.underlying t).bind jJe
def cJp(t:TypeId):Option (Nat×TypeId):=(P.underlying t).bind nJt
def uJ6(t:TypeId)(f:Nat):Option Field:=((P.underlying t).bind hJ8).bind fun fs=>fs[f]?
def pJz(t:TypeId)(cs:List AV)(off:Nat):Option AV:=
 (isAgg P t).bind fun a=>bif a then(szOf P t).bind fun n=>(qJz cs off n).map .agg else cs[off]?
def rJ7(w:AW)(t:TypeId)(b o:Nat):Option AV:=
 (w.cells? b).bind fun cs=>pJz P t cs o
def qJc:AV→Bool
 | .agg _ | .tup _=>false
 | _=>true
def dJt(w:AW)(t:TypeId)(b o:Nat)(v:AV):Option AW:=
 (szOf P t).bind fun n=>qJf (Nat.beq v.cells.length n&&v.cells.all qJc) (w.putCells b o v.cells)
def uJ5(place:Nat→Option (Nat×Nat))(cells:List AV):List (Nat×AV)→Option (List AV)
 | []=>some cells
 | (i,v)::rest=>(place i).bind fun(off,size)=>bif Nat.beq v.cells.length size&&Nat.ble (off+size) cells.length then uJ5 place (qJg cells off v.cells) rest else none
def repl(n:Nat)(z:List AV):List AV:=Nat.rec [] (fun _ ih=>z++ih) n
def xJ0:List UInt8→List UInt8→Bool
 | _,[]=>false
 | [],_::_=>true
 | a::x,b::y=>a<b || (a==b&&xJ0 x y)
def bits(k:IntKind)(f:(n:Nat)→BitVec n→BitVec n→BitVec n)(x y:Int):AV:=
 .int k (k.wrap (f k.bits (BitVec.ofInt k.bits x) (BitVec.ofInt k.bits y)).toNat)
def arith(op:BinOp)(k:IntKind)(x y:Int):Option AV:=
 match op with
 | .add=>some (.int k (k.wrap (x+y)))
 | .sub=>some (.int k (k.wrap (x - y)))
 | .mul=>some (.int k (k.wrap (x * y)))
 | .quo=>if y=0 then none else some (.int k (k.wrap (x.tdiv y)))
 | .rem=>if y=0 then none else some (.int k (x.tmod y))
 | .and=>some (bits k (fun _ a b=>a&&&b) x y)
 | .or=>some (bits k (fun _ a b=>a ||| b) x y)
 | .xor=>some (bits k (fun _ a b=>a^^^b) x y)
 | .andNot=>some (bits k (fun _ a b=>a&&&~~~b) x y)
 | .eql=>some (.bool (decide (x=y)))
 | .neq=>some (.bool (!decide (x=y)))
 | .lss=>some (.bool (decide (x<y)))
 | .leq=>some (.bool (decide (x≤y)))
 | .gtr=>some (.bool (decide (y<x)))
 | .geq=>some (.bool (decide (y≤x)))
 | _=>none
def kJ1(op:BinOp)(k:IntKind)(x y:Int):Option AV:=
 if y<0 then none else
 match op with
 | .shl=>some (.int k (k.wrap (x * 2^(min y.toNat k.bits))))
 | .shr=>some (.int k (x.fdiv (2^(min y.toNat k.bits))))
 | _=>none
def kQn(op:BinOp)(x y:List UInt8):Option AV:=
 match op with
 | .add=>if x.length+y.length<2^62 then some (.str (x++y))else none
 | .eql=>some (.bool (x==y))
 | .neq=>some (.bool (!(x==y)))
 | .lss=>some (.bool (xJ0 x y))
 | .leq=>some (.bool (xJ0 x y || x==y))
 | .gtr=>some (.bool (!(xJ0 x y || x==y)))
 | .geq=>some (.bool (!xJ0 x y))
 | _=>none
def eqPtr(t:TypeId)(b o b' o':Nat):Option Bool:=
 ((P.underlying t).bind hJ9).bind fun e=>(szOf P e).bind fun n=>qJf (!Nat.beq n 0&&Nat.beq b b') (some (Nat.beq o o'))
def vQh:TypeDesc→Bool
 | .bool=>true
 | _=>false
def mJz:TypeDesc→Bool
 | .func ..=>true
 | _=>false
def isT(t:TypeId)(p:TypeDesc→Bool)(r:Bool):Option Bool:=(P.underlying t).bind fun u=>qJf (p u) (some r)
def eq1(t:TypeId):AV→AV→Option Bool
 | .bool a,.bool b=>isT P t vQh (a==b)
 | .int k a,.int k' b=>if k=k' then isT P t (fun u=>(kJw u).isSome) (decide (a=b))else none
 | .str a,.str b=>isT P t zJi (a==b)
 | .nilptr,.nilptr=>isT P t (fun u=>(hJ9 u).isSome) true
 | .nilptr,.ptr _ _=>isT P t (fun u=>(hJ9 u).isSome) false
 | .ptr _ _,.nilptr=>isT P t (fun u=>(hJ9 u).isSome) false
 | .ptr b o,.ptr b' o'=>eqPtr P t b o b' o'
 | .nilslice,.nilslice=>isT P t (fun u=>(jJe u).isSome) true
 | .nilslice,.slice ..=>isT P t (fun u=>(jJe u).isSome) false
 | .slice ..,.nilslice=>isT P t (fun u=>(jJe u).isSome) false
 | .nilmap,.nilmap=>isT P t (fun u=>(xJj u).isSome) true
 | .nilmap,.map _=>isT P t (fun u=>(xJj u).isSome) false
 | .map _,.nilmap=>isT P t (fun u=>(xJj u).isSome) false
 | .nilfunc,.nilfunc=>isT P t mJz true
 | .nilfunc,.func ..=>isT P t mJz false
 | .func ..,.nilfunc=>isT P t mJz false
 | .niliface,.iface ..=>isT P t jJw false
 | .iface ..,.niliface=>isT P t jJw false
 | _,_=>none
def xJs:BinOp→Bool
 | .shl | .shr=>true
 | _=>false
def eqFs(eq:TypeId→AV→AV→Option Bool):List Field→List AV→List AV→Option Bool
 | [],_,_=>some true
 | f :: fs, xs, ys => qJf (!(f.name == "_")) ((pJz P f.type xs f.offset).bind fun a => (pJz P f.type ys f.offset).bind fun b => (eq f.type a b).bind fun r => bif r then eqFs eq fs xs ys else some false)
def eqAs(eq:TypeId→AV→AV→Option Bool)(e:TypeId)(sz:Nat)(xs ys:List AV):List Nat→Option Bool
 | []=>some true
 | i::is=>(pJz P e xs (i * sz)).bind fun a=>(pJz P e ys (i * sz)).bind fun b=>(eq e a b).bind fun r=>bif r then eqAs eq e sz xs ys is else some false
def eqS:Nat→TypeId→AV→AV→Option Bool
  | 0,_,_,_=>none
  | d+1,t,x,y=>match x with
    | .agg xs=>match y with
      | .agg ys=>(P.underlying t).bind fun u=>match u with
        | .struct fs=>qJf (!P.stoodInHeld t) (eqFs P (eqS d) fs.toList xs ys)
        | .array n e=>(szOf P e).bind fun sz=>eqAs P (eqS d) e sz xs ys (List.range' 0 n)
        | _=>none
      | _=>none
    | x=>eq1 P t x y
def eq2(t:TypeId)(x y:AV):Option Bool:=
 match x with
 | .agg xs=>qJf (!P.eqGuardType P.depth t) (eqS P 8 t (.agg xs) y)
 | x=>eq1 P t x y
def eqOp(op:BinOp)(t:TypeId)(x y:AV):Option AV:=
 match op with
 | .eql=>(eq2 P t x y).map .bool
 | .neq=>(eq2 P t x y).map fun b=> .bool (!b)
 | _=>none
def binA(op:BinOp)(t:TypeId)(x y:AV):Option AV:=
  match x with
  | .int k a=>match y with
    | .int k' b=>bif xJs op then kJ1 op k a b else if k=k' then arith op k a b else none
    | _=>none
  | .str a=>match y with
    | .str b=>kQn op a b
    | _=>none
  | x=>eqOp P op t x y
def unA(op:UnOp)(x:AV):Option AV:=
  match x with
  | .int k n=>match op with
    | .neg=>some (.int k (k.wrap (0 - n)))
    | .xor=>some (bits k (fun _ a b=>a^^^b) (if k.signed then -1 else k.max) n)
    | _=>none
  | .bool b=>match op with
    | .not=>some (.bool !b)
    | _=>none
  | _=>none
def isConst:Operand→Bool
 | .const _=>true
 | _=>false
def bJr:AV→Bool
 | .niliface=>true
 | _=>false
def nilEq(op:BinOp)(t:TypeId)(c:Bool):Option AV:=
 (P.underlying t).bind fun u=>qJf (jJw u&&c) (match op with
  | .eql=>some (.bool true)
  | .neq=>some (.bool false)
  | _=>none)
def jJ6(op:BinOp)(t:TypeId)(c:Bool)(x y:AV):Option AV:=
 bif bJr x&&bJr y then nilEq P op t c else binA P op t x y
def zJs:List AV→Option (List UInt8)
 | []=>some []
 | .int .u8 n::cs=>(zJs cs).map (UInt8.ofNat n.toNat:: ·)
 | _=>none
def qJk(s:List UInt8):List AV:=s.map fun b=> .int .u8 b.toNat
def qJ1(d:Nat):Option AV→Option Nat
 | none=>some d
 | some v=>asN v
def okB(l h m c:Nat):Bool:=Nat.ble l h&&Nat.ble h m&&Nat.ble m c
def okEx:Option Nat→Nat→Bool
 | none,_=>true
 | some s,s'=>Nat.beq s s'
def tJu(t:TypeId)(x:AV)(low high max:Option AV):Option AV:=
 match x with
 | .str s=>(P.underlying t).bind fun u=>qJf (zJi u&&max.isNone) ((qJ1 s.length high).bind fun h=>(qJ1 0 low).bind fun l=>
   qJf (okB l h h s.length) (some (.str ((s.drop l).take (h - l)))))
 | .nilslice=>(elemOf P t).bind fun e=>(qJ1 0 high).bind fun h=>(qJ1 0 low).bind fun l=>(qJ1 0 max).bind fun m=>(szOf P e).bind fun _=>qJf (okB l h m 0&&(max.isNone || high.isSome)) (some .nilslice)
 | .slice b o len cap ex=>(elemOf P t).bind fun e=>(qJ1 cap max).bind fun m=>(qJ1 len high).bind fun h=>(qJ1 0 low).bind fun l=>(szOf P e).bind fun s=>
   qJf (okB l h m cap&&okEx ex s&&(max.isNone || high.isSome)) (some (.slice b (o+l * s) (h - l) (m - l) (if max.isSome then none else ex)))
 | .ptr b o=>(cJp P t).bind fun(n,e)=>(qJ1 n max).bind fun m=>(qJ1 n high).bind fun h=>(qJ1 0 low).bind fun l=>(szOf P e).bind fun s=>
   qJf (okB l h m n&&(max.isNone || high.isSome)) (some (.slice b (o+l * s) (h - l) (m - l) none))
 | _=>none
def pJ1(k:AV):List (AV×AV)→Option AV
 | []=>none
 | (a,v)::es=>bif a.beq k then some v else pJ1 k es
def pJ2(k:AV)(a:AV):Bool:=
 match k,a with
 | .int i _,.int j _=>decide (i=j)
 | .str _,.str _=>true
 | _,_=>false
def okKT(k:AV)(u:TypeDesc):Bool:=
 match k,u with
 | .int _ _,.int _=>true
 | .str _,.string=>true
 | _,_=>false
def pJ0(kt:TypeId)(k:AV)(es:List (AV×AV)):Bool:=
 (match P.underlying kt with | some u=>okKT k u | none=>false)&&es.all fun e=>pJ2 k e.1
def insM(k v:AV):List (AV×AV)→List (AV×AV)
 | []=>[(k,v)]
 | (a,u)::es=>bif a.beq k then(k,v)::es else(a,u)::insM k v es
def delM(k:AV):List (AV×AV)→List (AV×AV)
 | []=>[]
 | (a,u)::es=>bif a.beq k then es else(a,u)::delM k es
def oMap:AO→Option (List (AV×AV)×Nat)
 | .map es c=>some (es,c)
 | _=>none
def xJk(w:AW)(r:Nat):Option (List (AV×AV)×Nat):=(w.get r).bind oMap
def jQs(w:AW):AV→Option (List (AV×AV))
 | .nilmap=>some []
 | .map r=>(xJk w r).map (·.1)
 | _=>none
def vQw(t:TypeId):Option AV:=(P.underlying t).bind fun u=>match u with
 | .array n _=>some (.int .i64 n)
 | .pointer a=>(cJp P a).map fun x=> .int .i64 x.1
 | _=>none
def lenA(w:AW)(t:TypeId)(x:AV):Option AV:=
 match x with
 | .str s=>(P.underlying t).bind fun u=>qJf (zJi u) (some (.int .i64 s.length))
 | .nilslice=>(elemOf P t).map fun _=> .int .i64 0
 | .slice _ _ n _ _=>(elemOf P t).map fun _=> .int .i64 n
 | .nilmap=>((P.underlying t).bind xJj).map fun _=> .int .i64 0
 | .map r=>((P.underlying t).bind xJj).bind fun _=>(xJk w r).map fun m=> .int .i64 m.1.length
 | _=>vQw P t
def capA(t:TypeId)(x:AV):Option AV:=
 match x with
 | .nilslice=>(elemOf P t).map fun _=> .int .i64 0
 | .slice _ _ _ c none=>(elemOf P t).map fun _=> .int .i64 c
 | _=>none
def minmax(mx:Bool):AV→AV→Option AV
 | .int k a,.int k' b=>if k=k' then some (.int k (bif mx then(if b>a then b else a)else(if b<a then b else a)))else none
 | _,_=>none
def pJn(mx:Bool):AV→List AV→Option AV
 | a,[]=>some a
 | a,b::r=>(minmax mx a b).bind fun c=>pJn mx c r
def zJp(w:AW)(size:Nat):AV→Option (Nat×List AV)
 | .nilslice=>some (0,[])
 | .slice b o n _ _=>(w.read b o (n * size)).map fun cs=>(n,cs)
 | .str s=>qJf (Nat.beq size 1) (some (s.length,qJk s))
 | _=>none
def room:Nat:=2^48
def madeCells(e:TypeId)(bytes:Nat):AV→Option (Nat×List AV)
 | .int .i64 (.ofNat n)=>(zJv P e).bind fun z=>qJf (Nat.blt n (2^40)&&Nat.blt (n * bytes) room) (some (n,repl n z.cells))
 | _=>none
def appSrc(w:AW)(e:TypeId)(size bytes:Nat)(xt:Option TypeId)(x:AV):Option (Nat×List AV):=
  match xt with
  | none=>zJp w size x
  | some t=>(P.underlying t).bind fun u=>match kJw u with
    | some _=>madeCells P e bytes x
    | none=>zJp w size x
def bJv(w:AW)(size:Nat)(b o len cap:Nat)(ex:Option Nat)(n:Nat)(new:List AV):Option (AV×AW):=
  (w.cells? b).bind fun cs=>(qJz cs o (len * size)).bind fun old=>
    match ex with
    | none=>some (.slice w.size 0 (len+n) (len+n) (some size),newCells w (old++new))
    | some s=>qJf (Nat.beq s size&&Nat.beq len cap&&Nat.beq (o+len * size) cs.length)
      ((w.heir b (old++new)).map fun w'=>(.slice w.size 0 (len+n) (len+n) (some size),w'))
def fJw(x:AV)(new:List AV):Bool:=
 match x with
 | .slice ..=>true
 | _=>new.all qJc
def vJj(w:AW)(st:TypeId)(xt:Option TypeId)(s x:AV):Option (AV×AW):=
  (elemOf P st).bind fun e=>(szOf P e).bind fun size=>(bytesOf P e).bind fun bytes=>(zJv P e).bind fun _=>
  (appSrc P w e size bytes xt x).bind fun(n,new)=>
    bif Nat.beq n 0 then(match s with | .nilslice=>some (s,w) | .slice ..=>some (s,w) | _=>none)else
    qJf (!Nat.beq size 0&&fJw x new) (match s with
      | .nilslice=>qJf (Nat.ble (n * bytes) room&&Nat.blt n (2^62)) (some (.slice w.size 0 n n (some size),newCells w new))
      | .slice b o len cap ex=>
        bif Nat.ble (len+n) cap then(w.putCells b (o+len * size) new).map fun w'=>(.slice b o (len+n) cap ex,w')
        else qJf (Nat.blt ((2 * (len+n)+1000) * bytes) room&&Nat.blt (len+n) (2^62)) (bJv w size b o len cap ex n new)
      | _=>none)
def qQm(w:AW)(st:TypeId)(dst src:AV):Option (AV×AW):=
  (elemOf P st).bind fun e=>(szOf P e).bind fun size=>(zJp w size src).bind fun(n,cells)=>
    match dst with
    | .nilslice=>some (.int .i64 0,w)
    | .slice b o len _ _=>
      bif Nat.beq (Nat.min n len) 0 then some (.int .i64 0,w)else
      qJf (cells.all qJc) ((w.putCells b o (cells.take (Nat.min n len * size))).map fun w'=>(.int .i64 (Nat.min n len),w'))
    | _=>none
def yJg(w:AW)(t:TypeId)(x:AV):Option AW:=
 match x with
 | .nilmap=>(P.underlying t).map fun _=>w
 | .nilslice=>(P.underlying t).map fun _=>w
 | .map r=>(P.underlying t).bind fun _=>(xJk w r).map fun m=>w.set r (.map [] (m.2+1))
 | .slice b o n _ _=>(elemOf P t).bind fun e=>bif Nat.beq n 0 then some w else(zJv P e).bind fun z=>qJf (z.cells.all qJc) (w.putCells b o (repl n z.cells))
 | _=>none
def tJe(w:AW)(s d:TypeId)(x:AV):Option AV:=
 (P.underlying s).bind fun us=>(P.underlying d).bind fun ud=>
 match x with
 | .int _ n=>(kJw us).bind fun _=>(kJw ud).map fun k=> .int k (k.wrap n)
 | .str b=>qJf (zJi us&&zJi ud) (some (.str b))
 | .nilslice=>(jJe us).bind fun e=>(P.underlying e).bind fun ue=>qJf (tdU8 ue&&zJi ud) (some (.str []))
 | .slice b o n c ex=>(jJe us).bind fun e=>(P.underlying e).bind fun ue=>qJf (tdU8 ue) (
   bif zJi ud then(w.read b o n).bind fun cs=>(zJs cs).map .str
   else(jJe ud).bind fun _=>(w.fam? b).bind fun x=>qJf (Nat.beq s d&&!Nat.beq c 0&&!Nat.beq x.1 0) (some (.slice b o n c ex)))
 | _=>none
def wJb:AV→Option AV
 | .nilptr | .niliface | .nilfunc=>none
 | v=>some v
def zQ3(t:TypeId):AV→Option AV
 | .slice b o len _ _=>(cJp P t).bind fun a=>qJf (Nat.ble a.1 len&&!Nat.beq a.1 0) (some (.ptr b o))
 | _=>none
def fJz(t:TypeId)(v:AV):Option AV:=(P.underlying t).bind fun u=>qJf (!jJw u) (some (.iface t v))
def xJ4(s:TypeId)(f:Nat)(v:AV):Option AV:=
 (asP v).bind fun p=>(uJ6 P s f).bind fun fd=>(szOf P fd.type).bind fun n=>qJf (!Nat.beq n 0) (some (.ptr p.1 (p.2+fd.offset)))
def lJu(t:TypeId)(f:Nat)(v:AV):Option AV:=(asA v).bind fun cs=>(uJ6 P t f).bind fun fd=>pJz P fd.type cs fd.offset
def kJd(t:TypeId)(x i:AV):Option AV:=
 (asN i).bind fun k=>match x with
 | .ptr b o=>(cJp P t).bind fun a=>(szOf P a.2).bind fun s=>qJf (Nat.blt k a.1) (some (.ptr b (o+k * s)))
 | .slice b o len _ _=>(elemOf P t).bind fun e=>(szOf P e).bind fun s=>qJf (Nat.blt k len) (some (.ptr b (o+k * s)))
 | _=>none
def bJt(t:TypeId)(x i:AV):Option AV:=
 (asN i).bind fun k=>match x with
 | .agg cs=>(cJp P t).bind fun a=>(szOf P a.2).bind fun s=>qJf (Nat.blt k a.1) (pJz P a.2 cs (k * s))
 | .str s=>(P.underlying t).bind fun u=>qJf (zJi u) ((s[k]?).map fun b=> .int .u8 b.toNat)
 | _=>none
def bJm(w:AW)(t:TypeId)(ok:Bool)(m k:AV):Option AV:=
  ((P.underlying t).bind xJj).bind fun ke=>(jQs w m).bind fun es=>qJf (pJ0 P ke.1 k es) (
    match pJ1 k es with
    | some v=>some (bif ok then .tup [v, .bool true]else v)
    | none=>(zJv P ke.2).map fun z=>bif ok then .tup [z, .bool false]else z)
def cJo(asserted:TypeId)(ok:Bool)(v:AV):Option AV:=
  (P.underlying asserted).bind fun u=>bif jJw u then none else
  match v with
  | .iface t x=>bif Nat.beq t asserted then some (bif ok then .tup [x, .bool true]else x)
    else qJf ok ((zJv P asserted).map fun z=> .tup [z, .bool false])
  | .niliface=>qJf ok ((zJv P asserted).map fun z=> .tup [z, .bool false])
  | _=>none
def wJw(fs:Array Field):Option (List (Nat×Nat)):=fs.toList.mapM fun f=>(P.info? f.type).map fun i=>(f.offset,i.size)
def hJ0(t:TypeId)(ps:List (Nat×AV)):Option AV:=
 (zJv P t).bind fun z=>(P.underlying t).bind fun u=>match u with
  | .struct fs=>(wJw P fs).bind fun pl=>(uJ5 (pl[·]?) z.cells ps).map .agg
  | .array _ e=>(szOf P e).bind fun s=>(uJ5 (fun i=>some (i * s,s)) z.cells ps).map .agg
  | _=>none
def uJp(ps:List (Nat×AV)):Bool:=ps.all fun x=>x.2.cells.all qJc
def mapO(tmps:Tm):Option Operand→Option (Option AV)
 | none=>some none
 | some x=>(qJs tmps x).map some
def kJ7(tmps:Tm)(ps:Array (Nat×Operand)):Option (List (Nat×AV)):=
 (jJi tmps (ps.toList.map (·.2))).map fun vs=>(ps.toList.map (·.1)).zip vs
def wJ0(w:AW)(tmps:Tm)(b:Builtin)(args:Array Operand)(ts:Array TypeId):Option AV:=
  (jJi tmps args.toList).bind fun vs=>match vs with
    | x::r=>match b with
      | .len=>(ts[0]?).bind fun t=>lenA P w t x
      | .cap=>(ts[0]?).bind fun t=>capA P t x
      | .max=>pJn true x r
      | .min=>pJn false x r
      | _=>none
    | []=>none
def jJm(w:AW)(tmps:Tm)(c:Call):Option AV:=
 match c.callee with
 | .builtin b=>wJ0 P w tmps b c.args c.argTypes
 | _=>none
def fJ0(tmps:Tm)(fn:Fn)(first captured:Array Operand):Option AV:=
 match fn with
 | .func f=>(jJi tmps first.toList).bind fun a=>(jJi tmps captured.toList).map fun b=> .func f a b
 | _=>none
def qJ7(w:AW)(tmps:Tm):Op→Option AV
 | .move x=>qJs tmps x
 | .assign x=>qJs tmps x
 | .pick c a b=>((qJs tmps c).bind asB).bind fun t=>bif t then qJs tmps a else qJs tmps b
 | .nilCheck x=>(qJs tmps x).bind wJb
 | .binOp op t x y _=>(qJs tmps x).bind fun a=>(qJs tmps y).bind fun b=>jJ6 P op t (isConst x || isConst y) a b
 | .unOp op _ x=>(qJs tmps x).bind (unA op)
 | .convert s d x=>(qJs tmps x).bind (tJe P w s d)
 | .sliceToArrayPointer t x=>(qJs tmps x).bind (zQ3 P t)
 | .makeInterface t x=>(qJs tmps x).bind (fJz P t)
 | .makeFunc fn first captured=>fJ0 tmps fn first captured
 | .fieldAddr s x f=>(qJs tmps x).bind (xJ4 P s f)
 | .field t x f=>(qJs tmps x).bind (lJu P t f)
 | .indexAddr t x i=>(qJs tmps x).bind fun a=>(qJs tmps i).bind (kJd P t a)
 | .index t x i=>(qJs tmps x).bind fun a=>(qJs tmps i).bind (bJt P t a)
 | .slice t x l h m=>(qJs tmps x).bind fun v=>(mapO tmps l).bind fun l=>(mapO tmps h).bind fun h=>(mapO tmps m).bind fun m=>tJu P t v l h m
 | .extract x i=>((qJs tmps x).bind asT).bind fun vs=>vs[i]?
 | .build t ps=>(kJ7 tmps ps).bind (hJ0 P t)
 | .load t a=>((qJs tmps a).bind asP).bind fun p=>rJ7 P w t p.1 p.2
 | .lookup t x i ok=>(qJs tmps x).bind fun m=>(qJs tmps i).bind (bJm P w t ok m)
 | .typeAssert x _ asserted ok=>(qJs tmps x).bind (cJo P asserted ok)
 | .call c=>jJm P w tmps c
 | _=>none
def tJ2(w:AW)(t:TypeId)(x:AV):Option AO:=
 match x with
 | .str s=>(P.underlying t).bind fun u=>qJf (zJi u) (some (.strIter s 0))
 | .nilmap=>((P.underlying t).bind xJj).map fun _=> .mapIter none [] 0 [] none
 | _=>none
def lJy(w:AW)(b:Nat):Option (AV×AW):=
 match w.get b with
 | some (.mapIter (some r) _ c _ (some x))=>(xJk w r).bind fun m=>if m.2=c then some (x,w)else none
 | _=>none
def mJ9(w:AW)(t:TypeId)(x:AV):Option (AV×AW):=
 match x with
 | .nilmap=>((P.underlying t).bind xJj).map fun _=>(.ptr w.size 0,w.push (.mapIter none [] 0 [] none))
 | .map r=>((P.underlying t).bind xJj).bind fun _=>(xJk w r).map fun m=>(.ptr w.size 0,w.push (.mapIter (some r) m.1 m.2 m.1 none))
 | _=>none
def zJj(w:AW)(tmps:Tm):Op→Option (AV×AO)
  | .alloc t=>(zJv P t).bind fun z=>qJf (z.cells.all qJc) (some (.ptr w.size 0,qJ4 w z.cells))
  | .box _ x=>(qJs tmps x).bind fun v=>qJf (v.cells.all qJc) (some (.ptr w.size 0,qJ4 w v.cells))
  | .buildSlice t len ps=>(elemOf P t).bind fun e=>(szOf P e).bind fun s=>(zJv P e).bind fun z=>(kJ7 tmps ps).bind fun ps=>
      qJf (Nat.ble (len * s) 65536&&uJp ps&&z.cells.all qJc) ((uJ5 (fun i=>some (i * s,s)) (repl len z.cells) ps).map fun cs=>(.slice w.size 0 len len none,qJ4 w cs))
  | .makeMap _ none=>some (.map w.size, .map [] 0)
  | .makeSlice t l c=>(elemOf P t).bind fun e=>((qJs tmps l).bind asN).bind fun l=>((qJs tmps c).bind asN).bind fun c=>(zJv P e).bind fun z=>(bytesOf P e).bind fun bytes=>
      qJf (Nat.ble l c&&Nat.ble (c * bytes) (2^47)&&Nat.blt c (2^63)&&z.cells.all qJc) (some (.slice w.size 0 l c none,qJ4 w (repl c z.cells)))
  | .convert s d x=>(qJs tmps x).bind fun v=>match v with
    | .str b=>(P.underlying s).bind fun us=>(elemOf P d).bind fun e=>(P.underlying e).bind fun ue=>qJf (zJi us&&tdU8 ue) (some (.slice w.size 0 b.length b.length (some 1),qJ4 w (qJk b)))
    | _=>none
  | .range t x=>(qJs tmps x).bind fun v=>(tJ2 P w t v).map fun o=>(.ptr w.size 0,o)
  | _=>none
def yJz(w:AW)(t:TypeId)(m k v:AV):Option (AV×AW):=
 match m with
 | .map r=>(xJk w r).bind fun es=>((P.underlying t).bind xJj).bind fun ke=>qJf (pJ0 P ke.1 k es.1) (some (undef,w.set r (.map (insM k v es.1) (es.2+1))))
 | _=>none
def fJx(w:AW)(b:Nat)(s:List UInt8)(p:Nat):AV×AW:=
 bif Nat.blt p s.length then
  (.tup [.bool true,.int .i64 p,.int .i32 (Utf8.decode ⟨s.toArray⟩ p).1],w.set b (.strIter s (p+(Utf8.decode ⟨s.toArray⟩ p).2)))
 else(.tup [.bool false],w)
def cJj(w:AW)(t:TypeId)(m k:AV):Option (AV×AW):=
 match m with
 | .nilmap=>((P.underlying t).bind xJj).bind fun ke=>qJf (pJ0 P ke.1 k []) (some (undef,w))
 | .map r=>(xJk w r).bind fun es=>((P.underlying t).bind xJj).bind fun ke=>qJf (pJ0 P ke.1 k es.1) (some (undef,w.set r (.map (delM k es.1) (es.2+1))))
 | _=>none
def gJz(w:AW)(tmps:Tm)(b:Builtin)(args:Array Operand)(ts:Array TypeId):Option (AV×AW):=
  (jJi tmps args.toList).bind fun vs=>match vs with
    | x::r=>(ts[0]?).bind fun t=>match r with
      | [y]=>match b with
        | .append=>vJj P w t ts[1]? x y
        | .copy=>qQm P w t x y
        | .delete=>cJj P w t x y
        | _=>none
      | []=>match b with
        | .clear=>(yJg P w t x).map fun w'=>(undef,w')
        | _=>none
      | _=>none
    | []=>none
def wJk(w:AW)(tmps:Tm)(c:Call):Option (AV×AW):=
 match c.callee with
 | .builtin b=>gJz P w tmps b c.args c.argTypes
 | _=>none
def vJ4(w:AW)(tmps:Tm):Op→Option (AV×AW)
 | .store t a x=>((qJs tmps a).bind asP).bind fun p=>(qJs tmps x).bind fun v=>(dJt P w t p.1 p.2 v).map fun w'=>(undef,w')
 | .mapUpdate t m k v=>(qJs tmps m).bind fun m=>(qJs tmps k).bind fun k=>(qJs tmps v).bind fun v=>yJz P w t m k v
 | .insert t m k v=>(qJs tmps m).bind fun m=>(qJs tmps k).bind fun k=>(qJs tmps v).bind fun v=>yJz P w t m k v
 | .call c=>wJk P w tmps c
 | .range t x=>(qJs tmps x).bind (mJ9 P w t)
 | .entry i=>((qJs tmps i).bind asP).bind fun p=>qJf (Nat.beq p.2 0) (lJy w p.1)
 | _=>none
end ops
def yJ2(w:AW)(name:String)(args:List AV):Option (AV×AW):=
  if name = "sync/atomic.LoadInt64" then match args with
    | [.ptr b o]=>(w.read b o 1).bind fun cs=>match cs with
      | [.int .i64 n]=>some (.int .i64 n,w)
      | _=>none
    | _=>none
  else if name = "sync/atomic.StoreInt64" then match args with
    | [.ptr b o, .int .i64 n]=>(w.putCells b o [.int .i64 n]).map fun w'=>(undef,w')
    | _=>none
  else if name = "sync/atomic.AddInt64" then match args with
    | [.ptr b o, .int .i64 d]=>(w.read b o 1).bind fun cs=>match cs with
      | [.int .i64 n]=>(w.putCells b o [.int .i64 (IntKind.i64.wrap (n+d))]).map fun w'=>(.int .i64 (IntKind.i64.wrap (n+d)),w')
      | _=>none
    | _=>none
  else if name = "maps.clone" then match args with
    | [.iface t (.map r)]=>(xJk w r).map fun m=>(.iface t (.map w.size),w.push (.map m.1 0))
    | _=>none
  else none
inductive zJo where
 | normal
 | exit (id:Nat)
 | goto (l:Nat)
 | ret
structure St where
 tmps:Tm
 defers:List Nat
 w:AW
def putT(tmps:Tm)(dst:Option Tmp)(v:AV):Tm:=
 match dst with
 | some d=>tmps.set d v
 | none=>tmps
inductive Kd where
 | pure | read | make | eff
 deriving DecidableEq
def pJv(P:Program)(s d:TypeId):Kd:=
 match(P.underlying s).map zJi,(P.underlying d).map zJi,(P.underlying s).bind jJe with
 | some true,some false,_=> .make
 | _,_,some _=> .read
 | _,_,none=> .pure
def jJk(P:Program)(b:Builtin)(ts:Array TypeId):Kd:=
  match b with
  | .len=>match(ts[0]?).bind fun t=>(P.underlying t).bind xJj with
    | some _=> .read
    | none=> .pure
  | .cap | .max | .min=> .pure
  | _=> .eff
def vJf(P:Program)(c:Call):Kd:=
 match c.callee with
 | .builtin b=>jJk P b c.argTypes
 | _=> .eff
def opKd(P:Program):Op→Kd
 | .alloc _=> .make | .box ..=> .make | .buildSlice ..=> .make | .makeMap ..=> .make | .makeSlice ..=> .make
 | .range t _=>(match(P.underlying t).bind xJj with | some _=> .eff | none=> .make)
 | .convert s d _=>pJv P s d
 | .call c=>vJf P c
 | .move _=> .pure | .assign _=> .pure | .pick ..=> .pure | .nilCheck _=> .pure | .unOp ..=> .pure | .sliceToArrayPointer ..=> .pure
 | .makeInterface ..=> .pure | .makeFunc ..=> .pure | .fieldAddr ..=> .pure | .field ..=> .pure
 | .indexAddr ..=> .pure | .index ..=> .pure | .slice ..=> .pure | .extract ..=> .pure | .build ..=> .pure | .typeAssert ..=> .pure
 | .binOp ..=> .pure | .load ..=> .read | .lookup ..=> .read
 | _=> .eff
def dJe(ops:List Oper)(tmps:Tm)(j:Nat)(want:Bool):Bool:=
  match(ops[j]?).bind (·.dst)with
  | some d=>match tmps[d]? with
    | some (.bool b)=>b==want
    | _=>false
  | none=>false
def zJc(ops:List Oper)(tmps:Tm)(g:Option (Nat×Bool)):Bool:=
 match g with
 | none=>true
 | some (j,want)=>dJe ops tmps j want
def zJ6:Code→Nat→Option Code
  | .seq a b,l=>
    match zJ6 a l with
    | some rest=>some (.seq rest b)
    | none=>zJ6 b l
  | .label l',l=>bif Nat.beq l' l then some .skip else none
  | _,_=>none
abbrev Hook:=FuncId→List AV→AW→Option (Option (AV×AW))
def before(ops:List Oper):List Nat:=
 ops.foldl (init:=[]) fun acc o=>
  acc++[o.after.toList.foldl (fun s e=>if Region.binds .any e then s ||| 2^e.on ||| acc.getD e.on 0 else s) 0]
def tmpOf:Operand→Option Tmp
 | .tmp t=>some t
 | _=>none
def xJl(ops:List Oper)(o:Oper):List Tmp:=
 o.dst.toList++(o.op.operands.toList.filterMap tmpOf++(match o.guard with | some g=>((ops[g.1]?).bind (·.dst)).toList | none=>[]))
def eJj(ops:List Oper)(b:List Nat):Bool:=
 ops.zipIdx.all fun x=>(xJl ops x.1).all fun t=>ops.zipIdx.all fun y=>
  !decide (y.1.dst=some t) || Nat.beq x.2 y.2 || (b.getD x.2 0).testBit y.2 || (b.getD y.2 0).testBit x.2
def kJm(P:Program)(ops:List Oper):Bool:=
 let b:=before ops
 let eff:=(ops.zipIdx.filter fun x=>decide (opKd P x.1.op= .eff)).map (·.2)
 (ops.zipIdx.all fun x=>x.1.after.toList.all fun e=>!Region.binds .any e || Nat.blt e.on x.2)&&
 (ops.zipIdx.all fun x=>match x.1.guard with | none=>true | some g=>(b.getD x.2 0).testBit g.1)&&
 (eff.all fun j=>eff.all fun i=>!Nat.blt i j || (b.getD j 0).testBit i)&&
 eJj ops b
structure Rd where
 i:Nat
 v:AV
 tm:Tm
end Go.Sx
/-! The meaning of code over the abstract heap, as a predicate transformer. What the model leaves open (an order of a map's entries) is 'for all'. -/
namespace Go.Sx
structure LoopA where
 st:LoopState
 pending:Option Code
 fn:FuncId
 tmps:Tm
 params:List Tmp
 assign:Code
 body:Code
 defers:Nat
def oLoop:AO→Option LoopA
 | .loop st p fn tmps params assign body d=>some ⟨st,p,fn,tmps,params,assign,body,d⟩
 | _=>none
def LoopA.ob(l:LoopA):AO:= .loop l.st l.pending l.fn l.tmps l.params l.assign l.body l.defers
def zJ4(w:AW)(l:Nat):Option LoopA:=(w.get l).bind oLoop
inductive Task where
 | code (ro:Option Nat) (c:Code) (s:St)
 | scope (ro:Option Nat) (b c:Code) (s:St)
 | call (f:FuncId) (args:List AV) (w:AW)
 | yield (l:Nat) (args:List AV) (w:AW)
inductive Res where
 | ex (e:zJo) (s:St)
 | val (v:AV) (w:AW)
def valK(K:AV→AW→Prop):Res→Prop
 | .val v w=>K v w
 | .ex ..=>False
def exK(K:zJo→St→Prop):Res→Prop
 | .ex e s=>K e s
 | .val ..=>False
section wp
variable(P:Program)(rec:Task→(Res→Prop)→Prop)
def qJp(w:AW)(tmps:Tm)(o:Op):Option (AV×AW):=
 match opKd P o with
 | .pure=>(qJ7 P w tmps o).map fun v=>(v,w)
 | .read=>(qJ7 P w tmps o).map fun v=>(v,w)
 | .make=>(zJj P w tmps o).map fun x=>(x.1,w.push x.2)
 | .eff=>vJ4 P w tmps o
def kJ0(K:AV→AW→Prop)(x:Option (AV×AW)):Prop:=∃v w,x=some (v,w)∧K v w
def jJl(w:AW)(args:List AV)(K:AV→AW→Prop):AV→Prop
 | .func f first captured=>rec (.call f (first++(args++captured)) w) (valK K)
 | .yield l=>rec (.yield l args w) (valK K)
 | _=>False
def xJ6(w:AW)(tmps:Tm)(c:Call)(K:AV→AW→Prop):Prop:=
 match c.callee with
 | .value f=>∃fv as,qJs tmps f=some fv∧jJi tmps c.args.toList=some as∧jJl rec w as K fv
 | .builtin _=>kJ0 K (qJp P w tmps (.call c))
 | .invoke ..=>False
def picks {α:Type}:List α→List (α×List α)
 | []=>[]
 | x::l=>(x,l)::(picks l).map fun p=>(p.1,x::p.2)
theorem rJq {α:Type}(a:α):∀(l1 l2:List α),(a,l1++l2)∈picks (l1++a::l2)
 | [],l2=>yQu
 | x::l1,l2=>yQq _ (List.mem_map.2 ⟨_,rJq a l1 l2,rfl⟩)
def eJe(w:AW)(b m:Nat)(es:List (AV×AV))(c:Nat)(rest:List (AV×AV))(K:AV→AW→Prop):Prop:=
 (∃es',xJk w m=some (es',c))∧
  match rest with
  | []=>K (.tup [.bool false]) w
  | _=>∀kv rest',(kv,rest')∈picks rest→K (.tup [.bool true,kv.1,kv.2]) (w.set b (.mapIter (some m) es c rest' (some (.tup [kv.1,kv.2]))))
def vJz(w:AW)(tmps:Tm)(i:Operand)(isStr:Bool)(K:AV→AW→Prop):Prop:=
  ∃b,qJs tmps i=some (.ptr b 0)∧
    match w.get b,isStr with
    | some (.strIter s p),true=>K (fJx w b s p).1 (fJx w b s p).2
    | some (.mapIter none _ _ _ _),false=>K (.tup [.bool false]) w
    | some (.mapIter (some m) es c rest _),false=>eJe w b m es c rest K
    | _,_=>False
def wOp(w:AW)(tmps:Tm)(o:Op)(K:AV→AW→Prop):Prop:=
 match o with
 | .call c=>xJ6 P rec w tmps c K
 | .next i t=>vJz w tmps i t K
 | o=>kJ0 K (qJp P w tmps o)
def wOps(all:List Oper):List Oper→Tm→AW→(Tm→AW→Prop)→Prop
  | [],tmps,w,K=>K tmps w
  | o::rest,tmps,w,K=>
    if zJc all tmps o.guard=true then wOp P rec w tmps o.op fun v w'=>wOps all rest (putT tmps o.dst v) w' K
    else wOps all rest (putT tmps o.dst undef) w K
def xJu(i:Nat)(bf:Nat)(don:List Bool):Bool:=(List.range i).all fun j=>!(bf.testBit j) || don.getD j false
def xJd(ops:List Oper)(bf:List Nat):List (Oper×Nat)→List Bool→List Rd→Tm→AW→Option (List Bool×List Rd×Tm×AW)
  | [],don,rds,tmps,w=>some (don,rds,tmps,w)
  | (o,i)::rest,don,rds,tmps,w=>
    if don.getD i true=true∨opKd P o.op= .eff∨xJu i (bf.getD i 0) don=false then xJd ops bf rest don rds tmps w
    else if zJc ops tmps o.guard=true then
      (qJp P w tmps o.op).bind fun x=>xJd ops bf rest (don.set i true) (if opKd P o.op= .read then⟨i,x.1,tmps⟩::rds else rds) (putT tmps o.dst x.1) x.2
    else xJd ops bf rest (don.set i true) rds (putT tmps o.dst undef) w
def xJ8(ops:List Oper)(w:AW)(r:Rd):Prop:=∃o,ops[r.i]? =some o∧qJ7 P w r.tm o.op=some r.v
def jJo(ops:List Oper)(bf:List Nat):Nat→List Bool→List Rd→Tm→AW→(Tm→AW→Prop)→Prop
  | 0,_,_,_,_,_=>False
  | n+1,don,rds,tmps,w,K=>
    ∃don' rds' tmps' w',xJd P ops bf ops.zipIdx don rds tmps w=some (don',rds',tmps',w')∧(∀r∈rds',xJ8 P ops w' r)∧
      match(ops.zipIdx.zip don').find? (fun x=>!x.2)with
      | none=>K tmps' w'
      | some ((o,i),_)=>xJu i (bf.getD i 0) don'=true∧
        if zJc ops tmps' o.guard=true then
          wOp P rec w' tmps' o.op fun v w''=>
            jJo ops bf n (don'.set i true) (rds'.filter fun r=>!((bf.getD i 0).testBit r.i)) (putT tmps' o.dst v) w'' K
        else jJo ops bf n (don'.set i true) (rds'.filter fun r=>!((bf.getD i 0).testBit r.i)) (putT tmps' o.dst undef) w' K
def zQq(ops:List Oper)(tmps:Tm)(w:AW)(K:Tm→AW→Prop):Prop:=
 kJm P ops=true∧jJo P rec ops (before ops) (ops.length+1) (List.replicate ops.length false) [] tmps w K
def yJs(w:AW)(tmps:Tm):ResultVar→Option AV
 | .tmp t=>some (getT tmps t)
 | .cell a t=>(asP (getT tmps a)).bind fun p=>rJ7 P w t p.1 p.2
def jJb(w:AW)(tmps:Tm):List ResultVar→Option (List AV)
 | []=>some []
 | r::rs=>(yJs P w tmps r).bind fun v=>(jJb w tmps rs).map fun vs=>v::vs
def one:List AV→AV
 | [v]=>v
 | vs=> .tup vs
def kJj(w:AW):List Nat→Option AW
  | []=>some w
  | d::ds=>match w.get d with
    | some .deferred=>kJj (w.set d .gone) ds
    | _=>none
def wLeave(fn:Func)(K:AV→AW→Prop)(e:zJo)(s:St):Prop:=
 (e= .normal∨e= .ret)∧∃w vs,kJj s.w s.defers=some w∧jJb P w s.tmps fn.results.toList=some vs∧K (one vs) w
def kJv(fn:Func)(args:List AV)(w:AW)(Q:Res→Prop):Prop:=
 match fn.body with
 | some c=>rec (.code none c ⟨args++List.replicate (fn.ntmps - args.length) undef,[],w⟩) (exK (wLeave P fn fun v w=>Q (.val v w)))
 | none=>kJ0 (fun v w=>Q (.val v w)) (yJ2 w fn.name args)
def yJl(hk:Hook)(f:FuncId)(args:List AV)(w:AW)(Q:Res→Prop):Prop:=
 match hk f args w with
 | some r=>kJ0 (fun v w=>Q (.val v w)) r
 | none=>∃fn,P.funcs[f]? =some fn∧kJv P rec fn args w Q
def jJ5:zJo→Option Code
 | .normal=>none
 | .ret=>some .ret
 | .exit i=>some (.exit i)
 | .goto l=>some (.goto l)
def zJx:List (Tmp×AV)→Tm→Tm
 | [],tmps=>tmps
 | x::xs,tmps=>zJx xs (tmps.set x.1 x.2)
def eJf(l:Nat)(Q:Res→Prop)(e:zJo)(s:St):Prop:=
  ∃r,zJ4 s.w l=some r∧
    Q (.val (.bool (jJ5 e).isNone) (s.w.set l (LoopA.ob {r with st:=if(jJ5 e).isNone then .ready else .done,pending:=jJ5 e})))
def wBody(l:Nat)(body:Code)(Q:Res→Prop)(e:zJo)(s:St):Prop:=
  e= .normal∧∃r,zJ4 s.w l=some r∧r.st= .ready∧
    rec (.code (some l) body {s with w:=s.w.set l (LoopA.ob {r with st:= .busy})}) (exK (eJf l Q))
def vQc(l:Nat)(args:List AV)(w:AW)(Q:Res→Prop):Prop:=
  ∃r,zJ4 w l=some r∧args.length=r.params.length∧
    rec (.code (some l) r.assign ⟨zJx (r.params.zip args) r.tmps,[],w⟩) (exK (wBody rec l r.body Q))
def kJy(ro:Option Nat)(s:St):Option (Nat×List Nat×AW):=
 match ro with
 | some l=>(zJ4 s.w l).map fun r=>(r.defers,s.defers,s.w)
 | none=>some (s.w.size,s.w.size::s.defers,s.w.push .deferred)
def gJb(ro:Option Nat)(l:Nat)(tmps:Tm)(defers:List Nat)(w:AW)(Q:Res→Prop):Prop:=
  ∃r,zJ4 w l=some r∧r.st≠ .busy∧
    match r.pending with
    | none=>Q (.ex .normal ⟨tmps,defers,w.set l (LoopA.ob {r with st:= .exhausted})⟩)
    | some c=>rec (.code ro c ⟨tmps,defers,w.set l (LoopA.ob {r with st:= .exhausted})⟩) Q
def vQd(ro:Option Nat)(f:Operand)(params:Array Tmp)(assign body:Code)(s:St)(Q:Res→Prop):Prop:=
  ∃d defers w fv,kJy ro s=some (d,defers,w)∧qJs s.tmps f=some fv∧
    jJl rec (w.push (LoopA.ob ⟨.ready,none,0,s.tmps,params.toList,assign,body,d⟩)) [.yield w.size]
      (fun _ w'=>gJb rec ro w.size s.tmps defers w' Q) fv
def wSeq(ro:Option Nat)(b:Code)(Q:Res→Prop)(e:zJo)(s:St):Prop:=
 match e with
 | .normal=>rec (.code ro b s) Q
 | e=>Q (.ex e s)
def pJg(id:Nat)(Q:Res→Prop)(e:zJo)(s:St):Prop:=
 match e with
 | .exit i=>if i=id then Q (.ex .normal s)else Q (.ex (.exit i) s)
 | e=>Q (.ex e s)
def wJ9(ro:Option Nat)(b:Code)(Q:Res→Prop)(e:zJo)(s:St):Prop:=
  match e with
  | .goto l=>match zJ6 b l with
    | some rest=>rec (.scope ro b rest s) Q
    | none=>Q (.ex (.goto l) s)
  | e=>Q (.ex e s)
def stK(s:St)(Q:Res→Prop)(tmps:Tm)(w:AW):Prop:=Q (.ex .normal ⟨tmps,s.defers,w⟩)
def kJs(ops:List Oper)(draw:Bool)(s:St)(Q:Res→Prop):Prop:=
 match draw with
 | true=>zQq P rec ops s.tmps s.w (stK s Q)
 | false=>wOps P rec ops ops s.tmps s.w (stK s Q)
def wCond(ro:Option Nat)(c:Operand)(a b:Code)(s:St)(Q:Res→Prop):Prop:=
 ∃t,qJs s.tmps c=some (.bool t)∧rec (.code ro (if t then a else b) s) Q
def cJy(ro:Option Nat)(c:Code)(s:St)(Q:Res→Prop):Prop:=
 match c with
 | .skip=>Q (.ex .normal s)
 | .label _=>Q (.ex .normal s)
 | .ret=>Q (.ex .ret s)
 | .exit id=>Q (.ex (.exit id) s)
 | .goto l=>Q (.ex (.goto l) s)
 | .seq a b=>rec (.code ro a s) (exK (wSeq rec ro b Q))
 | .cond c a b=>wCond rec ro c a b s Q
 | .block id b=>rec (.code ro b s) (exK (pJg id Q))
 | .loop b=>rec (.code ro b s) (exK (wSeq rec ro (.loop b) Q))
 | .region _ ops draw=>kJs P rec ops.toList draw s Q
 | .scope b=>rec (.scope ro b b s) Q
 | .rangeFunc f params assign body=>vQd rec ro f params assign body s Q
 | .refuse _=>False
def vJk(hk:Hook)(t:Task)(Q:Res→Prop):Prop:=
 match t with
 | .code ro c s=>cJy P rec ro c s Q
 | .scope ro b c s=>rec (.code ro c s) (exK (wJ9 rec ro b Q))
 | .call f args w=>yJl P rec hk f args w Q
 | .yield l args w=>vQc rec l args w Q
end wp
end Go.Sx
/-! Regions whose order is open, planned ahead: what stands statically is looked at once. -/
namespace Go.Sx
inductive GD where
 | always | never
 | tmp (d:Nat) (want:Bool)
def gdOf(ops:List Oper):Option (Nat×Bool)→GD
  | none=> .always
  | some (j,want)=>match(ops[j]?).bind (·.dst)with
    | some d=> .tmp d want
    | none=> .never
def gdOk(tmps:Tm):GD→Bool
  | .always=>true
  | .never=>false
  | .tmp d want=>match tmps[d]? with
    | some (.bool b)=>b==want
    | _=>false
inductive QI where
 | pu (g:GD) (o:Oper)
 | rd (g:GD) (o:Oper) (i:Nat) (keep:Bool)
 | mk (g:GD) (o:Oper)
inductive Plan where
 | done (q:List QI) (chk:Bool)
 | eff (q:List QI) (chk:Bool) (g:GD) (o:Oper) (i bfi:Nat) (next:Plan)
 | bad
section plan
variable(P:Program)(ops:List Oper)(bf:List Nat)
def qSel:List (Oper×Nat)→List Bool→List (Oper×Nat)×List Bool
  | [],don=>([],don)
  | (o,i)::rest,don=>
    if don.getD i true=true∨opKd P o.op= .eff∨xJu i (bf.getD i 0) don=false then qSel rest don
    else((o,i)::(qSel rest (don.set i true)).1,(qSel rest (don.set i true)).2)
def hasMake(q:List (Oper×Nat)):Bool:=q.any fun x=>match opKd P x.1.op with | .make=>true | _=>false
def aJr(mkAll:Bool)(nx:Option Nat)(i:Nat):Bool:=mkAll || match nx with | none=>false | some bfi=>!(bfi.testBit i)
def qiOf(mkAll:Bool)(nx:Option Nat)(x:Oper×Nat):QI:=
 match opKd P x.1.op with
 | .read=> .rd (gdOf ops x.1.guard) x.1 x.2 (aJr mkAll nx x.2)
 | .make=> .mk (gdOf ops x.1.guard) x.1
 | _=> .pu (gdOf ops x.1.guard) x.1
def kJc:Nat→List Bool→Plan
  | 0,_=> .bad
  | n+1,don=>
    let s:=qSel P bf ops.zipIdx don
    let mk:=hasMake P s.1
    match(ops.zipIdx.zip s.2).find? (fun x=>!x.2)with
    | none=> .done (s.1.map (qiOf P ops mk none)) mk
    | some ((o,i),_)=>
      if xJu i (bf.getD i 0) s.2=true then
        .eff (s.1.map (qiOf P ops mk (some (bf.getD i 0)))) mk (gdOf ops o.guard) o i (bf.getD i 0) (kJc n (s.2.set i true))
      else .bad
end plan
def cJi(P:Program)(ops:List Oper):Plan:=bif kJm P ops then kJc P ops (before ops) (ops.length+1) (List.replicate ops.length false)else .bad
section wp
variable(P:Program)(rec:Task→(Res→Prop)→Prop)
def wQ:List QI→List Rd→Tm→AW→(List Rd→Tm→AW→Prop)→Prop
 | [],rds,tmps,w,K=>K rds tmps w
 | .pu g o::r,rds,tmps,w,K=>bif gdOk tmps g then∃v,qJ7 P w tmps o.op=some v∧wQ r rds (putT tmps o.dst v) w K else wQ r rds (putT tmps o.dst undef) w K
 | .rd g o i keep::r,rds,tmps,w,K=>bif gdOk tmps g then∃v,qJ7 P w tmps o.op=some v∧wQ r (bif keep then⟨i,v,tmps⟩::rds else rds) (putT tmps o.dst v) w K else wQ r rds (putT tmps o.dst undef) w K
 | .mk g o::r,rds,tmps,w,K=>bif gdOk tmps g then∃x,zJj P w tmps o.op=some x∧wQ r rds (putT tmps o.dst x.1) (w.push x.2) K else wQ r rds (putT tmps o.dst undef) w K
def cJw(ops:List Oper)(w:AW)(rds:List Rd):Prop:=∀r∈rds,xJ8 P ops w r
def vJy(ops:List Oper):Plan→List Rd→Tm→AW→(Tm→AW→Prop)→Prop
 | .bad,_,_,_,_=>False
 | .done q chk,rds,tmps,w,K=>(chk=false→cJw P ops w rds)∧wQ P q rds tmps w fun rds' tmps' w'=>(chk=true→cJw P ops w' rds')∧K tmps' w'
 | .eff q chk g o i bfi next,rds,tmps,w,K=>(chk=false→cJw P ops w rds)∧wQ P q rds tmps w fun rds' tmps' w'=>(chk=true→cJw P ops w' rds')∧
   bif gdOk tmps' g then wOp P rec w' tmps' o.op fun v w''=>vJy ops next (rds'.filter fun r=>!(bfi.testBit r.i)) (putT tmps' o.dst v) w'' K
   else vJy ops next (rds'.filter fun r=>!(bfi.testBit r.i)) (putT tmps' o.dst undef) w' K
end wp
section
variable {P:Program}{rec:Task→(Res→Prop)→Prop}{ops:List Oper}{bf:List Nat}
theorem bJw(tmps:Tm)(g:Option (Nat×Bool)):gdOk tmps (gdOf ops g)=zJc ops tmps g:=by
  cases g with
  | none=>rfl
  | some x=>
    obtain⟨j,want⟩:=x;simp only[gdOf,zJc,dJe];cases(ops[j]?).bind (·.dst)<;>rfl
theorem yJo {o:Op}(h:opKd P o= .pure){w:AW}{tmps:Tm}{v:AV}(hv:qJ7 P w tmps o=some v):qJp P w tmps o=some (v,w):=by
 unfold qJp;rw[h];simp[hv]
theorem yJn {o:Op}(h:opKd P o= .read){w:AW}{tmps:Tm}{v:AV}(hv:qJ7 P w tmps o=some v):qJp P w tmps o=some (v,w):=by
 unfold qJp;rw[h];simp[hv]
theorem yJp {o:Op}(h:opKd P o= .make){w:AW}{tmps:Tm}{x:AV×AO}(hv:zJj P w tmps o=some x):qJp P w tmps o=some (x.1,w.push x.2):=by
 unfold qJp;rw[h];simp[hv]
theorem cJx {mkAll:Bool}{nx:Option Nat}:∀(l:List (Oper×Nat)) (don:List Bool) (R S:List Rd) (tmps:Tm) (w:AW) (K:List Rd→Tm→AW→Prop),
    (∀x∈l,ops[x.2]? =some x.1)→(hasMake P (qSel P bf l don).1=true→mkAll=true)→
    wQ P ((qSel P bf l don).1.map (qiOf P ops mkAll nx)) S tmps w K→(∀r∈R,r∈S∨(mkAll=false∧xJ8 P ops w r∧∀bfi,nx=some bfi→bfi.testBit r.i=true))→
    ∃R' S' tmps' w',xJd P ops bf l don R tmps w=some ((qSel P bf l don).2,R',tmps',w')∧K S' tmps' w'∧(mkAll=false→w'=w)∧
      (∀r∈R',r∈S'∨(mkAll=false∧xJ8 P ops w r∧∀bfi,nx=some bfi→bfi.testBit r.i=true))∧(∀r∈S',r∈S∨(mkAll=false→xJ8 P ops w r))∧(∀r∈S,r∈S')
  | [],don,R,S,tmps,w,K,_,_,h,hRS=>⟨R,S,tmps,w,rfl,h,fun _=>rfl,hRS,fun r hr=> .inl hr,fun r hr=>hr⟩
  | (o,i)::l,don,R,S,tmps,w,K,hl,hm,h,hRS=>by
    have hl':∀x∈l,ops[x.2]? =some x.1:=fun x hx=>hl x (yQq _ hx);have hoi:ops[i]? =some o:=hl (o,i) yQu;unfold qSel at h hm ⊢;unfold xJd;split
    · rename_i hc
      rw[if_pos hc]at h hm;exact cJx l don R S tmps w K hl' hm h hRS
    · rename_i hc
      rw[if_neg hc]at h hm;simp only[List.map_cons]at h;have hm':hasMake P (qSel P bf l (don.set i true)).1=true→mkAll=true:=fun hx=>hm (by
        unfold hasMake at hx ⊢;rw[List.any_cons,hx,Bool.or_true])
      have hne:opKd P o.op≠ .eff:=fun hx=>hc (.inr (.inl hx))
      -- what is not carried out
      have skip:wQ P ((qSel P bf l (don.set i true)).1.map (qiOf P ops mkAll nx)) S (putT tmps o.dst undef) w K→zJc ops tmps o.guard=false→
          ∃R' S' tmps' w',(if zJc ops tmps o.guard=true then
            (qJp P w tmps o.op).bind fun x=>xJd P ops bf l (don.set i true) (if opKd P o.op= .read then⟨i,x.1,tmps⟩::R else R) (putT tmps o.dst x.1) x.2
            else xJd P ops bf l (don.set i true) R (putT tmps o.dst undef) w)=some ((qSel P bf l (don.set i true)).2,R',tmps',w')∧K S' tmps' w'∧(mkAll=false→w'=w)∧
            (∀r∈R',r∈S'∨(mkAll=false∧xJ8 P ops w r∧∀bfi,nx=some bfi→bfi.testBit r.i=true))∧(∀r∈S',r∈S∨(mkAll=false→xJ8 P ops w r))∧(∀r∈S,r∈S'):=fun h hg=>by
        rw[hg,if_neg (by simp)];exact cJx l _ R S _ w K hl' hm' h hRS
      generalize hq:qiOf P ops mkAll nx (o,i)=qi at h;unfold qiOf at hq;split at hq
      · rename_i hk
        subst hq;simp only[wQ,bJw]at h
        cases hg:zJc ops tmps o.guard with
        | false=>rw[hg]at h;have:=skip h hg;rw[hg]at this;exact this
        | true=>
          rw[hg]at h;obtain⟨v,hv,h⟩:=h;rw[if_pos rfl,yJn hk hv];simp only[Option.bind_some,hk,if_true];have hsame:xJ8 P ops w ⟨i,v,tmps⟩:=⟨o,hoi,hv⟩
          -- kept, or of no more account
          cases hkp:aJr mkAll nx i with
          | true=>
            rw[hkp]at h;obtain⟨R',S',tmps',w',h1,h2,h3,h4,h5,h6⟩:=cJx l _ (⟨i,v,tmps⟩::R) (⟨i,v,tmps⟩::S) _ w K hl' hm' h (fun r hr=>by
              rcases yQw.1 hr with rfl | hr
              · exact .inl yQu
              · exact(hRS r hr).imp (yQq _) id)
            refine⟨R',S',tmps',w',h1,h2,h3,h4,fun r hr=>?_,fun r hr=>h6 r (yQq _ hr)⟩;rcases h5 r hr with h5 | h5
            · rcases yQw.1 h5 with rfl | h5
              · exact .inr fun _=>hsame
              · exact .inl h5
            · exact .inr h5
          | false=>
            rw[hkp]at h;simp only[aJr,Bool.or_eq_false_iff]at hkp;have hmf:=hkp.1;refine cJx l _ (⟨i,v,tmps⟩::R) S _ w K hl' hm' h fun r hr=>?_;rcases yQw.1 hr with rfl | hr
            · refine .inr ⟨hmf,hsame,fun bfi hb=>?_⟩
              have h2:=hkp.2;rw[hb]at h2;simpa using h2
            · exact hRS r hr
      · rename_i hk
        subst hq;simp only[wQ,bJw]at h
        cases hg:zJc ops tmps o.guard with
        | false=>rw[hg]at h;have:=skip h hg;rw[hg]at this;exact this
        | true=>
          rw[hg]at h;obtain⟨x,hx,h⟩:=h;have hmt:mkAll=true:=hm (by unfold hasMake;rw[List.any_cons];simp only[hk,Bool.true_or]);rw[if_pos rfl,yJp hk hx];simp only[Option.bind_some,hk];rw[if_neg (by decide)];obtain⟨R',S',tmps',w',h1,h2,h3,h4,h5,h6⟩:=cJx l _ R S _ _ K hl' hm' h fun r hr=>(hRS r hr).imp id fun h=>absurd h.1 (by simp[hmt]);refine⟨R',S',tmps',w',h1,h2,fun hf=>absurd hf (by simp[hmt]),fun r hr=>?_,fun r hr=>?_,h6⟩
          · rcases h4 r hr with h4 | h4
            · exact .inl h4
            · exact absurd h4.1 (by simp[hmt])
          · exact .inr fun hf=>absurd hf (by simp[hmt])
      · rename_i hk1 hk2
        subst hq;simp only[wQ,bJw]at h
        cases hg:zJc ops tmps o.guard with
        | false=>rw[hg]at h;have:=skip h hg;rw[hg]at this;exact this
        | true=>
          rw[hg]at h;obtain⟨v,hv,h⟩:=h;have hk:opKd P o.op= .pure:=by
            cases hh:opKd P o.op with
            | pure=>rfl
            | read=>exact absurd hh hk1
            | make=>exact absurd hh hk2
            | eff=>exact absurd hh hne
          rw[if_pos rfl,yJo hk hv];simp only[Option.bind_some,hk];rw[if_neg (by decide)];exact cJx l _ R S _ w K hl' hm' h hRS
theorem mJu(x:Oper×Nat)(h:x∈ops.zipIdx):ops[x.2]? =some x.1:=by
 obtain⟨o,i⟩:=x;exact List.mem_zipIdx_iff_getElem?.1 h
def wJ7(rec:Task→(Res→Prop)→Prop):Prop:=∀t Q Q',(∀r,Q r→Q' r)→rec t Q→rec t Q'
theorem jJq {K K':AV→AW→Prop}(h:∀v w,K v w→K' v w){x:Option (AV×AW)}:kJ0 K x→kJ0 K' x:=fun⟨v,w,e,hk⟩=>⟨v,w,e,h _ _ hk⟩
theorem gJc(hm:wJ7 rec){K K':AV→AW→Prop}(h:∀v w,K v w→K' v w){w:AW}{args:List AV}{fv:AV}:jJl rec w args K fv→jJl rec w args K' fv:=by
 have hv:∀r,valK K r→valK K' r:=fun r=>by cases r<;>simp only[valK]<;>first | exact h _ _ | exact id
 cases fv<;>simp only[jJl]<;>first | exact hm _ _ _ hv | exact id
theorem vJo(hm:wJ7 rec){K K':AV→AW→Prop}(h:∀v w,K v w→K' v w){w:AW}{tmps:Tm}{o:Op}:wOp P rec w tmps o K→wOp P rec w tmps o K':=by
 unfold wOp;split
 ·unfold xJ6;split
  ·rintro⟨fv,as,h1,h2,h3⟩;exact⟨fv,as,h1,h2,gJc hm h h3⟩
  ·exact jJq h
  ·exact id
 ·unfold vJz;rintro⟨b,h1,h2⟩;refine⟨b,h1,?_⟩;split at h2
  ·exact h _ _ h2
  ·exact h _ _ h2
  ·unfold eJe at h2 ⊢;refine⟨h2.1,?_⟩;have h3:=h2.2;split at h3
   ·exact h _ _ h3
   ·exact fun kv rest' hp=>h _ _ (h3 kv rest' hp)
  ·exact h2
 ·exact jJq h
theorem kJt(hm:wJ7 rec):∀(n:Nat) (don:List Bool) (R S:List Rd) (tmps:Tm) (w:AW) (K:Tm→AW→Prop),
    vJy P rec ops (kJc P ops bf n don) S tmps w K→(∀r∈R,r∈S)→jJo P rec ops bf n don R tmps w K
  | 0,_,_,_,_,_,_,h,_=>h.elim
  | n+1,don,R,S,tmps,w,K,h,hRS=>by
    unfold kJc at h;unfold jJo;have all:∀{nx:Option Nat} {R' S':List Rd} {w':AW},(hasMake P (qSel P bf ops.zipIdx don).1=false→cJw P ops w S)→
        (hasMake P (qSel P bf ops.zipIdx don).1=true→cJw P ops w' S')→(hasMake P (qSel P bf ops.zipIdx don).1=false→w'=w)→
        (∀r∈R',r∈S'∨(hasMake P (qSel P bf ops.zipIdx don).1=false∧xJ8 P ops w r∧∀bfi,nx=some bfi→bfi.testBit r.i=true))→
        (∀r∈S',r∈S∨(hasMake P (qSel P bf ops.zipIdx don).1=false→xJ8 P ops w r))→∀r∈R',xJ8 P ops w' r:=by
      intro nx R' S' w' h1 h2 h3 h4 h5 r hr
      cases hmk:hasMake P (qSel P bf ops.zipIdx don).1 with
      | true=>
        rcases h4 r hr with h | h
        · exact h2 hmk r h
        · exact absurd h.1 (by simp[hmk])
      | false=>
        rw[h3 hmk];rcases h4 r hr with h | h
        · rcases h5 r h with h | h
          · exact h1 hmk r h
          · exact h hmk
        · exact h.2.1
    simp only[]at h;split at h
    · rename_i hf
      simp only[vJy]at h;obtain⟨hs,h⟩:=h;obtain⟨R',S',tmps',w',h1,h2,h3,h4,h5,h6⟩:=cJx _ don R S tmps w _ mJu id h fun r hr=> .inl (hRS r hr);refine⟨_,R',tmps',w',h1,all hs h2.1 h3 h4 h5,?_⟩;simp only[hf];exact h2.2
    · rename_i o i bb hf
      split at h
      · rename_i had
        simp only[vJy]at h;obtain⟨hs,h⟩:=h;obtain⟨R',S',tmps',w',h1,h2,h3,h4,h5,h6⟩:=cJx _ don R S tmps w _ mJu id h fun r hr=> .inl (hRS r hr);refine⟨_,R',tmps',w',h1,all hs h2.1 h3 h4 h5,?_⟩;simp only[hf];refine⟨had,?_⟩;have hfil:∀r∈R'.filter (fun r=>!((bf.getD i 0).testBit r.i)),r∈S'.filter (fun r=>!((bf.getD i 0).testBit r.i)):=fun r hr=>by
          rw[List.mem_filter]at hr ⊢;refine⟨?_,hr.2⟩;rcases h4 r hr.1 with h | h
          · exact h
          · have:=h.2.2 _ rfl
            have h7:=hr.2;simp only[this]at h7;exact absurd h7 (by simp)
        have h2:=h2.2;rw[bJw]at h2
        cases hg:zJc ops tmps' o.guard with
        | true=>
          rw[hg]at h2;rw[if_pos rfl];exact vJo hm (fun v w'' hk=>kJt hm n _ _ _ _ w'' K hk hfil) h2
        | false=>
          rw[hg]at h2;rw[if_neg (by simp)];exact kJt hm n _ _ _ _ _ K h2 hfil
      · exact h.elim
theorem oJ6(hm:wJ7 rec){tmps:Tm}{w:AW}{K:Tm→AW→Prop}(h:vJy P rec ops (cJi P ops) [] tmps w K):zQq P rec ops tmps w K:=by
  unfold cJi at h
  cases hr:kJm P ops with
  | false=>rw[hr]at h;exact h.elim
  | true=>
    rw[hr]at h;exact⟨hr,kJt hm _ _ _ _ _ _ _ h (fun r hr=>hr)⟩
end
end Go.Sx
/-! What is meant is meant of more. -/
namespace Go.Sx
section
variable {P:Program}{rec:Task→(Res→Prop)→Prop}
theorem qJx {K K':zJo→St→Prop}(h:∀e s,K e s→K' e s):∀r,exK K r→exK K' r:=fun r=>by cases r<;>simp only[exK]<;>first | exact h _ _ | exact id
theorem dJn {K K':AV→AW→Prop}(h:∀v w,K v w→K' v w):∀r,valK K r→valK K' r:=fun r=>by cases r<;>simp only[valK]<;>first | exact h _ _ | exact id
theorem kJu(hm:wJ7 rec){K K':Tm→AW→Prop}(h:∀t w,K t w→K' t w){all:List Oper}:∀{l:List Oper} {tmps:Tm} {w:AW},wOps P rec all l tmps w K→wOps P rec all l tmps w K'
  | [],_,_=>h _ _
  | o::l,tmps,w=>by
    simp only[wOps];split
    · exact vJo hm fun v w'=>kJu hm h
    · exact kJu hm h
theorem vJn(hm:wJ7 rec){K K':Tm→AW→Prop}(h:∀t w,K t w→K' t w){ops:List Oper}{bf:List Nat}:∀{n:Nat} {don:List Bool} {rds:List Rd} {tmps:Tm} {w:AW},
    jJo P rec ops bf n don rds tmps w K→jJo P rec ops bf n don rds tmps w K'
  | 0,_,_,_,_=>id
  | n+1,don,rds,tmps,w=>by
    simp only[jJo];rintro⟨don',rds',tmps',w',h1,h2,h3⟩;refine⟨don',rds',tmps',w',h1,h2,?_⟩;split at h3
    · exact h _ _ h3
    · refine⟨h3.1,?_⟩
      have h4:=h3.2;split at h4
      · rename_i hw;rw[if_pos hw];exact vJo hm (fun v w''=>vJn hm h) h4
      · rename_i hw;rw[if_neg hw];exact vJn hm h h4
theorem cJv(hm:wJ7 rec){Q Q':Res→Prop}(h:∀r,Q r→Q' r){ro:Option Nat}{b:Code}:∀e s,wSeq rec ro b Q e s→wSeq rec ro b Q' e s:=fun e s=>by
 cases e<;>simp only[wSeq]<;>first | exact hm _ _ _ h | exact h _
theorem dJm {Q Q':Res→Prop}(h:∀r,Q r→Q' r){id:Nat}:∀e s,pJg id Q e s→pJg id Q' e s:=fun e s=>by
 cases e<;>simp only[pJg]<;>try exact h _
 split<;>exact h _
theorem nJn(hm:wJ7 rec){Q Q':Res→Prop}(h:∀r,Q r→Q' r){ro:Option Nat}{b:Code}:∀e s,wJ9 rec ro b Q e s→wJ9 rec ro b Q' e s:=fun e s=>by
 cases e<;>simp only[wJ9]<;>try exact h _
 split<;>first | exact hm _ _ _ h | exact h _
theorem hJ7(hm:wJ7 rec){Q Q':Res→Prop}(h:∀r,Q r→Q' r){ro:Option Nat}{l:Nat}{tmps:Tm}{defers:List Nat}{w:AW}:gJb rec ro l tmps defers w Q→gJb rec ro l tmps defers w Q':=by
 rintro⟨r,h1,h2,h3⟩;refine⟨r,h1,h2,?_⟩;split at h3
 ·exact h _ h3
 ·exact hm _ _ _ h h3
theorem oJ7(hm:wJ7 rec){Q Q':Res→Prop}(h:∀r,Q r→Q' r){ro:Option Nat}{c:Code}{s:St}:cJy P rec ro c s Q→cJy P rec ro c s Q':=by
 cases c<;>simp only[cJy]<;>try exact h _
 case seq a b=>exact hm _ _ _ (qJx (cJv hm h))
 case cond c a b=>rintro⟨t,h1,h2⟩;exact⟨t,h1,hm _ _ _ h h2⟩
 case block id b=>exact hm _ _ _ (qJx (dJm h))
 case loop b=>exact hm _ _ _ (qJx (cJv hm h))
 case region id ops draw=>
  cases draw with
  | true=>rintro⟨h1,h2⟩;exact⟨h1,vJn hm (fun t w=>h _) h2⟩
  | false=>exact kJu hm fun t w=>h _
 case scope b=>exact hm _ _ _ h
 case rangeFunc f params assign body=>
  rintro⟨d,defers,w,fv,h1,h2,h3⟩;exact⟨d,defers,w,fv,h1,h2,gJc hm (fun _ w'=>hJ7 hm h) h3⟩
 all_goals exact id
theorem oJ5(hm:wJ7 rec){hk:Hook}:wJ7 (vJk P rec hk):=by
  intro t Q Q' h
  cases t with
  | code ro c s=>exact oJ7 hm h
  | scope ro b c s=>exact hm _ _ _ (qJx (nJn hm h))
  | call f args w=>
    simp only[vJk,yJl]
    cases hk f args w with
    | some r=>exact jJq fun v w=>h _
    | none=>
      rintro⟨fn,hf,hw⟩;refine⟨fn,hf,?_⟩;unfold kJv at hw ⊢;split at hw
      · refine hm _ _ _ (qJx fun e s=>?_) hw
        rintro⟨h1,w,vs,h2,h3,h4⟩;exact⟨h1,w,vs,h2,h3,h _ h4⟩
      · exact jJq (fun v w=>h _) hw
  | yield l args w=>
    rintro⟨r,h1,h2,h3⟩;refine⟨r,h1,h2,hm _ _ _ (qJx fun e s=>?_) h3⟩;rintro⟨h1,r,h2,h3,h4⟩;refine⟨h1,r,h2,h3,hm _ _ _ (qJx fun e s=>?_) h4⟩;rintro⟨r,h1,h2⟩;exact⟨r,h1,h _ h2⟩
end
end Go.Sx
/-! The meaning, without levels: the least that the program's text makes. -/
namespace Go.Sx
section
variable {P:Program}{rec rec':Task→(Res→Prop)→Prop}
def yJj(rec rec':Task→(Res→Prop)→Prop):Prop:=∀t Q Q',(∀r,Q r→Q' r)→rec t Q→rec' t Q'
theorem dJl(hm:yJj rec rec'){K K':AV→AW→Prop}(h:∀v w,K v w→K' v w){w:AW}{args:List AV}{fv:AV}:jJl rec w args K fv→jJl rec' w args K' fv:=by
 have hv:∀r,valK K r→valK K' r:=fun r=>by cases r<;>simp only[valK]<;>first | exact h _ _ | exact id
 cases fv<;>simp only[jJl]<;>first | exact hm _ _ _ hv | exact id
theorem vQe(hm:yJj rec rec'){K K':AV→AW→Prop}(h:∀v w,K v w→K' v w){w:AW}{tmps:Tm}{o:Op}:wOp P rec w tmps o K→wOp P rec' w tmps o K':=by
 unfold wOp;split
 ·unfold xJ6;split
  ·rintro⟨fv,as,h1,h2,h3⟩;exact⟨fv,as,h1,h2,dJl hm h h3⟩
  ·exact jJq h
  ·exact id
 ·unfold vJz;rintro⟨b,h1,h2⟩;refine⟨b,h1,?_⟩;split at h2
  ·exact h _ _ h2
  ·exact h _ _ h2
  ·unfold eJe at h2 ⊢;refine⟨h2.1,?_⟩;have h3:=h2.2;split at h3
   ·exact h _ _ h3
   ·exact fun kv rest' hp=>h _ _ (h3 kv rest' hp)
  ·exact h2
 ·exact jJq h
theorem nJo(hm:yJj rec rec'){K K':Tm→AW→Prop}(h:∀t w,K t w→K' t w){all:List Oper}:∀{l:List Oper} {tmps:Tm} {w:AW},wOps P rec all l tmps w K→wOps P rec' all l tmps w K'
  | [],_,_=>h _ _
  | o::l,tmps,w=>by
    simp only[wOps];split
    · exact vQe hm fun v w'=>nJo hm h
    · exact nJo hm h
theorem gJ9(hm:yJj rec rec'){K K':Tm→AW→Prop}(h:∀t w,K t w→K' t w){ops:List Oper}{bf:List Nat}:∀{n:Nat} {don:List Bool} {rds:List Rd} {tmps:Tm} {w:AW},
    jJo P rec ops bf n don rds tmps w K→jJo P rec' ops bf n don rds tmps w K'
  | 0,_,_,_,_=>id
  | n+1,don,rds,tmps,w=>by
    simp only[jJo];rintro⟨don',rds',tmps',w',h1,h2,h3⟩;refine⟨don',rds',tmps',w',h1,h2,?_⟩;split at h3
    · exact h _ _ h3
    · refine⟨h3.1,?_⟩
      have h4:=h3.2;split at h4
      · rename_i hw;rw[if_pos hw];exact vQe hm (fun v w''=>gJ9 hm h) h4
      · rename_i hw;rw[if_neg hw];exact gJ9 hm h h4
theorem eJb(hm:yJj rec rec'){Q Q':Res→Prop}(h:∀r,Q r→Q' r){ro:Option Nat}{b:Code}:∀e s,wSeq rec ro b Q e s→wSeq rec' ro b Q' e s:=fun e s=>by
 cases e<;>simp only[wSeq]<;>first | exact hm _ _ _ h | exact h _
theorem eJc(hm:yJj rec rec'){Q Q':Res→Prop}(h:∀r,Q r→Q' r){ro:Option Nat}{b:Code}:∀e s,wJ9 rec ro b Q e s→wJ9 rec' ro b Q' e s:=fun e s=>by
 cases e<;>simp only[wJ9]<;>try exact h _
 split<;>first | exact hm _ _ _ h | exact h _
theorem nJp(hm:yJj rec rec'){Q Q':Res→Prop}(h:∀r,Q r→Q' r){ro:Option Nat}{l:Nat}{tmps:Tm}{defers:List Nat}{w:AW}:gJb rec ro l tmps defers w Q→gJb rec' ro l tmps defers w Q':=by
 rintro⟨r,h1,h2,h3⟩;refine⟨r,h1,h2,?_⟩;split at h3
 ·exact h _ h3
 ·exact hm _ _ _ h h3
theorem zQr(hm:yJj rec rec'){Q Q':Res→Prop}(h:∀r,Q r→Q' r){ro:Option Nat}{c:Code}{s:St}:cJy P rec ro c s Q→cJy P rec' ro c s Q':=by
 cases c<;>simp only[cJy]<;>try exact h _
 case seq a b=>exact hm _ _ _ (qJx (eJb hm h))
 case cond c a b=>rintro⟨t,h1,h2⟩;exact⟨t,h1,hm _ _ _ h h2⟩
 case block id b=>exact hm _ _ _ (qJx (dJm h))
 case loop b=>exact hm _ _ _ (qJx (eJb hm h))
 case region id ops draw=>
  cases draw with
  | true=>rintro⟨h1,h2⟩;exact⟨h1,gJ9 hm (fun t w=>h _) h2⟩
  | false=>exact nJo hm fun t w=>h _
 case scope b=>exact hm _ _ _ h
 case rangeFunc f params assign body=>
  rintro⟨d,defers,w,fv,h1,h2,h3⟩;exact⟨d,defers,w,fv,h1,h2,dJl hm (fun _ w'=>nJp hm h) h3⟩
 all_goals exact id
theorem tJp(hm:yJj rec rec'){hk:Hook}:yJj (vJk P rec hk) (vJk P rec' hk):=by
  intro t Q Q' h
  cases t with
  | code ro c s=>exact zQr hm h
  | scope ro b c s=>exact hm _ _ _ (qJx (eJc hm h))
  | call f args w=>
    simp only[vJk,yJl]
    cases hk f args w with
    | some r=>exact jJq fun v w=>h _
    | none=>
      rintro⟨fn,hf,hw⟩;refine⟨fn,hf,?_⟩;unfold kJv at hw ⊢;split at hw
      · refine hm _ _ _ (qJx fun e s=>?_) hw
        rintro⟨h1,w,vs,h2,h3,h4⟩;exact⟨h1,w,vs,h2,h3,h _ h4⟩
      · exact jJq (fun v w=>h _) hw
  | yield l args w=>
    rintro⟨r,h1,h2,h3⟩;refine⟨r,h1,h2,hm _ _ _ (qJx fun e s=>?_) h3⟩;rintro⟨h1,r,h2,h3,h4⟩;refine⟨h1,r,h2,h3,hm _ _ _ (qJx fun e s=>?_) h4⟩;rintro⟨r,h1,h2⟩;exact⟨r,h1,h _ h2⟩
end
def wpL(P:Program)(hk:Hook)(t:Task)(Q:Res→Prop):Prop:=∀rec,wJ7 rec→(∀t Q,vJk P rec hk t Q→rec t Q)→rec t Q
theorem qJu {P:Program}{hk:Hook}:wJ7 (wpL P hk):=fun t Q Q' h hw rec hm hc=>hm t Q Q' h (hw rec hm hc)
theorem qJy {P:Program}{hk:Hook}{t:Task}{Q:Res→Prop}(h:vJk P (wpL P hk) hk t Q):wpL P hk t Q:=fun rec hm hc=>
 hc t Q (tJp (rec:=wpL P hk) (rec':=rec) (fun t Q Q' hq hw=>hm t Q Q' hq (hw rec hm hc)) t Q Q (fun _ h=>h) h)
end Go.Sx
