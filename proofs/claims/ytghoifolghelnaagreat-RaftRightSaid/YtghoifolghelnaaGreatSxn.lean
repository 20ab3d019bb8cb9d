/-
 The meaning of a function's code as a formula,step by step,and that the formula is enough.
 No condition beyond those that each theorem names.
-/
import Derived.Test.YtghoifolghelnaaGreatSxk
set_option linter.unusedVariables false
set_option linter.unusedSimpArgs false
/-! The meaning of a function's code as a formula: what is to be shown of memory, step by step. Joins and loops look at live temporaries alone. -/
namespace Go.Sx
/-! ### Words of the formulas -/
abbrev ii (x : Int) : AV := .int .i64 x
def onM {α : Type} (x : Option α) (K : α → Prop) : Prop := match x with | some v => K v | none => False
def onE (x : Option (AV × AW)) (K : AV → AW → Prop) : Prop := match x with | some p => K p.1 p.2 | none => False
def ifT (b : Bool) (A B : Prop) : Prop := match b with | true => A | false => B
def gd (b : Bool) (A : Prop) : Prop := match b with | true => A | false => False
def onP (v : AV) (K : Nat → Nat → Prop) : Prop := match v with | .ptr b o => K b o | _ => False
def onB (v : AV) (K : Bool → Prop) : Prop := match v with | .bool b => K b | _ => False
def onS (v : AV) (K : List UInt8 → Prop) : Prop := match v with | .str s => K s | _ => False
def onA (v : AV) (K : List AV → Prop) : Prop := match v with | .agg cs => K cs | _ => False
def atP (x : Option AV) (K : Nat → Nat → Prop) : Prop := match x with | some v => onP v K | none => False
def be {α : Type} (x : α) (K : α → Prop) : Prop := K x
def new (w : AW) (cs : List AV) (K : Nat → AW → Prop) : Prop := K w.size (newCells w cs)
def join (J : List AV → AW → Prop) (F : (List AV → AW → Prop) → Prop) : Prop := F J
def loopP (l : List AV) (w : AW) (F : (List AV → AW → Prop) → List AV → AW → Prop) : Prop := ∀ R : List AV → AW → Prop,(∀ l w,F R l w → R l w) → R l w
theorem onM_iff {α : Type} {x : Option α} {K : α → Prop} : onM x K ↔ ∃ v,x = some v ∧ K v := by cases x <;> simp [onM]
theorem onE_iff {x : Option (AV × AW)} {K : AV → AW → Prop} : onE x K ↔ ∃ v w,x = some (v,w) ∧ K v w := by
 cases x with
 | none => simp [onE]
 | some p => exact ⟨fun h => ⟨p.1,p.2,rfl,h⟩,fun ⟨a,b,e,h⟩ => by cases e; exact h⟩
theorem ifT_iff {b : Bool} {A B : Prop} : ifT b A B ↔ (b = true → A) ∧ (b = false → B) := by cases b <;> simp [ifT]
theorem gd_iff {b : Bool} {A : Prop} : gd b A ↔ b = true ∧ A := by cases b <;> simp [gd]
theorem onP_iff {v : AV} {K : Nat → Nat → Prop} : onP v K ↔ ∃ b o,v = .ptr b o ∧ K b o := by
 cases v <;> simp only [onP] <;> first | exact ⟨fun h => ⟨_,_,rfl,h⟩,fun ⟨_,_,e,h⟩ => by cases e; exact h⟩ | exact ⟨False.elim,fun ⟨_,_,e,_⟩ => by cases e⟩
theorem onB_iff {v : AV} {K : Bool → Prop} : onB v K ↔ ∃ b,v = .bool b ∧ K b := by cases v <;> simp [onB]
theorem onS_iff {v : AV} {K : List UInt8 → Prop} : onS v K ↔ ∃ s,v = .str s ∧ K s := by cases v <;> simp [onS]
theorem onA_iff {v : AV} {K : List AV → Prop} : onA v K ↔ ∃ cs,v = .agg cs ∧ K cs := by cases v <;> simp [onA]
theorem atP_iff {x : Option AV} {K : Nat → Nat → Prop} : atP x K ↔ ∃ b o,x = some (.ptr b o) ∧ K b o := by
 cases x with
 | none => simp [atP]
 | some v => simp [atP,onP_iff]
/-! ### Shapes of values -/
inductive Sc where | int (k : IntKind) | bool | str | ptr | opq
inductive Sh where | sc (s : Sc) | agg (cs : List Sc)
inductive TSh where | sh (s : Sh) | tup (l : List Sh)
def exSc (s : Sc) (K : AV → Prop) : Prop :=
 match s with
 | .int k => ∃ x : Int,K (.int k x)
 | .bool => ∃ b : Bool,K (.bool b)
 | .str => ∃ s : List UInt8,K (.str s)
 | .ptr => ∃ b o : Nat,K (.ptr b o)
 | .opq => ∃ v : AV,K v
def exScs : List Sc → (List AV → Prop) → Prop
 | [],K => K []
 | s :: r,K => exSc s fun v => exScs r fun vs => K (v :: vs)
def exSh (s : Sh) (K : AV → Prop) : Prop :=
 match s with
 | .sc s => exSc s K
 | .agg cs => exScs cs fun vs => K (.agg vs)
def exShs : List Sh → (List AV → Prop) → Prop
 | [],K => K []
 | s :: r,K => exSh s fun v => exShs r fun vs => K (v :: vs)
theorem exSc_ok {s : Sc} {K : AV → Prop} (h : exSc s K) : ∃ v,K v := by
 cases s <;> simp only [exSc] at h
 ·obtain ⟨x,h⟩ := h; exact ⟨_,h⟩
 ·obtain ⟨x,h⟩ := h; exact ⟨_,h⟩
 ·obtain ⟨x,h⟩ := h; exact ⟨_,h⟩
 ·obtain ⟨x,y,h⟩ := h; exact ⟨_,h⟩
 ·exact h
theorem exScs_ok : ∀ {l : List Sc} {K : List AV → Prop},exScs l K → ∃ v,K v
 | [],_,h => ⟨_,h⟩
 | _ :: _,_,h => by obtain ⟨v,h⟩ := exSc_ok h; obtain ⟨vs,h⟩ := exScs_ok h; exact ⟨_,h⟩
theorem exSh_ok {s : Sh} {K : AV → Prop} (h : exSh s K) : ∃ v,K v := by
 cases s
 ·exact exSc_ok h
 ·obtain ⟨_,h⟩ := exScs_ok h; exact ⟨_,h⟩
theorem exShs_ok : ∀ {l : List Sh} {K : List AV → Prop},exShs l K → ∃ v,K v
 | [],_,h => ⟨_,h⟩
 | _ :: _,_,h => by obtain ⟨v,h⟩ := exSh_ok h; obtain ⟨vs,h⟩ := exShs_ok h; exact ⟨_,h⟩
section shapes
variable (P : Program) (big : Bool)
def scOf (t : TypeId) : Sc :=
 match P.underlying t with
 | some (.int k) => .int k
 | some .bool => .bool
 | some .string => .str
 | _ => .opq
def flatOf : Nat → TypeId → Option (List Sc)
  | 0, _ => none
  | d + 1, t => match P.underlying t with
    | some (.struct fs) => fs.toList.foldr (fun f acc => (flatOf d f.type).bind fun a => acc.map fun b => a ++ b) (some [])
    | some (.array n e) => bif Nat.ble n 4 then (flatOf d e).map fun a => (List.replicate n a).flatten else none
    | _ => some [scOf P t]
def shOf (t : TypeId) : Sh :=
 match P.underlying t with
 | some (.struct _) => match flatOf P 6 t with | some l => bif big && Nat.ble 16 l.length then .sc .opq else .agg l | none => .sc .opq
 | some (.array _ _) => match flatOf P 6 t with | some l => .agg l | none => .sc .opq
 | _ => .sc (scOf P t)
def tshOf (t : TypeId) : TSh :=
 match P.underlying t with
 | some (.tuple ts) => .tup (ts.toList.map (shOf P big))
 | _ => .sh (shOf P big t)
def valTS (s : TSh) (r : AV) (K : AV → Prop) : Prop :=
 match s with
 | .sh (.sc .opq) => K r
 | .sh s => exSh s fun v => r = v ∧ K v
 | .tup l => exShs l fun vs => r = .tup vs ∧ K (.tup vs)
def atTS (s : TSh) (x : Option AV) (K : AV → Prop) : Prop :=
 match s with
 | .sh (.sc .opq) => onM x K
 | .sh s => exSh s fun v => x = some v ∧ K v
 | .tup l => exShs l fun vs => x = some (.tup vs) ∧ K (.tup vs)
def valT (t : TypeId) (r : AV) (K : AV → Prop) : Prop := valTS (tshOf P big t) r K
def atT (t : TypeId) (x : Option AV) (K : AV → Prop) : Prop := atTS (tshOf P big t) x K
theorem valT_ok {t : TypeId} {r : AV} {K : AV → Prop} (h : valT P big t r K) : K r := by
 unfold valT valTS at h
 split at h
 ·exact h
 ·obtain ⟨v,rfl,h⟩ := exSh_ok h; exact h
 ·obtain ⟨v,e,h⟩ := exShs_ok h; rw [e]; exact h
theorem atT_ok {t : TypeId} {x : Option AV} {K : AV → Prop} (h : atT P big t x K) : ∃ v,x = some v ∧ K v := by
 unfold atT atTS at h
 split at h
 ·exact onM_iff.1 h
 ·exact exSh_ok h
 ·obtain ⟨v,h1,h2⟩ := exShs_ok h; exact ⟨_,h1,h2⟩
end shapes
/-! ### Operations, without the program's tables -/
def wi (x : Int) : Int := IntKind.i64.wrap x
def imax (a b : Int) : Int := if b > a then b else a
def imin (a b : Int) : Int := if b < a then b else a
def ld (w : AW) (b o : Nat) : Option AV := (w.cells? b).bind fun cs => cs[o]?
def ldN (n : Nat) (w : AW) (b o : Nat) : Option AV := (w.cells? b).bind fun cs => (takeCells cs o n).map .agg
def idxS (sz : Nat) (x i : AV) : Option AV := (asN i).bind fun k => match x with
 | .ptr _ _ => none
 | .slice b o len _ _ => guardO (Nat.blt k len) (some (.ptr b (o + k * sz)))
 | _ => none
def lenS (x : AV) : Option AV := match x with
 | .str _ => none
 | .nilslice => some (.int .i64 0)
 | .slice _ _ n _ _ => some (.int .i64 n)
 | .nilmap => none
 | .map _ => none
 | _ => none
def slS (sz : Nat) (x : AV) (low high max : Option AV) : Option AV := match x with
 | .str _ => none
 | .nilslice => (boundA 0 high).bind fun h => (boundA 0 low).bind fun l => (boundA 0 max).bind fun m => guardO (okB l h m 0 && (max.isNone || high.isSome)) (some .nilslice)
 | .slice b o len cap ex => (boundA cap max).bind fun m => (boundA len high).bind fun h => (boundA 0 low).bind fun l =>
   guardO (okB l h m cap && okEx ex sz && (max.isNone || high.isSome)) (some (.slice b (o + l * sz) (h - l) (m - l) (if max.isSome then none else ex)))
 | .ptr _ _ => none
 | _ => none
def appS (size bytes : Nat) (w : AW) (s x : AV) : Option (AV × AW) :=
  (srcCells w size x).bind fun (n, new) =>
    bif Nat.beq n 0 then (match s with | .nilslice => some (s, w) | .slice .. => some (s, w) | _ => none) else
    guardO (!Nat.beq size 0 && okSrc x new) (match s with
      | .nilslice => guardO (Nat.ble (n * bytes) room && Nat.blt n (2 ^ 62)) (some (.slice w.size 0 n n (some size), newCells w new))
      | .slice b o len cap ex =>
        bif Nat.ble (len + n) cap then (w.putCells b (o + len * size) new).map fun w' => (.slice b o (len + n) cap ex, w')
        else guardO (Nat.blt ((2 * (len + n) + 1000) * bytes) room && Nat.blt (len + n) (2 ^ 62)) (growA w size b o len cap ex n new)
      | _ => none)
/-! ### Ranges over maps -/
def rangeK (w : AW) (v : AV) (K : Nat → AW → Prop) : Prop := match v with
 | .nilmap => K w.size (w.push (.mapIter none [] 0 [] none))
 | .map r => onM (mapAt w r) fun m => K w.size (w.push (.mapIter (some r) m.1 m.2 m.1 none))
 | _ => False
def nextK (w : AW) (b : Nat) (A : Prop) (B : AV → AV → AW → Prop) : Prop := match w.get b with
  | some (.mapIter none _ _ _ _) => A
  | some (.mapIter (some m) es c rest _) => (∃ es', mapAt w m = some (es', c)) ∧ match rest with
    | [] => A
    | _ => ∀ kv rest', (kv, rest') ∈ picks rest → B kv.1 kv.2 (w.set b (.mapIter (some m) es c rest' (some (.tup [kv.1, kv.2]))))
  | _ => False
def entryK (w : AW) (b : Nat) (K : AV → AV → Prop) : Prop := match w.get b with
 | some (.mapIter (some r) _ c _ (some (.tup [k,v]))) => onM (mapAt w r) fun m => gd (Nat.beq m.2 c) (K k v)
 | _ => False
/-! ### Operations -/
def Cl (P : Program) (hk : Hook) (f : FuncId) (args : List AV) (w : AW) (K : AV → AW → Prop) : Prop := wpL P hk (.call f args w) (valK K)
def Cv (P : Program) (hk : Hook) (fv : AV) (args : List AV) (w : AW) (K : AV → AW → Prop) : Prop :=
 match fv with
 | .func f a b => Cl P hk f (a ++ (args ++ b)) w K
 | .yield l => wpL P hk (.yield l args w) (valK K)
 | _ => False
def cellsK (ag : Bool) (v : AV) (K : List AV → Prop) : Prop :=
 bif ag then onA v fun cs => gd (cs.all okCell) (K cs) else gd (okCell v) (K [v])
def partK (ag : Bool) (v : AV) (K : List AV → Prop) : Prop :=
 bif ag then onA v K else gd (okCell v) (K [v])
theorem cells_one {v : AV} (h : okCell v = true) : v.cells = [v] := by cases v <;> first | rfl | (cases h; done)
theorem cellsK_ok {ag : Bool} {v : AV} {K : List AV → Prop} (h : cellsK ag v K) : v.cells.all okCell = true ∧ K v.cells := by
 cases ag <;> simp only [cellsK,cond_true,cond_false,onA_iff,gd_iff] at h
 ·rw [cells_one h.1]; exact ⟨by simp [h.1],h.2⟩
 ·obtain ⟨cs,rfl,h1,h2⟩ := h; exact ⟨h1,h2⟩
theorem partK_ok {ag : Bool} {v : AV} {K : List AV → Prop} (h : partK ag v K) : K v.cells := by
 cases ag <;> simp only [partK,cond_true,cond_false,onA_iff,gd_iff] at h
 ·rw [cells_one h.1]; exact h.2
 ·obtain ⟨cs,rfl,h2⟩ := h; exact h2
def fillK (ck : Bool → AV → (List AV → Prop) → Prop) (place : Nat → Option (Nat × Nat × Bool)) : List AV → List (Nat × AV) → (List AV → Prop) → Prop
 | cells,[],K => K cells
 | cells,(i,v) :: r,K => onM (place i) fun p => ck p.2.2 v fun cs => gd (Nat.beq cs.length p.2.1 && Nat.ble (p.1 + p.2.1) cells.length) (fillK ck place (listPut cells p.1 cs) r K)
section ops
variable (P : Program) (hk : Hook) (big : Bool)
def evK (tmps : Tm) (x : Operand) (K : AV → Prop) : Prop := onM (evalO tmps x) K
def isConst' : Operand → Bool
 | .const _ => true
 | _ => false
inductive Cls where | now | told | addr | un
def clsOf (o : Op) : Cls :=
  match o with
  | .move _ => .now | .assign _ => .now
  | .binOp op t _ y _ => match P.underlying t with
    | some (.int _) => match op with
      | .quo | .rem | .shl | .shr => bif isConst' y then .now else .told
      | _ => .now
    | some .string => match op with
      | .add => .told
      | _ => .now
    | some .bool => .now
    | _ => .told
  | .unOp .. => .now
  | .convert s _ _ => match P.underlying s with
    | some (.int _) => .now
    | _ => .told
  | .makeInterface .. => .now | .makeFunc .. => .now
  | .extract .. => .now
  | .field t _ _ => match flatOf P 6 t with
    | some _ => .now
    | none => .told
  | .sliceToArrayPointer .. => .addr
  | .index .. => .told | .slice .. => .told | .lookup .. => .told | .typeAssert .. => .told
  | .indexAddr .. => .addr
  | _ => .un
def aggT (t : TypeId) : Bool := match isAgg P t with | some b => b | none => false
def placesS (fs : Array Field) : List (Nat × Nat × Bool) := fs.toList.map fun f => (f.offset,(szOf P f.type).getD 0,aggT P f.type)
def builtS (tmps : Tm) (w : AW) (c : Call) (ty : TypeId) (b : Builtin) (K : AV → AW → Prop) : Prop :=
  match b with
  | .len => match (c.argTypes[0]?).bind P.underlying with
    | some (.slice _) => atT P big ty (pureCall P w tmps c) fun v => K v w
    | some (.map _ _) => atT P big ty (pureCall P w tmps c) fun v => K v w
    | _ => onM (pureCall P w tmps c) fun v => K v w
  | .cap => atT P big ty (pureCall P w tmps c) fun v => K v w
  | .min => onM (pureCall P w tmps c) fun v => K v w
  | .max => onM (pureCall P w tmps c) fun v => K v w
  | .append => onE (effCall P w tmps c) K
  | .copy => onE (effCall P w tmps c) K
  | .delete => onE (effCall P w tmps c) K
  | .clear => onE (effCall P w tmps c) K
  | _ => False
def callS (tmps : Tm) (w : AW) (c : Call) (ty : TypeId) (K : AV → AW → Prop) : Prop :=
 match c.callee with
 | .value f => evK tmps f fun fv => onM (evalOs tmps c.args.toList) fun as => Cv P hk fv as w fun r w' => valT P big ty r fun v => K v w'
 | .builtin b => builtS P big tmps w c ty b K
 | .invoke .. => False
def opS (tmps : Tm) (w : AW) (o : Op) (ty : TypeId) (K : AV → AW → Prop) : Prop :=
  match o with
  | .call c => callS P hk big tmps w c ty K
  | .pick c a b => evK tmps c fun v => onB v fun t => ifT t (evK tmps a fun x => K x w) (evK tmps b fun x => K x w)
  | .nilCheck x => evK tmps x fun v => onP v fun b o => K (.ptr b o) w
  | .fieldAddr s x f => evK tmps x fun v => onP v fun b o => atP (fieldAddrA P s f (.ptr b o)) fun b o => K (.ptr b o) w
  | .load t a => evK tmps a fun v => onP v fun b o => atT P big t (loadA P w t b o) fun v => K v w
  | .store t a x => evK tmps a fun v => onP v fun b o => evK tmps x fun v => cellsK (aggT P t) v fun cs => gd (match szOf P t with | some n => Nat.beq cs.length n | none => false) (onM (w.putCells b o cs) fun w' => K undef w')
  | .build t ps => onM (zeroOf P t) fun z => onM (partsO tmps ps) fun ps => match P.underlying t with
    | some (.struct fs) => gd (fs.toList.all fun f => (P.info? f.type).isSome) (fillK partK ((placesS P fs)[·]?) z.cells ps fun cs => K (.agg cs) w)
    | some (.array _ e) => onM (szOf P e) fun s => fillK partK (fun i => some (i * s, s, aggT P e)) z.cells ps fun cs => K (.agg cs) w
    | _ => False
  | .buildSlice t len ps => onM (elemOf P t) fun e => onM (szOf P e) fun s => onM (zeroOf P e) fun z => onM (partsO tmps ps) fun ps =>
      gd (Nat.ble (len * s) 65536 && z.cells.all okCell) (fillK cellsK (fun i => some (i * s, s, aggT P e)) (repl len z.cells) ps fun cs => K (.slice w.size 0 len len none) (newCells w cs))
  | .alloc t => onM (zeroOf P t) fun z => gd (z.cells.all okCell) (K (.ptr w.size 0) (newCells w z.cells))
  | .box t x => evK tmps x fun v => cellsK (aggT P t) v fun cs => K (.ptr w.size 0) (newCells w cs)
  | .makeMap _ none => K (.map w.size) (w.push (.map [] 0))
  | .makeSlice t l c => onM (elemOf P t) fun e => evK tmps l fun l => evK tmps c fun c => onM (asN l) fun l => onM (asN c) fun c => onM (zeroOf P e) fun z => onM (bytesOf P e) fun bytes =>
      gd (Nat.ble l c && Nat.ble (c * bytes) (2 ^ 47) && Nat.blt c (2 ^ 63) && z.cells.all okCell) (K (.slice w.size 0 l c none) (newCells w (repl c z.cells)))
  | .convert s d x => match convKd P s d with
    | .make => evK tmps x fun v => onS v fun b => onM (elemOf P d) fun e => onM (P.underlying s) fun us => onM (P.underlying e) fun ue => gd (tdString us && tdU8 ue) (K (.slice w.size 0 b.length b.length (some 1)) (newCells w (cellsOfBytes b)))
    | _ => match clsOf P o with
      | .now => onM (pureOp P w tmps o) fun v => K v w
      | _ => atT P big ty (pureOp P w tmps o) fun v => K v w
  | .mapUpdate .. => onE (effOp P w tmps o) K
  | .insert .. => onE (effOp P w tmps o) K
  | .range t x => match (P.underlying t).bind tdMap with
    | some _ => evK tmps x fun v => rangeK w v fun b w' => K (.ptr b 0) w'
    | none => False
  | .next i t => evK tmps i fun v => onP v fun b o => gd (Nat.beq o 0 && !t) (nextK w b (K (.tup [.bool false]) w) fun k v w' => K (.tup [.bool true, k, v]) w')
  | .entry i => evK tmps i fun v => onP v fun b o => gd (Nat.beq o 0) (entryK w b fun k v => K (.tup [k, v]) w)
  | o => match clsOf P o with
    | .now => onM (pureOp P w tmps o) fun v => K v w
    | .told => atT P big ty (pureOp P w tmps o) fun v => K v w
    | .addr => atP (pureOp P w tmps o) fun b o => K (.ptr b o) w
    | .un => False
def inG (gs : List Tmp) : Option Tmp → Bool
 | none => false
 | some d => gs.any fun x => Nat.beq x d
abbrev Gs := List Tmp × List Tmp × List Tmp
def splitB (gs : Gs) (d : Option Tmp) (v : AV) (K : AV → Prop) : Prop :=
 bif inG gs.1 d then onB v fun t => ifT t (K (.bool true)) (K (.bool false)) else
 bif inG gs.2.1 d then onB v fun t => gd t (K (.bool true)) else
 bif inG gs.2.2 d then onB v fun t => gd (!t) (K (.bool false)) else K v
def guardsW (want : Bool) (ops : List Oper) : List Tmp := ops.filterMap fun o => o.guard.bind fun g => bif g.2 == want then (ops[g.1]?).bind (·.dst) else none
def guardsOf (st : Nat) (ops : List Oper) : Gs := match st with
 | 0 => (guardsW false ops ++ guardsW true ops,[],[])
 | 1 => (guardsW false ops,guardsW true ops,[])
 | _ => (guardsW true ops,[],guardsW false ops)
def opsS (all : List Oper) (gs : Gs) : List Oper → Tm → AW → (Tm → AW → Prop) → Prop
  | [], t, w, K => K t w
  | o :: r, t, w, K =>
    bif wantedA all t o.guard then opS P hk big t w o.op o.type fun v w' => splitB gs o.dst v fun v => opsS all gs r (putT t o.dst v) w' K
    else opsS all gs r (putT t o.dst undef) w K
def isKd (k : Kd) (o : Op) (A : Prop) : Prop := match k,opKd P o with
 | .pure,.pure => A
 | .read,.read => A
 | .make,.make => A
 | _,_ => False
def qS (gs : Gs) : List QI → List Rd → Tm → AW → (List Rd → Tm → AW → Prop) → Prop
 | [],rds,t,w,K => K rds t w
 | .pu g o :: r,rds,t,w,K => bif gdOk t g then isKd P .pure o.op (opS P hk big t w o.op o.type fun v w' => splitB gs o.dst v fun v => qS gs r rds (putT t o.dst v) w' K) else qS gs r rds (putT t o.dst undef) w K
 | .rd g o i keep :: r,rds,t,w,K => bif gdOk t g then isKd P .read o.op (opS P hk big t w o.op o.type fun v w' => splitB gs o.dst v fun v => qS gs r (bif keep then ⟨i,v,t⟩ :: rds else rds) (putT t o.dst v) w' K) else qS gs r rds (putT t o.dst undef) w K
 | .mk g o :: r,rds,t,w,K => bif gdOk t g then isKd P .make o.op (opS P hk big t w o.op o.type fun v w' => splitB gs o.dst v fun v => qS gs r rds (putT t o.dst v) w' K) else qS gs r rds (putT t o.dst undef) w K
def sameK (ops : List Oper) (w : AW) : List Rd → Prop → Prop
 | [],A => A
 | r :: rs,A => (match ops[r.i]? with | some o => pureOp P w r.tm o.op = some r.v | none => False) ∧ sameK ops w rs A
def planS (ops : List Oper) (gs : Gs) : Plan → List Rd → Tm → AW → (Tm → AW → Prop) → Prop
  | .bad, _, _, _, _ => False
  | .done q chk, rds, t, w, K => bif chk then qS P hk big gs q rds t w fun rds' t' w' => sameK P ops w' rds' (K t' w') else sameK P ops w rds (qS P hk big gs q rds t w fun _ t' w' => K t' w')
  | .eff q chk g o i bfi next, rds, t, w, K =>
    let rest : List Rd → Tm → AW → Prop := fun rds' t' w' =>
      bif gdOk t' g then opS P hk big t' w' o.op o.type fun v w'' => splitB gs o.dst v fun v => planS ops gs next (rds'.filter fun r => !(bfi.testBit r.i)) (putT t' o.dst v) w'' K
      else planS ops gs next (rds'.filter fun r => !(bfi.testBit r.i)) (putT t' o.dst undef) w' K
    bif chk then qS P hk big gs q rds t w fun rds' t' w' => sameK P ops w' rds' (rest rds' t' w') else sameK P ops w rds (qS P hk big gs q rds t w rest)
def regionS (st : Nat) (ops : List Oper) (draw : Bool) (t : Tm) (w : AW) (K : Tm → AW → Prop) : Prop :=
 match draw with
 | true => planS P hk big ops (guardsOf st ops) (fPlan P ops) [] t w K
 | false => opsS P hk big ops (guardsOf st ops) ops t w K
/-! ### Regions, with what they write kept apart (cheaper to look at) -/
def lookW : List (Nat × AV) → Nat → AV → AV
 | [],_,d => d
 | x :: a,i,d => bif Nat.beq x.1 i then x.2 else lookW a i d
def vT (n : Nat) (a : List (Nat × AV)) (t : Tm) : Tm := (List.range n).map fun i => lookW a i (getT t i)
def putV (a : List (Nat × AV)) (d : Option Tmp) (v : AV) : List (Nat × AV) := match d with
 | some d => (d,v) :: a
 | none => a
def opsV (n : Nat) (all : List Oper) (gs : Gs) (t : Tm) : List Oper → List (Nat × AV) → AW → (Tm → AW → Prop) → Prop
  | [], a, w, K => K (vT n a t) w
  | o :: r, a, w, K =>
    bif wantedA all (vT n a t) o.guard then opS P hk big (vT n a t) w o.op o.type fun v w' => splitB gs o.dst v fun v => opsV n all gs t r (putV a o.dst v) w' K
    else opsV n all gs t r (putV a o.dst undef) w K
def qV (n : Nat) (gs : Gs) (t : Tm) : List QI → List Rd → List (Nat × AV) → AW → (List Rd → List (Nat × AV) → AW → Prop) → Prop
 | [],rds,a,w,K => K rds a w
 | .pu g o :: r,rds,a,w,K => bif gdOk (vT n a t) g then isKd P .pure o.op (opS P hk big (vT n a t) w o.op o.type fun v w' => splitB gs o.dst v fun v => qV n gs t r rds (putV a o.dst v) w' K) else qV n gs t r rds (putV a o.dst undef) w K
 | .rd g o i keep :: r,rds,a,w,K => bif gdOk (vT n a t) g then isKd P .read o.op (opS P hk big (vT n a t) w o.op o.type fun v w' => splitB gs o.dst v fun v => qV n gs t r (bif keep then ⟨i,v,vT n a t⟩ :: rds else rds) (putV a o.dst v) w' K) else qV n gs t r rds (putV a o.dst undef) w K
 | .mk g o :: r,rds,a,w,K => bif gdOk (vT n a t) g then isKd P .make o.op (opS P hk big (vT n a t) w o.op o.type fun v w' => splitB gs o.dst v fun v => qV n gs t r rds (putV a o.dst v) w' K) else qV n gs t r rds (putV a o.dst undef) w K
def planV (n : Nat) (ops : List Oper) (gs : Gs) (t : Tm) : Plan → List Rd → List (Nat × AV) → AW → (Tm → AW → Prop) → Prop
  | .bad, _, _, _, _ => False
  | .done q chk, rds, a, w, K => bif chk then qV P hk big n gs t q rds a w fun rds' a' w' => sameK P ops w' rds' (K (vT n a' t) w') else sameK P ops w rds (qV P hk big n gs t q rds a w fun _ a' w' => K (vT n a' t) w')
  | .eff q chk g o i bfi next, rds, a, w, K =>
    let rest : List Rd → List (Nat × AV) → AW → Prop := fun rds' a' w' =>
      bif gdOk (vT n a' t) g then opS P hk big (vT n a' t) w' o.op o.type fun v w'' => splitB gs o.dst v fun v => planV n ops gs t next (rds'.filter fun r => !(bfi.testBit r.i)) (putV a' o.dst v) w'' K
      else planV n ops gs t next (rds'.filter fun r => !(bfi.testBit r.i)) (putV a' o.dst undef) w' K
    bif chk then qV P hk big n gs t q rds a w fun rds' a' w' => sameK P ops w' rds' (rest rds' a' w') else sameK P ops w rds (qV P hk big n gs t q rds a w rest)
def regionV (n : Nat) (st : Nat) (ops : List Oper) (draw : Bool) (t : Tm) (w : AW) (K : Tm → AW → Prop) : Prop :=
 match draw with
 | true => planV P hk big n ops (guardsOf st ops) t (fPlan P ops) [] [] w K
 | false => opsV P hk big n ops (guardsOf st ops) t ops [] w K
/-! ### Code -/
def dm : Option Tmp → Nat
 | none => 0
 | some d => bitOf d
def opsM : List Oper → Nat
 | [] => 0
 | o :: r => Nat.lor (dm o.dst) (opsM r)
def qM : List QI → Nat
 | [] => 0
 | .pu _ o :: r => Nat.lor (dm o.dst) (qM r)
 | .rd _ o _ _ :: r => Nat.lor (dm o.dst) (qM r)
 | .mk _ o :: r => Nat.lor (dm o.dst) (qM r)
def planM : Plan → Nat
 | .bad => 0
 | .done q _ => qM q
 | .eff q _ _ o _ _ next => Nat.lor (Nat.lor (qM q) (dm o.dst)) (planM next)
def defsM : Code → Nat
 | .region _ ops draw => bif draw then planM (fPlan P ops.toList) else opsM ops.toList
 | .seq a b => Nat.lor (defsM a) (defsM b)
 | .cond _ a b => Nat.lor (defsM a) (defsM b)
 | .block _ b => defsM b
 | .loop b => defsM b
 | _ => 0
inductive Adv where
 | lf
 | gt
 | lv
 | gv
 | fv
 | sq (a b : Adv)
 | sj (l : List (Tmp × Sh)) (a b : Adv)
 | sk (l : List (Tmp × Sh)) (a b : Adv)
 | cd (a b : Adv)
 | bl (a : Adv)
 | lp (l : List (Tmp × Sh)) (a : Adv)
def lookT : List (Tmp × Sh) → List AV → Nat → Option AV
 | x :: l,v :: vs,i => bif Nat.beq x.1 i then some v else lookT l vs i
 | _,_,_ => none
def fillT (n : Nat) (l : List (Tmp × Sh)) (vs : List AV) (j : Nat → AV) (D : Nat) (t : Tm) : Tm := (List.range n).map fun i => match lookT l vs i with
 | some v => v
 | none => bif tb D i then j i else getT t i
def fillJ (n : Nat) (l : List (Tmp × Sh)) (vs : List AV) (j : Nat → AV) : Tm := (List.range n).map fun i => match lookT l vs i with
 | some v => v
 | none => j i
def liveT (l : List (Tmp × Sh)) (t : Tm) : List AV := l.map fun x => getT t x.1
def onL (l : List (Tmp × Sh)) (vs : List AV) (K : List AV → Prop) : Prop := exShs (l.map (·.2)) fun us => vs = us ∧ K us
variable (n : Nat)
def normK (e : AExit) (t : Tm) (w : AW) (A : Tm → AW → Prop) (K : AExit → Tm → AW → Prop) : Prop := match e with
 | .normal => A t w
 | e => K e t w
def exitK (id : Nat) (e : AExit) (t : Tm) (w : AW) (K : AExit → Tm → AW → Prop) : Prop := match e with
 | .exit i => bif Nat.beq i id then K .normal t w else K (.exit i) t w
 | e => K e t w
def codeS : Adv → Code → Tm → AW → (AExit → Tm → AW → Prop) → Prop
  | .lf, c, t, w, K => match c with
    | .skip => K .normal t w
    | .label _ => K .normal t w
    | .ret => K .ret t w
    | .exit i => K (.exit i) t w
    | .region _ ops draw => regionS P hk big 0 ops.toList draw t w fun t w => K .normal t w
    | _ => False
  | .gt, c, t, w, K => match c with
    | .region _ ops draw => regionS P hk big 1 ops.toList draw t w fun t w => K .normal t w
    | _ => False
  | .lv, c, t, w, K => match c with
    | .region _ ops draw => gd (Nat.beq t.length n) (regionV P hk big n 0 ops.toList draw t w fun t w => K .normal t w)
    | _ => False
  | .gv, c, t, w, K => match c with
    | .region _ ops draw => gd (Nat.beq t.length n) (regionV P hk big n 1 ops.toList draw t w fun t w => K .normal t w)
    | _ => False
  | .fv, c, t, w, K => match c with
    | .region _ ops draw => gd (Nat.beq t.length n) (regionV P hk big n 2 ops.toList draw t w fun t w => K .normal t w)
    | _ => False
  | .sq x y, c, t, w, K => match c with
    | .seq a b => codeS x a t w fun e t w => normK e t w (fun t w => codeS y b t w K) K
    | _ => False
  | .sj l x y, c, t, w, K => match c with
    | .seq a b => join (fun vs w => onL l vs fun vs => ∀ j : Nat → AV, codeS y b (fillT n l vs j (defsM P a) t) w K) fun J => codeS x a t w fun e t w => normK e t w (fun t w => gd (Nat.beq t.length n) (J (liveT l t) w)) K
    | _ => False
  | .sk l x y, c, t, w, K => match c with
    | .seq a b => join (fun vs w => onL l vs fun vs => ∀ j : Nat → AV, codeS y b (fillJ n l vs j) w K) fun J => codeS x a t w fun e t w => normK e t w (fun t w => gd (Nat.beq t.length n) (J (liveT l t) w)) K
    | _ => False
  | .cd x y, c, t, w, K => match c with
    | .cond c a b => evK t c fun v => onB v fun z => ifT z (codeS x a t w K) (codeS y b t w K)
    | _ => False
  | .bl x, c, t, w, K => match c with
    | .block id b => codeS x b t w fun e t w => exitK id e t w K
    | _ => False
  | .lp l x, c, t, w, K => match c with
    | .loop b => gd (Nat.beq t.length n) (loopP (liveT l t) w fun R vs w => onL l vs fun vs => ∀ j : Nat → AV, codeS x b (fillT n l vs j (defsM P b) t) w fun e t w => normK e t w (fun t w => gd (Nat.beq t.length n) (R (liveT l t) w)) K)
    | _ => False
def resS (t : Tm) (w : AW) : List ResultVar → (List AV → Prop) → Prop
 | [],K => K []
 | .tmp i :: r,K => resS t w r fun vs => K (getT t i :: vs)
 | .cell a ty :: r,K => onP (getT t a) fun b o => atT P big ty (loadA P w ty b o) fun v => resS t w r fun vs => K (v :: vs)
def leaveS (fn : Func) (e : AExit) (t : Tm) (w : AW) (K : AV → AW → Prop) : Prop :=
 match e with
 | .normal => resS P big t w fn.results.toList fun vs => K (one vs) w
 | .ret => resS P big t w fn.results.toList fun vs => K (one vs) w
 | _ => False
def fnG (fn : Func) (adv : Adv) (args : List AV) (w : AW) (K : AV → AW → Prop) : Prop :=
 match fn.body with
 | some c => codeS P hk big fn.ntmps adv c (args ++ List.replicate (fn.ntmps - args.length) undef) w fun e t w => leaveS P big fn e t w K
 | none => False
end ops
def fnS (P : Program) (hk : Hook) (fn : Func) (adv : Adv) (args : List AV) (w : AW) (K : AV → AW → Prop) : Prop := fnG P hk false fn adv args w K
end Go.Sx
/-! The formulas say no less than the meaning asks. -/
namespace Go.Sx
section
variable {P : Program} {hk : Hook} {big : Bool}
theorem someK_pure {o : Op} {w : AW} {tmps : Tm} {K : AV → AW → Prop} {v : AV} (hk : opKd P o = .pure ∨ opKd P o = .read) (h : pureOp P w tmps o = some v) (hK : K v w) : someK K (simpleOp P w tmps o) := by
 rcases hk with hk | hk
 ·exact ⟨v,w,simple_pure hk h,hK⟩
 ·exact ⟨v,w,simple_read hk h,hK⟩
theorem someK_make {o : Op} {w : AW} {tmps : Tm} {K : AV → AW → Prop} {v : AV} {ob : AO} (hk : opKd P o = .make) (h : allocOp P w tmps o = some (v,ob)) (hK : K v (w.push ob)) : someK K (simpleOp P w tmps o) :=
 ⟨_,_,simple_make hk h,hK⟩
theorem someK_eff {o : Op} {w : AW} {tmps : Tm} {K : AV → AW → Prop} {v : AV} {w' : AW} (hk : opKd P o = .eff) (h : effOp P w tmps o = some (v,w')) (hK : K v w') : someK K (simpleOp P w tmps o) :=
 ⟨_,_,by unfold simpleOp; rw [hk]; exact h,hK⟩
theorem fillK_ok {ck : Bool → AV → (List AV → Prop) → Prop} (hck : ∀ {a v K}, ck a v K → K v.cells) {place : Nat → Option (Nat × Nat × Bool)} {place' : Nat → Option (Nat × Nat)} (hp : ∀ i p, place i = some p → place' i = some (p.1, p.2.1)) :
    ∀ {ps : List (Nat × AV)} {cells : List AV} {K : List AV → Prop}, fillK ck place cells ps K → ∃ cs, fillA place' cells ps = some cs ∧ K cs
  | [], cells, K, h => ⟨cells, rfl, h⟩
  | (i, v) :: r, cells, K, h => by
    simp only [fillK, onM_iff] at h
    obtain ⟨p, hpi, h⟩ := h
    have h := hck h
    simp only [gd_iff] at h
    obtain ⟨hg, h⟩ := h
    obtain ⟨cs, h1, h2⟩ := fillK_ok hck hp h
    refine ⟨cs, ?_, h2⟩
    simp only [fillA, hp i p hpi, Option.bind_some]
    rw [hg]
    exact h1
theorem fillK_all {place : Nat → Option (Nat × Nat × Bool)} : ∀ {ps : List (Nat × AV)} {cells : List AV} {K : List AV → Prop}, fillK cellsK place cells ps K → okParts ps = true
  | [], _, _, _ => rfl
  | (i, v) :: r, cells, K, h => by
    simp only [fillK, onM_iff] at h
    obtain ⟨p, _, h⟩ := h
    have h := cellsK_ok h
    simp only [gd_iff] at h
    have := fillK_all h.2.2
    unfold okParts at this ⊢
    rw [List.all_cons, h.1, this]
    rfl
theorem callS_ok {tmps : Tm} {w : AW} {c : Call} {ty : TypeId} {K : AV → AW → Prop} (h : callS P hk big tmps w c ty K) : wCallOp P (wpL P hk) w tmps c K := by
 unfold callS at h
 unfold wCallOp
 split at h
 ·rename_i f hc
  simp only [hc]
  simp only [evK,onM_iff] at h
  obtain ⟨fv,h1,as,h2,h3⟩ := h
  refine ⟨_,as,h1,h2,?_⟩
  unfold Cv at h3
  split at h3
  ·exact wpL_mono _ _ _ (valK_mono fun v w' h => valT_ok P _ h) h3
  ·exact wpL_mono _ _ _ (valK_mono fun v w' h => valT_ok P _ h) h3
  ·exact h3.elim
 ·rename_i b hc
  simp only [hc]
  unfold builtS at h
  have hlen : c.callee = .builtin .len → callKd P c = .pure ∨ callKd P c = .read := fun hc => by
   unfold callKd
   rw [hc]
   simp only [builtinKd]
   split <;> simp
  have hp : ∀ {x : AV},pureCall P w tmps c = some x → K x w → (callKd P c = .pure ∨ callKd P c = .read) → someK K (simpleOp P w tmps (.call c)) := fun h1 h2 h3 => someK_pure (o := .call c) (by simpa [opKd] using h3) h1 h2
  split at h
  ·split at h
   ·obtain ⟨v,h1,h2⟩ := atT_ok P _ h
    exact hp h1 h2 (hlen hc)
   ·obtain ⟨v,h1,h2⟩ := atT_ok P _ h
    exact hp h1 h2 (hlen hc)
   ·obtain ⟨v,h1,h2⟩ := onM_iff.1 h
    exact hp h1 h2 (hlen hc)
  ·obtain ⟨v,h1,h2⟩ := atT_ok P _ h
   exact hp h1 h2 (.inl (by simp [callKd,hc,builtinKd]))
  ·obtain ⟨v,h1,h2⟩ := onM_iff.1 h
   exact hp h1 h2 (.inl (by simp [callKd,hc,builtinKd]))
  ·obtain ⟨v,h1,h2⟩ := onM_iff.1 h
   exact hp h1 h2 (.inl (by simp [callKd,hc,builtinKd]))
  ·obtain ⟨v,w',h1,h2⟩ := onE_iff.1 h
   exact someK_eff (o := .call c) (by simp [opKd,callKd,hc,builtinKd]) h1 h2
  ·obtain ⟨v,w',h1,h2⟩ := onE_iff.1 h
   exact someK_eff (o := .call c) (by simp [opKd,callKd,hc,builtinKd]) h1 h2
  ·obtain ⟨v,w',h1,h2⟩ := onE_iff.1 h
   exact someK_eff (o := .call c) (by simp [opKd,callKd,hc,builtinKd]) h1 h2
  ·obtain ⟨v,w',h1,h2⟩ := onE_iff.1 h
   exact someK_eff (o := .call c) (by simp [opKd,callKd,hc,builtinKd]) h1 h2
  ·exact h.elim
 ·exact h.elim
theorem convKd_ne {s d : TypeId} : convKd P s d = .pure ∨ convKd P s d = .read ∨ convKd P s d = .make := by
 unfold convKd; split <;> simp
theorem placesS_ok {fs : Array Field} {pl : List (Nat × Nat)} (h : placesOf P fs = some pl) (i : Nat) (p : Nat × Nat × Bool) (hp : (placesS P fs)[i]? = some p) : pl[i]? = some (p.1, p.2.1) := by
  unfold placesOf at h
  unfold placesS at hp
  have key : ∀ (l : List Field) (pl : List (Nat × Nat)), (l.mapM fun f => (P.info? f.type).map fun i => (f.offset, i.size)) = some pl → ∀ (i : Nat) (p : Nat × Nat × Bool),
      (l.map fun f => (f.offset, (szOf P f.type).getD 0, aggT P f.type))[i]? = some p → pl[i]? = some (p.1, p.2.1) := by
    intro l
    induction l with
    | nil => intro pl _ i p hp; simp at hp
    | cons f l ih =>
      intro pl h i p hp
      simp only [List.mapM_cons, Option.bind_eq_bind, Option.bind_eq_some_iff, Option.map_eq_some_iff, Option.pure_def, Option.some.injEq] at h
      obtain ⟨x, ⟨inf, h1, rfl⟩, ys, h2, rfl⟩ := h
      cases i with
      | zero =>
        simp only [List.map_cons, List.getElem?_cons_zero, Option.some.injEq] at hp
        subst hp
        simp [szOf, h1]
      | succ i =>
        simp only [List.map_cons, List.getElem?_cons_succ] at hp ⊢
        exact ih ys h2 i p hp
  exact key _ _ h i p hp
theorem placesOf_some {fs : Array Field} (h : ∀ f ∈ fs.toList, (P.info? f.type).isSome = true) : ∃ pl, placesOf P fs = some pl := by
  unfold placesOf
  generalize fs.toList = l at h
  induction l with
  | nil => exact ⟨[], rfl⟩
  | cons f l ih =>
    obtain ⟨pl, hpl⟩ := ih fun g hg => h g (List.mem_cons_of_mem _ hg)
    have hf := h f List.mem_cons_self
    obtain ⟨inf, hinf⟩ := Option.isSome_iff_exists.1 hf
    refine ⟨(f.offset, inf.size) :: pl, ?_⟩
    rw [List.mapM_cons, hinf, hpl]
    rfl
theorem opS_ok {tmps : Tm} {w : AW} {o : Op} {ty : TypeId} {K : AV → AW → Prop} (h : opS P hk big tmps w o ty K) : wOp P (wpL P hk) w tmps o K := by
  have gen : ∀ {o : Op}, (match clsOf P o with
      | .now => onM (pureOp P w tmps o) fun v => K v w
      | .told => atT P big ty (pureOp P w tmps o) fun v => K v w
      | .addr => atP (pureOp P w tmps o) fun b o => K (.ptr b o) w
      | .un => False) → (opKd P o = .pure ∨ opKd P o = .read) → someK K (simpleOp P w tmps o) := fun {o} h hk => by
    split at h
    · obtain ⟨v, h1, h2⟩ := onM_iff.1 h; exact someK_pure hk h1 h2
    · obtain ⟨v, h1, h2⟩ := atT_ok P _ h; exact someK_pure hk h1 h2
    · obtain ⟨b, x, h1, h2⟩ := atP_iff.1 h; exact someK_pure hk h1 h2
    · exact h.elim
  cases o with
  | call c => exact callS_ok h
  | pick c a b =>
    simp only [opS, evK, onM_iff, onB_iff, ifT_iff] at h
    obtain ⟨v, h1, t, rfl, h2, h3⟩ := h
    show someK K _
    cases t with
    | true =>
      obtain ⟨x, h4, h5⟩ := h2 rfl
      exact someK_pure (.inl rfl) (v := x) (by simp [pureOp, h1, asB, h4]) h5
    | false =>
      obtain ⟨x, h4, h5⟩ := h3 rfl
      exact someK_pure (.inl rfl) (v := x) (by simp [pureOp, h1, asB, h4]) h5
  | nilCheck x =>
    simp only [opS, evK, onM_iff, onP_iff] at h
    obtain ⟨v, h1, b, o, rfl, h2⟩ := h
    exact someK_pure (o := .nilCheck x) (.inl rfl) (v := .ptr b o) (by simp [pureOp, h1, nilCheckA]) h2
  | fieldAddr s x f =>
    simp only [opS, evK, onM_iff, onP_iff, atP_iff] at h
    obtain ⟨v, h1, b, o, rfl, b', o', h2, h3⟩ := h
    exact someK_pure (o := .fieldAddr s x f) (.inl rfl) (v := .ptr b' o') (by simp [pureOp, h1, h2]) h3
  | load t a =>
    simp only [opS, evK, onM_iff, onP_iff] at h
    obtain ⟨v, h1, b, o, rfl, h2⟩ := h
    obtain ⟨v, h3, h4⟩ := atT_ok P _ h2
    exact someK_pure (o := .load t a) (.inr rfl) (v := v) (by simp [pureOp, h1, asP, h3]) h4
  | store t a x =>
    simp only [opS, evK, onM_iff, onP_iff] at h
    obtain ⟨v, h1, b, o, rfl, u, h2, h3⟩ := h
    have h3 := cellsK_ok h3
    simp only [gd_iff, onM_iff] at h3
    obtain ⟨h3, h4, w', h5, h6⟩ := h3
    refine someK_eff (o := .store t a x) rfl (v := undef) (w' := w') ?_ h6
    simp only [effOp, h1, Option.bind_some, asP, h2, storeA]
    cases hz : szOf P t with
    | none => rw [hz] at h4; cases h4
    | some n =>
      rw [hz] at h4
      have h4 : Nat.beq u.cells.length n = true := h4
      simp only [Option.bind_some]
      rw [h4, h3]
      simp [guardO, h5]
  | build t ps =>
    simp only [opS, onM_iff] at h
    obtain ⟨z, h1, xs, h2, h3⟩ := h
    split at h3
    · rename_i fs hu
      simp only [gd_iff] at h3
      obtain ⟨h4, h5⟩ := h3
      obtain ⟨pl, hpl⟩ := placesOf_some (P := P) (fs := fs) (fun f hf => List.all_eq_true.1 h4 f hf)
      obtain ⟨cs, h8, h9⟩ := fillK_ok (fun h => partK_ok h) (place' := (pl[·]?)) (fun i p hp => placesS_ok hpl i p hp) h5
      refine someK_pure (o := .build t ps) (v := .agg cs) (.inl rfl) ?_ h9
      simp only [pureOp, h2, Option.bind_some, buildA, h1, hu, hpl, h8, Option.map_some]
    · rename_i n e hu
      obtain ⟨s, h4, h5⟩ := h3
      obtain ⟨cs, h8, h9⟩ := fillK_ok (fun h => partK_ok h) (place' := fun i => some (i * s, s)) (fun i p hp => by simp at hp; subst hp; rfl) h5
      refine someK_pure (o := .build t ps) (v := .agg cs) (.inl rfl) ?_ h9
      simp only [pureOp, h2, Option.bind_some, buildA, h1, hu, h4, h8, Option.map_some]
    · exact h3.elim
  | buildSlice t len ps =>
    simp only [opS, onM_iff, gd_iff] at h
    obtain ⟨e, h1, s, h2, z, h3, xs, h4, h5, h6⟩ := h
    have h7 := fillK_all h6
    obtain ⟨cs, h8, h9⟩ := fillK_ok (fun h => (cellsK_ok h).2) (place' := fun i => some (i * s, s)) (fun i p hp => by simp at hp; subst hp; rfl) h6
    refine someK_make (o := .buildSlice t len ps) rfl (v := _) (ob := cellsAO w cs) ?_ h9
    simp only [Bool.and_eq_true] at h5
    simp [allocOp, h1, h2, h3, h4, h5.1, h5.2, h7, h8, guardO]
  | alloc t =>
    simp only [opS, onM_iff, gd_iff] at h
    obtain ⟨z, h1, h2, h3⟩ := h
    exact someK_make (o := .alloc t) rfl (ob := cellsAO w z.cells) (by simp [allocOp, h1, h2, guardO]) h3
  | box t x =>
    simp only [opS, evK, onM_iff] at h
    obtain ⟨v, h1, h2⟩ := h
    have h2 := cellsK_ok h2
    exact someK_make (o := .box t x) rfl (ob := cellsAO w v.cells) (by simp [allocOp, h1, h2.1, guardO]) h2.2
  | makeMap t r =>
    cases r with
    | none => exact someK_make (o := .makeMap t none) rfl (v := .map w.size) (ob := .map [] 0) rfl h
    | some r => exact h.elim
  | makeSlice t l c =>
    simp only [opS, evK, onM_iff, gd_iff] at h
    obtain ⟨e, h1, lv, h2, cv, h3, l', h4, c', h5, z, h6, bytes, h7, h8, h9⟩ := h
    refine someK_make (o := .makeSlice t l c) rfl (ob := cellsAO w (repl c' z.cells)) ?_ h9
    simp only [allocOp, h1, h2, h3, h4, h5, h6, h7, Option.bind_some]
    rw [h8]
    rfl
  | convert s d x =>
    simp only [opS] at h
    cases hk : convKd P s d with
    | make =>
      rw [hk] at h
      simp only [evK, onM_iff, onS_iff, gd_iff] at h
      obtain ⟨v, h1, b, rfl, e, h2, us, h3, ue, h4, h5, h6⟩ := h
      refine someK_make (o := .convert s d x) (by simp [opKd, hk]) (ob := cellsAO w (cellsOfBytes b)) ?_ h6
      simp only [allocOp, h1, h2, h3, h4, h5, Option.bind_some]
      rfl
    | eff => rcases convKd_ne (P := P) (s := s) (d := d) with h | h | h <;> rw [hk] at h <;> cases h
    | pure =>
      rw [hk] at h
      have : someK K (simpleOp P w tmps (.convert s d x)) := by
        simp only [] at h
        split at h
        · obtain ⟨v, h1, h2⟩ := onM_iff.1 h; exact someK_pure (o := .convert s d x) (by simp [opKd, hk]) h1 h2
        · obtain ⟨v, h1, h2⟩ := atT_ok P _ h; exact someK_pure (o := .convert s d x) (by simp [opKd, hk]) h1 h2
      exact this
    | read =>
      rw [hk] at h
      have : someK K (simpleOp P w tmps (.convert s d x)) := by
        simp only [] at h
        split at h
        · obtain ⟨v, h1, h2⟩ := onM_iff.1 h; exact someK_pure (o := .convert s d x) (by simp [opKd, hk]) h1 h2
        · obtain ⟨v, h1, h2⟩ := atT_ok P _ h; exact someK_pure (o := .convert s d x) (by simp [opKd, hk]) h1 h2
      exact this
  | mapUpdate t m k v =>
    obtain ⟨v, w', h1, h2⟩ := onE_iff.1 h
    exact someK_eff (o := .mapUpdate ..) rfl h1 h2
  | insert t m k v =>
    obtain ⟨v, w', h1, h2⟩ := onE_iff.1 h
    exact someK_eff (o := .insert ..) rfl h1 h2
  | range t x =>
    simp only [opS] at h
    split at h
    · rename_i ke hke
      simp only [evK, onM_iff] at h
      obtain ⟨v, h1, h2⟩ := h
      unfold rangeK at h2
      split at h2
      · exact someK_eff (o := .range t x) (by simp [opKd, hke]) (by simp only [effOp, h1, Option.bind_some, rangeM, hke, Option.map_some]) h2
      · rename_i r
        obtain ⟨m, h3, h4⟩ := onM_iff.1 h2
        exact someK_eff (o := .range t x) (by simp [opKd, hke]) (by simp only [effOp, h1, Option.bind_some, rangeM, hke, h3, Option.map_some]) h4
      · exact h2.elim
    · exact h.elim
  | next i t =>
    simp only [opS, evK, onM_iff, onP_iff, gd_iff, Bool.and_eq_true, Bool.not_eq_true'] at h
    obtain ⟨v, h1, b, o, rfl, ⟨h2, rfl⟩, h3⟩ := h
    have := Nat.eq_of_beq_eq_true h2
    subst this
    show wNextOp w tmps i false K
    refine ⟨b, h1, ?_⟩
    unfold nextK at h3
    split at h3
    · rename_i hg; rw [hg]; exact h3
    · rename_i m es c rest x hg
      rw [hg]
      simp only [wNext]
      refine ⟨h3.1, ?_⟩
      have h4 := h3.2
      cases rest with
      | nil => exact h4
      | cons a l => exact h4
    · exact h3.elim
  | entry i =>
    simp only [opS, evK, onM_iff, onP_iff, gd_iff] at h
    obtain ⟨v, h1, b, o, rfl, h2, h3⟩ := h
    unfold entryK at h3
    split at h3
    · rename_i r es c rest k v hg
      simp only [onM_iff, gd_iff] at h3
      obtain ⟨m, h4, h5, h6⟩ := h3
      refine someK_eff (o := .entry i) rfl (v := .tup [k, v]) (w' := w) ?_ h6
      simp only [effOp, h1, Option.bind_some, asP, guardO, entryA, hg, h4]
      have h2' : Nat.beq o 0 = true := h2
      rw [h2', if_pos (Nat.eq_of_beq_eq_true h5)]
      rfl
    · exact h3.elim
  | move x => exact gen h (.inl rfl)
  | assign x => exact gen h (.inl rfl)
  | binOp a b c d e => exact gen (o := .binOp a b c d e) h (.inl rfl)
  | unOp a b c => exact gen (o := .unOp a b c) h (.inl rfl)
  | makeInterface a b => exact gen (o := .makeInterface a b) h (.inl rfl)
  | makeFunc a b c => exact gen (o := .makeFunc a b c) h (.inl rfl)
  | extract a b => exact gen (o := .extract a b) h (.inl rfl)
  | field a b c => exact gen (o := .field a b c) h (.inl rfl)
  | index a b c => exact gen (o := .index a b c) h (.inl rfl)
  | slice a b c d e => exact gen (o := .slice a b c d e) h (.inl rfl)
  | lookup a b c d => exact gen (o := .lookup a b c d) h (.inr rfl)
  | typeAssert a b c d => exact gen (o := .typeAssert a b c d) h (.inl rfl)
  | sliceToArrayPointer a b => exact gen (o := .sliceToArrayPointer a b) h (.inl rfl)
  | indexAddr a b c => exact gen (o := .indexAddr a b c) h (.inl rfl)
  | _ => exact h.elim
theorem splitB_ok {gs : Gs} {d : Option Tmp} {v : AV} {K : AV → Prop} (h : splitB gs d v K) : K v := by
  unfold splitB at h
  cases h1 : inG gs.1 d with
  | true =>
    rw [h1, cond_true, onB_iff] at h
    obtain ⟨b, rfl, h⟩ := h
    cases b <;> exact h
  | false =>
    rw [h1, cond_false] at h
    cases h2 : inG gs.2.1 d with
    | true =>
      rw [h2, cond_true, onB_iff] at h
      obtain ⟨b, rfl, h⟩ := h
      obtain ⟨rfl, h⟩ := gd_iff.1 h
      exact h
    | false =>
      rw [h2, cond_false] at h
      cases h3 : inG gs.2.2 d with
      | true =>
        rw [h3, cond_true, onB_iff] at h
        obtain ⟨b, rfl, h⟩ := h
        obtain ⟨hb, h⟩ := gd_iff.1 h
        cases b
        · exact h
        · cases hb
      | false => rw [h3] at h; exact h
theorem opsS_ok {all : List Oper} {gs : Gs} : ∀ {l : List Oper} {t : Tm} {w : AW} {K : Tm → AW → Prop}, opsS P hk big all gs l t w K → wOps P (wpL P hk) all l t w K
  | [], t, w, K, h => h
  | o :: r, t, w, K, h => by
    simp only [opsS] at h
    simp only [wOps]
    cases hg : wantedA all t o.guard with
    | true =>
      rw [hg] at h
      simp only [if_true]
      exact wOp_mono wpL_mono (fun v w' h => opsS_ok (splitB_ok h)) (opS_ok h)
    | false =>
      rw [hg] at h
      simp only [Bool.false_eq_true, if_false]
      exact opsS_ok h
theorem isKd_ok {k : Kd} {o : Op} {A : Prop} (h : isKd P k o A) : opKd P o = k ∧ k ≠ .eff ∧ A := by
 unfold isKd at h
 split at h <;> first | exact ⟨by assumption,by simp,h⟩ | exact h.elim
theorem quiet_of {o : Op} {w : AW} {t : Tm} {K : AV → AW → Prop} (hq : opKd P o ≠ .eff) (h : wOp P (wpL P hk) w t o K) : someK K (simpleOp P w t o) := by
 unfold wOp at h
 split at h
 ·rename_i c
  unfold wCallOp at h
  split at h
  ·rename_i f hc
   exact absurd (by simp [opKd,callKd,hc]) hq
  ·exact h
  ·exact h.elim
 ·exact absurd rfl hq
 ·exact h
theorem qS_ok {gs : Gs} : ∀ {q : List QI} {rds : List Rd} {t : Tm} {w : AW} {K : List Rd → Tm → AW → Prop}, qS P hk big gs q rds t w K → wQ P q rds t w K
  | [], _, _, _, _, h => h
  | .pu g o :: r, rds, t, w, K, h => by
    simp only [qS] at h
    simp only [wQ]
    cases hg : gdOk t g with
    | false => rw [hg] at h; exact qS_ok h
    | true =>
      rw [hg] at h
      obtain ⟨h1, h2, h3⟩ := isKd_ok h
      obtain ⟨v, w', h4, h5⟩ := quiet_of (by rw [h1]; exact h2) (opS_ok h3)
      unfold simpleOp at h4
      rw [h1] at h4
      simp only [Option.map_eq_some_iff, Prod.mk.injEq] at h4
      obtain ⟨a, h6, rfl, rfl⟩ := h4
      exact ⟨a, h6, qS_ok (splitB_ok h5)⟩
  | .rd g o i keep :: r, rds, t, w, K, h => by
    simp only [qS] at h
    simp only [wQ]
    cases hg : gdOk t g with
    | false => rw [hg] at h; exact qS_ok h
    | true =>
      rw [hg] at h
      obtain ⟨h1, h2, h3⟩ := isKd_ok h
      obtain ⟨v, w', h4, h5⟩ := quiet_of (by rw [h1]; exact h2) (opS_ok h3)
      unfold simpleOp at h4
      rw [h1] at h4
      simp only [Option.map_eq_some_iff, Prod.mk.injEq] at h4
      obtain ⟨a, h6, rfl, rfl⟩ := h4
      exact ⟨a, h6, qS_ok (splitB_ok h5)⟩
  | .mk g o :: r, rds, t, w, K, h => by
    simp only [qS] at h
    simp only [wQ]
    cases hg : gdOk t g with
    | false => rw [hg] at h; exact qS_ok h
    | true =>
      rw [hg] at h
      obtain ⟨h1, h2, h3⟩ := isKd_ok h
      obtain ⟨v, w', h4, h5⟩ := quiet_of (by rw [h1]; exact h2) (opS_ok h3)
      unfold simpleOp at h4
      rw [h1] at h4
      simp only [Option.map_eq_some_iff, Prod.mk.injEq] at h4
      obtain ⟨a, h6, rfl, rfl⟩ := h4
      exact ⟨a, h6, qS_ok (splitB_ok h5)⟩
theorem sameK_ok {ops : List Oper} {w : AW} {A : Prop} : ∀ {rds : List Rd}, sameK P ops w rds A → wSame P ops w rds ∧ A
  | [], h => ⟨fun _ hr => by simp at hr, h⟩
  | r :: rs, h => by
    simp only [sameK] at h
    obtain ⟨h1, h2⟩ := h
    obtain ⟨h3, h4⟩ := sameK_ok h2
    refine ⟨fun x hx => ?_, h4⟩
    rcases List.mem_cons.1 hx with rfl | hx
    · split at h1
      · rename_i o ho; exact ⟨o, ho, h1⟩
      · exact h1.elim
    · exact h3 x hx
theorem wQ_mono {K K' : List Rd → Tm → AW → Prop} (h : ∀ r t w, K r t w → K' r t w) : ∀ {q : List QI} {rds : List Rd} {t : Tm} {w : AW}, wQ P q rds t w K → wQ P q rds t w K'
  | [], _, _, _, hq => h _ _ _ hq
  | .pu g o :: r, rds, t, w, hq => by
    simp only [wQ] at hq ⊢
    cases hg : gdOk t g <;> rw [hg] at hq
    · exact wQ_mono h hq
    · obtain ⟨v, h1, h2⟩ := hq; exact ⟨v, h1, wQ_mono h h2⟩
  | .rd g o i keep :: r, rds, t, w, hq => by
    simp only [wQ] at hq ⊢
    cases hg : gdOk t g <;> rw [hg] at hq
    · exact wQ_mono h hq
    · obtain ⟨v, h1, h2⟩ := hq; exact ⟨v, h1, wQ_mono h h2⟩
  | .mk g o :: r, rds, t, w, hq => by
    simp only [wQ] at hq ⊢
    cases hg : gdOk t g <;> rw [hg] at hq
    · exact wQ_mono h hq
    · obtain ⟨v, h1, h2⟩ := hq; exact ⟨v, h1, wQ_mono h h2⟩
theorem planS_ok {ops : List Oper} {gs : Gs} : ∀ {p : Plan} {rds : List Rd} {t : Tm} {w : AW} {K : Tm → AW → Prop}, planS P hk big ops gs p rds t w K → wPlan P (wpL P hk) ops p rds t w K
  | .bad, _, _, _, _, h => h
  | .done q chk, rds, t, w, K, h => by
    simp only [planS] at h
    simp only [wPlan]
    cases chk with
    | true => exact ⟨by simp, wQ_mono (fun r t w h => let ⟨a, b⟩ := sameK_ok h; ⟨fun _ => a, b⟩) (qS_ok h)⟩
    | false => obtain ⟨h1, h2⟩ := sameK_ok h; exact ⟨fun _ => h1, wQ_mono (fun r t w h => ⟨by simp, h⟩) (qS_ok h2)⟩
  | .eff q chk g o i bfi next, rds, t, w, K, h => by
    simp only [planS] at h
    simp only [wPlan]
    have step : ∀ {r : List Rd} {t : Tm} {w : AW}, (bif gdOk t g then opS P hk big t w o.op o.type fun v w'' => splitB gs o.dst v fun v => planS P hk big ops gs next (r.filter fun r => !(bfi.testBit r.i)) (putT t o.dst v) w'' K
        else planS P hk big ops gs next (r.filter fun r => !(bfi.testBit r.i)) (putT t o.dst undef) w K) →
        (bif gdOk t g then wOp P (wpL P hk) w t o.op fun v w'' => wPlan P (wpL P hk) ops next (r.filter fun r => !(bfi.testBit r.i)) (putT t o.dst v) w'' K
        else wPlan P (wpL P hk) ops next (r.filter fun r => !(bfi.testBit r.i)) (putT t o.dst undef) w K) := fun {r t w} h => by
      cases hg : gdOk t g with
      | false => rw [hg] at h; exact planS_ok h
      | true => rw [hg] at h; exact wOp_mono wpL_mono (fun v w' h => planS_ok (splitB_ok h)) (opS_ok h)
    cases chk with
    | true => exact ⟨by simp, wQ_mono (fun r t w h => let ⟨a, b⟩ := sameK_ok h; ⟨fun _ => a, step b⟩) (qS_ok h)⟩
    | false => obtain ⟨h1, h2⟩ := sameK_ok h; exact ⟨fun _ => h1, wQ_mono (fun r t w h => ⟨by simp, step h⟩) (qS_ok h2)⟩
def stays (D : Nat) (t t' : Tm) : Prop := t'.length = t.length ∧ ∀ i,D.testBit i = false → getT t' i = getT t i
theorem stays_refl (D : Nat) (t : Tm) : stays D t t := ⟨rfl,fun _ _ => rfl⟩
theorem stays_trans {D : Nat} {t t' t'' : Tm} (h : stays D t t') (h' : stays D t' t'') : stays D t t'' := ⟨h'.1.trans h.1,fun i hi => (h'.2 i hi).trans (h.2 i hi)⟩
theorem stays_l {D E : Nat} {t t' : Tm} (h : stays D t t') : stays (Nat.lor D E) t t' := ⟨h.1,fun i hi => h.2 i (by
 have : (D ||| E).testBit i = false := hi
 rw [Nat.testBit_or,Bool.or_eq_false_iff] at this; exact this.1)⟩
theorem stays_r {D E : Nat} {t t' : Tm} (h : stays E t t') : stays (Nat.lor D E) t t' := ⟨h.1,fun i hi => h.2 i (by
 have : (D ||| E).testBit i = false := hi
 rw [Nat.testBit_or,Bool.or_eq_false_iff] at this; exact this.2)⟩
theorem stays_put (t : Tm) (d : Option Tmp) (v : AV) : stays (dm d) t (putT t d v) := by
  cases d with
  | none => exact stays_refl _ _
  | some d =>
    refine ⟨by simp [putT], fun i hi => ?_⟩
    have : i ≠ d := fun e => by
      subst e
      have h2 : (2 ^ i).testBit i = false := hi
      rw [Nat.testBit_two_pow_self] at h2; cases h2
    simp only [putT, getT, List.getD_eq_getElem?_getD, List.getElem?_set_ne (Ne.symm this)]
theorem wOps_stays {all : List Oper} : ∀ {l : List Oper} {t : Tm} {w : AW} {K : Tm → AW → Prop}, wOps P (wpL P hk) all l t w K → wOps P (wpL P hk) all l t w fun t' w' => stays (opsM l) t t' ∧ K t' w'
  | [], t, w, K, h => ⟨stays_refl _ _, h⟩
  | o :: r, t, w, K, h => by
    simp only [wOps] at h ⊢
    have step : ∀ {v : AV} {w' : AW}, wOps P (wpL P hk) all r (putT t o.dst v) w' K → wOps P (wpL P hk) all r (putT t o.dst v) w' fun t' w' => stays (opsM (o :: r)) t t' ∧ K t' w' := fun h =>
      wOps_mono wpL_mono (fun t' w' h => ⟨stays_trans (stays_l (stays_put t o.dst _)) (stays_r h.1), h.2⟩) (wOps_stays h)
    cases hg : wantedA all t o.guard with
    | true =>
      rw [hg] at h
      simp only [if_true] at h ⊢
      exact wOp_mono wpL_mono (fun v w' h => step h) h
    | false =>
      rw [hg] at h
      simp only [Bool.false_eq_true, if_false] at h ⊢
      exact step h
theorem wQ_stays : ∀ {q : List QI} {rds : List Rd} {t : Tm} {w : AW} {K : List Rd → Tm → AW → Prop}, wQ P q rds t w K → wQ P q rds t w fun r t' w' => stays (qM q) t t' ∧ K r t' w'
  | [], _, _, _, _, h => ⟨stays_refl _ _, h⟩
  | .pu g o :: r, rds, t, w, K, h => by
    simp only [wQ] at h ⊢
    have step : ∀ {v : AV} {rds : List Rd} {w : AW}, wQ P r rds (putT t o.dst v) w K → wQ P r rds (putT t o.dst v) w fun x t' w' => stays (qM (.pu g o :: r)) t t' ∧ K x t' w' := fun h =>
      wQ_mono (fun x t' w' h => ⟨stays_trans (stays_l (stays_put t o.dst _)) (stays_r h.1), h.2⟩) (wQ_stays h)
    cases hg : gdOk t g <;> rw [hg] at h
    · exact step h
    · obtain ⟨v, h1, h2⟩ := h; exact ⟨v, h1, step h2⟩
  | .rd g o i keep :: r, rds, t, w, K, h => by
    simp only [wQ] at h ⊢
    have step : ∀ {v : AV} {rds : List Rd} {w : AW}, wQ P r rds (putT t o.dst v) w K → wQ P r rds (putT t o.dst v) w fun x t' w' => stays (qM (.rd g o i keep :: r)) t t' ∧ K x t' w' := fun h =>
      wQ_mono (fun x t' w' h => ⟨stays_trans (stays_l (stays_put t o.dst _)) (stays_r h.1), h.2⟩) (wQ_stays h)
    cases hg : gdOk t g <;> rw [hg] at h
    · exact step h
    · obtain ⟨v, h1, h2⟩ := h; exact ⟨v, h1, step h2⟩
  | .mk g o :: r, rds, t, w, K, h => by
    simp only [wQ] at h ⊢
    have step : ∀ {v : AV} {rds : List Rd} {w : AW}, wQ P r rds (putT t o.dst v) w K → wQ P r rds (putT t o.dst v) w fun x t' w' => stays (qM (.mk g o :: r)) t t' ∧ K x t' w' := fun h =>
      wQ_mono (fun x t' w' h => ⟨stays_trans (stays_l (stays_put t o.dst _)) (stays_r h.1), h.2⟩) (wQ_stays h)
    cases hg : gdOk t g <;> rw [hg] at h
    · exact step h
    · obtain ⟨v, h1, h2⟩ := h; exact ⟨v, h1, step h2⟩
theorem wPlan_mono {ops : List Oper} {K K' : Tm → AW → Prop} (h : ∀ t w, K t w → K' t w) : ∀ {p : Plan} {rds : List Rd} {t : Tm} {w : AW}, wPlan P (wpL P hk) ops p rds t w K → wPlan P (wpL P hk) ops p rds t w K'
  | .bad, _, _, _, hp => hp
  | .done q chk, _, _, _, hp => ⟨hp.1, wQ_mono (fun r t w hq => ⟨hq.1, h _ _ hq.2⟩) hp.2⟩
  | .eff q chk g o i bfi next, _, _, _, hp => by
    refine ⟨hp.1, wQ_mono (fun r t w hq => ⟨hq.1, ?_⟩) hp.2⟩
    have h2 := hq.2
    cases hg : gdOk t g <;> rw [hg] at h2
    · exact wPlan_mono h h2
    · exact wOp_mono wpL_mono (fun v w' h3 => wPlan_mono h h3) h2
theorem wPlan_stays {ops : List Oper} : ∀ {p : Plan} {rds : List Rd} {t : Tm} {w : AW} {K : Tm → AW → Prop}, wPlan P (wpL P hk) ops p rds t w K → wPlan P (wpL P hk) ops p rds t w fun t' w' => stays (planM p) t t' ∧ K t' w'
  | .bad, _, _, _, _, hp => hp
  | .done q chk, _, _, _, _, hp => ⟨hp.1, wQ_mono (fun r t w hq => ⟨hq.2.1, hq.1, hq.2.2⟩) (wQ_stays hp.2)⟩
  | .eff q chk g o i bfi next, rds, t, w, K, hp => by
    refine ⟨hp.1, wQ_mono (fun r t' w hq => ⟨hq.2.1, ?_⟩) (wQ_stays hp.2)⟩
    have h1 := hq.1
    have h2 := hq.2.2
    have step : ∀ {v : AV} {rds : List Rd} {w : AW}, wPlan P (wpL P hk) ops next rds (putT t' o.dst v) w K → wPlan P (wpL P hk) ops next rds (putT t' o.dst v) w fun t'' w' => stays (planM (.eff q chk g o i bfi next)) t t'' ∧ K t'' w' := fun h =>
      wPlan_mono (fun t'' w' h => ⟨stays_trans (stays_trans (stays_l (stays_l h1)) (stays_l (stays_r (stays_put t' o.dst _)))) (stays_r h.1), h.2⟩) (wPlan_stays h)
    cases hg : gdOk t' g <;> rw [hg] at h2
    · exact step h2
    · exact wOp_mono wpL_mono (fun v w' h3 => step h3) h2
theorem regionS_ok {st : Nat} {id : Nat} {ops : Array Oper} {draw : Bool} {t : Tm} {ds : List Nat} {w : AW} {Q : Res → Prop} {K : Tm → AW → Prop} (hK : ∀ t' w', stays (defsM P (.region id ops draw)) t t' → K t' w' → Q (.ex .normal ⟨t', ds, w'⟩)) (h : regionS P hk big st ops.toList draw t w K) : wRegion P (wpL P hk) ops.toList draw ⟨t, ds, w⟩ Q := by
  cases draw with
  | true =>
    obtain ⟨h1, h2⟩ := fPlan_draw wpL_mono (wPlan_stays (planS_ok h))
    exact ⟨h1, wPhases_mono wpL_mono (fun t' w' h => hK t' w' h.1 h.2) h2⟩
  | false => exact wOps_mono wpL_mono (fun t' w' h => hK t' w' h.1 h.2) (wOps_stays (opsS_ok h))
theorem lookT_live (t : Tm) (i : Nat) : ∀ (l : List (Tmp × Sh)), lookT l (liveT l t) i = none ∨ lookT l (liveT l t) i = some (getT t i)
  | [] => .inl rfl
  | x :: l => by
    show (bif Nat.beq x.1 i then some (getT t x.1) else lookT l (liveT l t) i) = none ∨ (bif Nat.beq x.1 i then some (getT t x.1) else lookT l (liveT l t) i) = some (getT t i)
    cases hb : Nat.beq x.1 i with
    | true => rw [Nat.eq_of_beq_eq_true hb]; exact .inr rfl
    | false => exact lookT_live t i l
theorem fillJ_live {n : Nat} {l : List (Tmp × Sh)} {t' : Tm} (h : t'.length = n) : fillJ n l (liveT l t') (getT t') = t' := by
 unfold fillJ
 apply List.ext_getElem?
 intro i
 rw [List.getElem?_map]
 by_cases hi : i < n
 ·rw [List.getElem?_range hi]
  have hlt : i < t'.length := by omega
  have hg : getT t' i = t'[i] := by unfold getT; rw [List.getD_eq_getElem?_getD]; simp [List.getElem?_eq_getElem hlt]
  rw [List.getElem?_eq_getElem hlt,← hg]
  simp only [Option.map_some,Option.some.injEq]
  rcases lookT_live t' i l with h | h <;> rw [h]
 ·rw [List.getElem?_eq_none (by simpa using Nat.le_of_not_lt hi),List.getElem?_eq_none (by omega)]; rfl
theorem fillT_live {n : Nat} {l : List (Tmp × Sh)} {D : Nat} {t t' : Tm} (h : t'.length = n) (ha : stays D t t') : fillT n l (liveT l t') (getT t') D t = t' := by
 unfold fillT
 apply List.ext_getElem?
 intro i
 rw [List.getElem?_map]
 by_cases hi : i < n
 ·rw [List.getElem?_range hi]
  have hlt : i < t'.length := by omega
  have hg : getT t' i = t'[i] := by unfold getT; rw [List.getD_eq_getElem?_getD]; simp [List.getElem?_eq_getElem hlt]
  rw [List.getElem?_eq_getElem hlt,← hg]
  simp only [Option.map_some,Option.some.injEq]
  rcases lookT_live t' i l with h | h <;> rw [h]
  simp only [tb_eq]
  cases hd : D.testBit i with
  | true => rfl
  | false => exact (ha.2 i hd).symm
 ·rw [List.getElem?_eq_none (by simpa using hi),List.getElem?_eq_none (by omega)]; rfl
theorem onL_ok {l : List (Tmp × Sh)} {vs : List AV} {K : List AV → Prop} (h : onL l vs K) : K vs := by
 obtain ⟨us,rfl,h⟩ := exShs_ok h; exact h
def codeL (P : Program) (hk : Hook) (ro : Option Nat) (c : Code) (t : Tm) (ds : List Nat) (w : AW) (K : AExit → Tm → AW → Prop) : Prop :=
 wpL P hk (.code ro c ⟨t,ds,w⟩) (exK fun e s => s.defers = ds ∧ K e s.tmps s.w)
theorem codeL_mono {ro : Option Nat} {c : Code} {t : Tm} {ds : List Nat} {w : AW} {K K' : AExit → Tm → AW → Prop} (h : ∀ e t w,K e t w → K' e t w) (hc : codeL P hk ro c t ds w K) : codeL P hk ro c t ds w K' :=
 wpL_mono _ _ _ (exK_mono fun e s hs => ⟨hs.1,h _ _ _ hs.2⟩) hc
/-! ### What is written is kept apart -/
theorem vT_nil {n : Nat} {t : Tm} (h : t.length = n) : vT n [] t = t := by
 refine List.ext_getElem (by simp [vT,h]) fun i h1 h2 => ?_
 simp [vT,lookW,getT,List.getD_eq_getElem?_getD,h2]
theorem vT_put {n : Nat} {a : List (Nat × AV)} {t : Tm} {d : Option Tmp} {v : AV} : putT (vT n a t) d v = vT n (putV a d v) t := by
  cases d with
  | none => rfl
  | some d =>
    refine List.ext_getElem (by simp [vT, putT]) fun i h1 h2 => ?_
    have hi : i < n := by simpa [vT] using h2
    simp only [putT, putV, vT]
    rw [List.getElem_set]
    by_cases h : d = i
    · subst h; simp [lookW]
    · have hb : Nat.beq d i = false := by rw [← Bool.not_eq_true, Nat.beq_eq]; exact h
      simp [lookW, h, hb]
theorem opsV_eq {n : Nat} {all : List Oper} {gs : Gs} {t : Tm} : ∀ {l : List Oper} {a : List (Nat × AV)} {w : AW} {K : Tm → AW → Prop}, opsV P hk big n all gs t l a w K = opsS P hk big all gs l (vT n a t) w K
  | [], a, w, K => rfl
  | o :: r, a, w, K => by
    simp only [opsV, opsS, vT_put, opsV_eq (l := r)]
theorem qV_eq {n : Nat} {gs : Gs} {t : Tm} : ∀ {q : List QI} {rds : List Rd} {a : List (Nat × AV)} {w : AW} {K : List Rd → Tm → AW → Prop},qV P hk big n gs t q rds a w (fun r a w => K r (vT n a t) w) = qS P hk big gs q rds (vT n a t) w K
 | [],rds,a,w,K => rfl
 | .pu g o :: r,rds,a,w,K => by simp only [qV,qS,vT_put,qV_eq (q := r)]
 | .rd g o i keep :: r,rds,a,w,K => by simp only [qV,qS,vT_put,qV_eq (q := r)]
 | .mk g o :: r,rds,a,w,K => by simp only [qV,qS,vT_put,qV_eq (q := r)]
theorem planV_eq {n : Nat} {ops : List Oper} {gs : Gs} {t : Tm} : ∀ {p : Plan} {rds : List Rd} {a : List (Nat × AV)} {w : AW} {K : Tm → AW → Prop}, planV P hk big n ops gs t p rds a w K = planS P hk big ops gs p rds (vT n a t) w K
  | .bad, rds, a, w, K => rfl
  | .done q chk, rds, a, w, K => by
    simp only [planV, planS]
    rw [qV_eq (K := fun rds' t' w' => sameK P ops w' rds' (K t' w')), qV_eq (K := fun _ t' w' => K t' w')]
  | .eff q chk g o i bfi next, rds, a, w, K => by
    simp only [planV, planS, planV_eq (p := next), ← vT_put]
    rw [qV_eq (K := fun rds' t' w' => sameK P ops w' rds' (bif gdOk t' g then opS P hk big t' w' o.op o.type fun v w'' => splitB gs o.dst v fun v => planS P hk big ops gs next (rds'.filter fun r => !(bfi.testBit r.i)) (putT t' o.dst v) w'' K else planS P hk big ops gs next (rds'.filter fun r => !(bfi.testBit r.i)) (putT t' o.dst undef) w' K)),
      qV_eq (K := fun rds' t' w' => bif gdOk t' g then opS P hk big t' w' o.op o.type fun v w'' => splitB gs o.dst v fun v => planS P hk big ops gs next (rds'.filter fun r => !(bfi.testBit r.i)) (putT t' o.dst v) w'' K else planS P hk big ops gs next (rds'.filter fun r => !(bfi.testBit r.i)) (putT t' o.dst undef) w' K)]
theorem regionV_eq {n : Nat} {st : Nat} {ops : List Oper} {draw : Bool} {t : Tm} {w : AW} {K : Tm → AW → Prop} (h : t.length = n) : regionV P hk big n st ops draw t w K = regionS P hk big st ops draw t w K := by
 unfold regionV regionS
 cases draw with
 | true => simp only [planV_eq,vT_nil h]
 | false => simp only [opsV_eq,vT_nil h]
theorem codeS_ok {n : Nat} {ro : Option Nat} {ds : List Nat} : ∀ {a : Adv} {c : Code} {t : Tm} {w : AW} {K : AExit → Tm → AW → Prop}, codeS P hk big n a c t w K → codeL P hk ro c t ds w fun e t' w' => stays (defsM P c) t t' ∧ K e t' w'
  | .lf, c, t, w, K, h => by
    unfold codeL
    simp only [codeS] at h
    split at h
    · exact wpL_in (t := .code ro .skip ⟨t, ds, w⟩) (show ds = ds ∧ stays _ t t ∧ K .normal t w from ⟨rfl, stays_refl _ _, h⟩)
    · exact wpL_in (t := .code ro (.label _) ⟨t, ds, w⟩) (show ds = ds ∧ stays _ t t ∧ K .normal t w from ⟨rfl, stays_refl _ _, h⟩)
    · exact wpL_in (t := .code ro .ret ⟨t, ds, w⟩) (show ds = ds ∧ stays _ t t ∧ K .ret t w from ⟨rfl, stays_refl _ _, h⟩)
    · exact wpL_in (t := .code ro (.exit _) ⟨t, ds, w⟩) (show ds = ds ∧ stays _ t t ∧ K (.exit _) t w from ⟨rfl, stays_refl _ _, h⟩)
    · rename_i id ops draw
      exact wpL_in (t := .code ro _ _) (show wRegion P (wpL P hk) ops.toList draw ⟨t, ds, w⟩ _ from regionS_ok (id := id) (fun t' w' ha h => ⟨rfl, ha, h⟩) h)
    · exact h.elim
  | .gt, c, t, w, K, h => by
    unfold codeL
    simp only [codeS] at h
    split at h
    · rename_i id ops draw
      exact wpL_in (t := .code ro _ _) (show wRegion P (wpL P hk) ops.toList draw ⟨t, ds, w⟩ _ from regionS_ok (id := id) (fun t' w' ha h => ⟨rfl, ha, h⟩) h)
    · exact h.elim
  | .lv, c, t, w, K, h => by
    unfold codeL
    simp only [codeS] at h
    split at h
    · rename_i id ops draw
      obtain ⟨hn, h⟩ := gd_iff.1 h
      rw [regionV_eq (Nat.eq_of_beq_eq_true hn)] at h
      exact wpL_in (t := .code ro _ _) (show wRegion P (wpL P hk) ops.toList draw ⟨t, ds, w⟩ _ from regionS_ok (id := id) (fun t' w' ha h => ⟨rfl, ha, h⟩) h)
    · exact h.elim
  | .gv, c, t, w, K, h => by
    unfold codeL
    simp only [codeS] at h
    split at h
    · rename_i id ops draw
      obtain ⟨hn, h⟩ := gd_iff.1 h
      rw [regionV_eq (Nat.eq_of_beq_eq_true hn)] at h
      exact wpL_in (t := .code ro _ _) (show wRegion P (wpL P hk) ops.toList draw ⟨t, ds, w⟩ _ from regionS_ok (id := id) (fun t' w' ha h => ⟨rfl, ha, h⟩) h)
    · exact h.elim
  | .fv, c, t, w, K, h => by
    unfold codeL
    simp only [codeS] at h
    split at h
    · rename_i id ops draw
      obtain ⟨hn, h⟩ := gd_iff.1 h
      rw [regionV_eq (Nat.eq_of_beq_eq_true hn)] at h
      exact wpL_in (t := .code ro _ _) (show wRegion P (wpL P hk) ops.toList draw ⟨t, ds, w⟩ _ from regionS_ok (id := id) (fun t' w' ha h => ⟨rfl, ha, h⟩) h)
    · exact h.elim
  | .sq x y, c, t, w, K, h => by
    simp only [codeS] at h
    split at h
    · rename_i a b
      refine wpL_in (t := .code ro _ _) (wpL_mono _ _ _ (exK_mono fun e s hs => ?_) (codeS_ok (a := x) (ro := ro) (ds := ds) h))
      obtain ⟨h1, ha, h2⟩ := hs
      obtain ⟨t', ds', w'⟩ := s
      simp only at h1; subst h1
      cases e
      case normal =>
        show codeL P hk ro b t' ds' w' fun e t'' w' => stays (defsM P (a.seq b)) t t'' ∧ K e t'' w'
        exact codeL_mono (fun e t w h => ⟨stays_trans (stays_l ha) (stays_r h.1), h.2⟩) (codeS_ok (a := y) h2)
      all_goals exact ⟨rfl, stays_l ha, h2⟩
    · exact h.elim
  | .sj l x y, c, t, w, K, h => by
    simp only [codeS, join] at h
    split at h
    · rename_i a b
      refine wpL_in (t := .code ro _ _) (wpL_mono _ _ _ (exK_mono fun e s hs => ?_) (codeS_ok (a := x) (ro := ro) (ds := ds) h))
      obtain ⟨h1, ha, h2⟩ := hs
      obtain ⟨t', ds', w'⟩ := s
      simp only at h1; subst h1
      cases e
      case normal =>
        have h2 : gd (Nat.beq t'.length n) _ := h2
        rw [gd_iff] at h2
        have h3 := onL_ok h2.2 (getT t')
        rw [fillT_live (Nat.eq_of_beq_eq_true h2.1) ha] at h3
        show codeL P hk ro b t' ds' w' fun e t'' w' => stays (defsM P (a.seq b)) t t'' ∧ K e t'' w'
        exact codeL_mono (fun e t w h => ⟨stays_trans (stays_l ha) (stays_r h.1), h.2⟩) (codeS_ok (a := y) h3)
      all_goals exact ⟨rfl, stays_l ha, h2⟩
    · exact h.elim
  | .sk l x y, c, t, w, K, h => by
    simp only [codeS, join] at h
    split at h
    · rename_i a b
      refine wpL_in (t := .code ro _ _) (wpL_mono _ _ _ (exK_mono fun e s hs => ?_) (codeS_ok (a := x) (ro := ro) (ds := ds) h))
      obtain ⟨h1, ha, h2⟩ := hs
      obtain ⟨t', ds', w'⟩ := s
      simp only at h1; subst h1
      cases e
      case normal =>
        have h2 : gd (Nat.beq t'.length n) _ := h2
        rw [gd_iff] at h2
        have h3 := onL_ok h2.2 (getT t')
        rw [fillJ_live (Nat.eq_of_beq_eq_true h2.1)] at h3
        show codeL P hk ro b t' ds' w' fun e t'' w' => stays (defsM P (a.seq b)) t t'' ∧ K e t'' w'
        exact codeL_mono (fun e t w h => ⟨stays_trans (stays_l ha) (stays_r h.1), h.2⟩) (codeS_ok (a := y) h3)
      all_goals exact ⟨rfl, stays_l ha, h2⟩
    · exact h.elim
  | .cd x y, c, t, w, K, h => by
    simp only [codeS] at h
    split at h
    · rename_i c a b
      simp only [evK, onM_iff, onB_iff, ifT_iff] at h
      obtain ⟨v, h1, z, rfl, h2, h3⟩ := h
      refine wpL_in (t := .code ro _ _) ⟨z, h1, ?_⟩
      cases z
      · show codeL P hk ro b t ds w fun e t'' w' => stays (defsM P (.cond c a b)) t t'' ∧ K e t'' w'
        exact codeL_mono (fun e t w h => ⟨stays_r h.1, h.2⟩) (codeS_ok (a := y) (h3 rfl))
      · show codeL P hk ro a t ds w fun e t'' w' => stays (defsM P (.cond c a b)) t t'' ∧ K e t'' w'
        exact codeL_mono (fun e t w h => ⟨stays_l h.1, h.2⟩) (codeS_ok (a := x) (h2 rfl))
    · exact h.elim
  | .bl x, c, t, w, K, h => by
    simp only [codeS] at h
    split at h
    · rename_i id b
      refine wpL_in (t := .code ro _ _) (wpL_mono _ _ _ (exK_mono fun e s hs => ?_) (codeS_ok (a := x) (ro := ro) (ds := ds) h))
      obtain ⟨h1, ha, h2⟩ := hs
      obtain ⟨t', ds', w'⟩ := s
      simp only at h1; subst h1
      cases e
      case exit i =>
        simp only [exitK] at h2
        simp only [wBlock]
        cases hb : Nat.beq i id with
        | true => rw [hb] at h2; rw [if_pos (Nat.eq_of_beq_eq_true hb)]; exact ⟨rfl, ha, h2⟩
        | false => rw [hb] at h2; rw [if_neg (fun e => by subst e; simp at hb)]; exact ⟨rfl, ha, h2⟩
      all_goals exact ⟨rfl, ha, h2⟩
    · exact h.elim
  | .lp l x, c, t, w, K, h => by
    simp only [codeS] at h
    split at h
    · rename_i b
      simp only [gd_iff] at h
      obtain ⟨hl, h⟩ := h
      refine h (fun vs w => ∀ t' : Tm, stays (defsM P b) t t' → t'.length = n → liveT l t' = vs → codeL P hk ro (.loop b) t' ds w fun e t'' w' => stays (defsM P b) t t'' ∧ K e t'' w') ?_ t (stays_refl _ _) (Nat.eq_of_beq_eq_true hl) rfl
      intro vs w hF t' ha hl hv
      subst hv
      have h3 := onL_ok hF (getT t')
      rw [fillT_live hl ha] at h3
      refine wpL_in (t := .code ro _ _) (wpL_mono _ _ _ (exK_mono fun e s hs => ?_) (codeS_ok (a := x) (ro := ro) (ds := ds) h3))
      obtain ⟨h1, hb, h2⟩ := hs
      obtain ⟨t'', ds', w'⟩ := s
      simp only at h1; subst h1
      cases e
      case normal =>
        have h2 : Nat.beq t''.length n = true ∧ _ := h2
        exact h2.2 t'' (stays_trans ha hb) (Nat.eq_of_beq_eq_true h2.1) rfl
      all_goals exact ⟨rfl, stays_trans ha hb, h2⟩
    · exact h.elim
theorem resS_ok {t : Tm} {w : AW} : ∀ {l : List ResultVar} {K : List AV → Prop}, resS P big t w l K → ∃ vs, resultsL P w t l = some vs ∧ K vs
  | [], K, h => ⟨[], rfl, h⟩
  | .tmp i :: r, K, h => by
    obtain ⟨vs, h1, h2⟩ := resS_ok (l := r) h
    exact ⟨_, by simp [resultsL, resultA, h1], h2⟩
  | .cell a ty :: r, K, h => by
    simp only [resS, onP_iff] at h
    obtain ⟨b, o, h1, h⟩ := h
    obtain ⟨v, h2, h⟩ := atT_ok P _ h
    obtain ⟨vs, h3, h4⟩ := resS_ok (l := r) h
    exact ⟨_, by simp [resultsL, resultA, h1, asP, h2, h3], h4⟩
theorem fnG_ok {f : FuncId} {fn : Func} {adv : Adv} {args : List AV} {w : AW} {K : AV → AW → Prop} (hf : P.funcs[f]? = some fn) (hnk : hk f args w = none) (h : fnG P hk big fn adv args w K) : Cl P hk f args w K := by
 unfold fnG at h
 split at h
 ·rename_i c hb
  refine wpL_in (t := .call f args w) ?_
  show wCall P (wpL P hk) hk f args w _
  unfold wCall
  rw [hnk]
  refine ⟨fn,hf,?_⟩
  unfold wEnter
  rw [hb]
  refine wpL_mono _ _ _ (exK_mono fun e s hs => ?_) (codeS_ok (ro := none) (ds := []) h)
  obtain ⟨h1,_,h2⟩ := hs
  obtain ⟨t',ds',w'⟩ := s
  simp only at h1; subst h1
  cases e
  case normal =>
   obtain ⟨vs,h3,h4⟩ := resS_ok h2
   exact ⟨.inl rfl,w',vs,rfl,h3,h4⟩
  case ret =>
   obtain ⟨vs,h3,h4⟩ := resS_ok h2
   exact ⟨.inr rfl,w',vs,rfl,h3,h4⟩
  all_goals exact h2.elim
 ·exact h.elim
theorem loopP_ind {F : (List AV → AW → Prop) → List AV → AW → Prop} (I : Nat → List AV → AW → Prop)
  (step : ∀ n l w,I n l w → ∀ R : List AV → AW → Prop,(∀ m,m < n → ∀ l' w',I m l' w' → R l' w') → F R l w) {n : Nat} {l : List AV} {w : AW} (h : I n l w) : loopP l w F := by
 intro R hR
 have key : ∀ n l w,I n l w → R l w := by
  intro n
  induction n using Nat.strongRecOn with
  | ind n ih => exact fun l w hi => hR l w (step n l w hi R fun m hm l' w' h' => ih m hm l' w' h')
 exact key n l w h
theorem join_of {J : List AV → AW → Prop} {F : (List AV → AW → Prop) → Prop} (I : List AV → AW → Prop) (h1 : ∀ l w,I l w → J l w) (h2 : ∀ J : List AV → AW → Prop,(∀ l w,I l w → J l w) → F J) : join J F := h2 J h1
theorem fnS_ok {f : FuncId} {fn : Func} {adv : Adv} {args : List AV} {w : AW} {K : AV → AW → Prop} (hf : P.funcs[f]? = some fn) (hnk : hk f args w = none) (h : fnS P hk fn adv args w K) : Cl P hk f args w K := fnG_ok hf hnk h
end
end Go.Sx
/-! A function's code in parts, one behind the other: each part is a formula of its own. -/
namespace Go.Sx
set_option linter.unusedVariables false
section
variable {P : Program} {hk : Hook} {big : Bool}
theorem last_ok {ro : Option Nat} {ds : List Nat} {n : Nat} {adv : Adv} {c : Code} {t : Tm} {w : AW} {K : AExit → Tm → AW → Prop} (h : codeS P hk big n adv c t w K) : codeL P hk ro c t ds w K := codeL_mono (fun _ _ _ h => h.2) (codeS_ok h)
theorem fnL_ok {f : FuncId} {fn : Func} {c : Code} {args : List AV} {w : AW} {K : AV → AW → Prop} (hf : P.funcs[f]? = some fn) (hnk : hk f args w = none) (hb : fn.body = some c)
  (h : codeL P hk none c (args ++ List.replicate (fn.ntmps - args.length) undef) [] w fun e t w => leaveS P big fn e t w K) : Cl P hk f args w K := by
 refine wpL_in (t := .call f args w) ?_
 show wCall P (wpL P hk) hk f args w _
 unfold wCall
 rw [hnk]
 refine ⟨fn,hf,?_⟩
 unfold wEnter
 rw [hb]
 refine wpL_mono _ _ _ (exK_mono fun e s hs => ?_) h
 obtain ⟨h1,h2⟩ := hs
 obtain ⟨t',ds',w'⟩ := s
 simp only at h1; subst h1
 cases e
 case normal =>
  obtain ⟨vs,h3,h4⟩ := resS_ok h2
  exact ⟨.inl rfl,w',vs,rfl,h3,h4⟩
 case ret =>
  obtain ⟨vs,h3,h4⟩ := resS_ok h2
  exact ⟨.inr rfl,w',vs,rfl,h3,h4⟩
 all_goals exact h2.elim
end
end Go.Sx
