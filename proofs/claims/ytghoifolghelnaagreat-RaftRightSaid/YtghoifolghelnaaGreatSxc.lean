/-
 The meaning of code on the abstract machine,as a program (the second part).
 No condition beyond those that each theorem names.
-/
import Derived.Test.YtghoifolghelnaaGreatSxb
set_option linter.unusedVariables false
set_option linter.unusedSimpArgs false
/-! What makes and changes memory, quicker; the quick evaluator. -/
namespace Go.Sx
noncomputable section
section ops
variable (P : Program)
def okF (a : AV) : Bool := AV.rec (motive_1 := fun _ => Bool) (motive_2 := fun _ => Bool) (fun _ _ => true) (fun _ => true) (fun _ => true) (true) (fun _ _ => true) (true) (fun _ _ _ _ _ => true) (true) (fun _ => true) (true) (fun _ _ _ _ _ => true) (fun _ => true) (true) (fun _ _ _ => true) (fun _ _ => false) (fun _ _ => false) (true) (fun _ _ _ _ => true) a 
theorem okF_eq (a : AV) : okF a = okCell a := by cases a <;> rfl
def allOk (l : List AV) : Bool := List.rec (motive := fun _ => Bool) true (fun a _ ih => Bool.rec (motive := fun _ => Bool) false ih (okF a)) l
theorem allOk_eq : ∀ l, allOk l = l.all okCell
  | [] => rfl
  | a :: l => by
    show Bool.rec (motive := fun _ => Bool) false (allOk l) (okF a) = _
    rw [allOk_eq l, okF_eq, List.all_cons]; cases okCell a <;> rfl
def lenIs (n : Nat) (l : List AV) : Bool := hasN n l && !hasN (Nat.succ n) l
theorem lenIs_iff {n : Nat} {l : List AV} : lenIs n l = true ↔ l.length = n := by
 unfold lenIs
 rw [hasN_eq,hasN_eq]
 simp
 omega
theorem lenIs_eq {n : Nat} {l : List AV} : lenIs n l = Nat.beq n l.length := by
  cases h : lenIs n l with
  | true => rw [lenIs_iff.1 h, Nat.beq_refl]
  | false =>
    rw [beq_ff]
    intro h'
    rw [lenIs_iff.2 h'.symm] at h
    cases h
def zeroOk (t : TypeId) : Option (List AV) := (zeroOf P t).bind fun z => guardO (z.cells.all okCell) (some z.cells)
def rep1 (v : AV) (n : Nat) : List AV := Nat.rec (motive := fun _ => List AV) [] (fun _ ih => v :: ih) n
def replF (n : Nat) (z : List AV) : List AV := match z with
 | [v] => rep1 v n
 | z => repl n z
theorem replF_eq (n : Nat) (z : List AV) : replF n z = repl n z := by
  unfold replF
  split
  · rename_i v
    induction n with
    | zero => rfl
    | succ n ih =>
      show v :: rep1 v n = [v] ++ repl n [v]
      rw [ih]; rfl
  · rfl
def allocE (w : AW) (ev : Ev) (o : Op) : Option (AV × AO) :=
  match o with
  | .alloc t => bnd (zeroOk P t) fun z => some (.ptr w.size 0, cellsAO w z)
  | .box _ x => bnd (ev x) fun v => cond (allOk v.cells) (some (.ptr w.size 0, cellsAO w v.cells)) none
  | .buildSlice t len ps => bnd (elemOf P t) fun e => bnd (szOf P e) fun s => bnd (zeroOf P e) fun z => bnd (partsE ev ps) fun ps =>
      guardO (Nat.ble (len * s) 65536 && okParts ps && z.cells.all okCell) ((fillA (fun i => some (i * s, s)) (repl len z.cells) ps).map fun cs => (.slice w.size 0 len len none, cellsAO w cs))
  | .makeMap _ none => some (.map w.size, .map [] 0)
  | .makeSlice t l c => bnd (elemOf P t) fun e => bnd (ev l) fun l => bnd (asN l) fun l => bnd (ev c) fun c => bnd (asN c) fun c => bnd (zeroOf P e) fun z => bnd (bytesOf P e) fun bytes =>
      guardO (Nat.ble l c && Nat.ble (c * bytes) (2 ^ 47) && Nat.blt c (2 ^ 63) && z.cells.all okCell) (some (.slice w.size 0 l c none, cellsAO w (replF c z.cells)))
  | .convert s d x => bnd (ev x) fun v => match v with
    | .str b => bnd (P.underlying s) fun us => bnd (elemOf P d) fun e => bnd (P.underlying e) fun ue => guardO (tdString us && tdU8 ue) (some (.slice w.size 0 b.length b.length (some 1), cellsAO w (cellsOfBytes b)))
    | _ => none
  | .range t x => bnd (ev x) fun v => (rangeA P w t v).map fun o => (.ptr w.size 0, o)
  | _ => none
theorem allocE_ok {w : AW} {ev : Ev} {tmps : Tm} (hev : EvOk ev tmps) {o : Op} {x : AV × AO} (h : allocE P w ev o = some x) : allocOp P w tmps o = some x := by
 unfold allocE at h
 split at h
 ·rename_i t
  simp only [bnd_eq,zeroOk,Option.bind_eq_some_iff] at h
  obtain ⟨z,⟨z',h1,h2⟩,h3⟩ := h
  simp only [guardO] at h2
  obtain ⟨h4,h5⟩ := cond_some h2
  cases h5
  simp only [allocOp,h1,Option.bind_some,guardO,h4,cond_true]
  exact h3
 ·rename_i t y
  simp only [bnd_eq,Option.bind_eq_some_iff] at h
  obtain ⟨v,h1,h2⟩ := h
  rw [allOk_eq] at h2
  simp only [allocOp,hev _ _ h1,Option.bind_some]
  exact h2
 ·rename_i t len ps
  simp only [bnd_eq,Option.bind_eq_some_iff] at h
  obtain ⟨e,h1,s,h2,z,h3,ps',h4,h5⟩ := h
  simp only [allocOp,h1,h2,h3,partsE_ok hev h4,Option.bind_some]
  exact h5
 ·exact h
 ·rename_i t l c
  simp only [bnd_eq,Option.bind_eq_some_iff] at h
  obtain ⟨e,h1,lv,h2,ln,h3,cv,h4,cn,h5,z,h6,bytes,h7,h8⟩ := h
  rw [replF_eq] at h8
  simp only [allocOp,h1,hev _ _ h2,h3,hev _ _ h4,h5,h6,h7,Option.bind_some]
  exact h8
 ·rename_i s d y
  simp only [bnd_eq,Option.bind_eq_some_iff] at h
  obtain ⟨v,h1,h2⟩ := h
  simp only [allocOp,hev _ _ h1,Option.bind_some]
  split at h2
  ·simp only [Option.bind_eq_some_iff] at h2
   obtain ⟨us,h3,e,h4,ue,h5,h6⟩ := h2
   simp only [h3,h4,h5,Option.bind_some]
   exact h6
  ·cases h2
 ·rename_i t y
  simp only [bnd_eq,Option.bind_eq_some_iff] at h
  obtain ⟨v,h1,h2⟩ := h
  simp only [allocOp,hev _ _ h1,Option.bind_some]
  exact h2
 ·cases h
def storeF (w : AW) (t : TypeId) (b o : Nat) (v : AV) : Option AW :=
 bnd (szOf P t) fun n => match v with
  | .agg cs => cond (lenIs n cs && allOk cs) (putF w b o cs) none
  | .tup _ => none
  | v => cond (Nat.beq 1 n) (putF w b o [v]) none
theorem storeF_ok {w : AW} {t : TypeId} {b o : Nat} {v : AV} {w' : AW} (h : storeF P w t b o v = some w') : storeA P w t b o v = some w' := by
 simp only [storeF,bnd_eq,Option.bind_eq_some_iff] at h
 obtain ⟨n,h1,h2⟩ := h
 unfold storeA
 rw [h1,Option.bind_some]
 have one : ∀ {v : AV},v.cells = [v] → okCell v = true → cond (Nat.beq 1 n) (putF w b o [v]) none = some w' → guardO (Nat.beq v.cells.length n && v.cells.all okCell) (w.putCells b o v.cells) = some w' := fun hc hok h => by
  obtain ⟨h3,h4⟩ := cond_some h
  rw [hc]
  simp only [guardO,List.length_singleton,h3,List.all_cons,hok,List.all_nil,Bool.and_self,cond_true]
  rw [← putF_eq]; exact h4
 cases v
 case agg cs =>
  obtain ⟨h3,h4⟩ := cond_some h2
  simp only [Bool.and_eq_true,lenIs_iff,allOk_eq] at h3
  simp only [guardO,AV.cells,h3.1,h3.2,Nat.beq_refl,Bool.and_self,cond_true]
  rw [← putF_eq]; exact h4
 case tup cs => cases h2
 all_goals exact one rfl rfl h2
def insF (k v : AV) : List (AV × AV) → List (AV × AV)
 | [] => [(k,v)]
 | (a,u) :: es => cond (keyEq a k) ((k,v) :: es) ((a,u) :: insF k v es)
theorem insF_eq (k v : AV) : ∀ es,insF k v es = insM k v es
 | [] => rfl
 | (a,u) :: es => by unfold insF insM; rw [keyEq_eq,insF_eq k v es]
def insK (k v : AV) (es : List (AV × AV)) : List (AV × AV) := AV.rec (motive_1 := fun _ => AV → AV → List (AV × AV) → List (AV × AV)) (motive_2 := fun _ => AV → AV → List (AV × AV) → List (AV × AV)) (fun _ n k v es => insI k v n es) (fun _ => fun k v es => insF k v es) (fun _ => fun k v es => insF k v es) (fun k v es => insF k v es) (fun _ _ => fun k v es => insF k v es) (fun k v es => insF k v es) (fun _ _ _ _ _ => fun k v es => insF k v es) (fun k v es => insF k v es) (fun _ => fun k v es => insF k v es) (fun k v es => insF k v es) (fun _ _ _ _ _ => fun k v es => insF k v es) (fun _ => fun k v es => insF k v es) (fun k v es => insF k v es) (fun _ _ _ => fun k v es => insF k v es) (fun _ _ => fun k v es => insF k v es) (fun _ _ => fun k v es => insF k v es) (fun k v es => insF k v es) (fun _ _ _ _ => fun k v es => insF k v es) k k v es
theorem insK_eq {k v : AV} {es : List (AV × AV)} (h : okKeys k es = true) : insK k v es = insM k v es := by
 cases k <;> try exact insF_eq ..
 exact insI_eq h
def mapSetF (w : AW) (t : TypeId) (m k v : AV) : Option (AV × AW) :=
 match m with
 | .map r => bnd (mapAt w r) fun es => bnd ((P.underlying t).bind tdMap) fun ke => cond (okKeyF P ke.1 k es.1) (some (undef,w.set r (.map (insK k v es.1) (Nat.succ es.2)))) none
 | _ => none
theorem mapSetF_eq (w : AW) (t : TypeId) (m k v : AV) : mapSetF P w t m k v = mapSetA P w t m k v := by
  unfold mapSetF mapSetA
  cases m <;> try rfl
  rename_i r
  simp only [bnd_eq, okKeyF_eq]
  cases mapAt w r with
  | none => rfl
  | some es =>
    simp only [Option.bind_some]
    cases (P.underlying t).bind tdMap with
    | none => rfl
    | some ke =>
      simp only [Option.bind_some]
      cases ho : okKey P ke.1 k es.1 with
      | false => rfl
      | true =>
        have : okKeys k es.1 = true := by
          have h2 := ho
          unfold okKey at h2
          simp only [Bool.and_eq_true] at h2
          rw [okKeys_eq]; exact h2.2
        rw [insK_eq this]
        rfl
def srcF (w : AW) (size : Nat) : AV → Option (Nat × List AV)
 | .slice b o n _ _ => bnd (readF w b o (Nat.mul n size)) fun cs => some (n,cs)
 | x => srcCells w size x
theorem srcF_eq (w : AW) (size : Nat) (x : AV) : srcF w size x = srcCells w size x := by
 unfold srcF
 split
 ·rw [bnd_eq,readF_eq]
  unfold srcCells
  show _ = (w.read _ _ _).map _
  rename_i b o n c e
  show (w.read b o (n * size)).bind _ = _
  cases w.read b o (n * size) <;> rfl
 ·rfl
def appSrcF (w : AW) (e : TypeId) (size bytes : Nat) (xt : Option TypeId) (x : AV) : Option (Nat × List AV) :=
  match xt with
  | none => srcF w size x
  | some t => bnd (P.underlying t) fun u => match tdInt u with
    | some _ => madeCells P e bytes x
    | none => srcF w size x
theorem appSrcF_eq (w : AW) (e : TypeId) (size bytes : Nat) (xt : Option TypeId) (x : AV) : appSrcF P w e size bytes xt x = appSrc P w e size bytes xt x := by
  unfold appSrcF appSrc
  cases xt with
  | none => exact srcF_eq w size x
  | some t =>
    simp only [bnd_eq, srcF_eq]
    cases P.underlying t <;> rfl
def joinF (old new : List AV) : List AV := List.casesOn (motive := fun _ => List AV) old new (fun a l => (a :: l) ++ new)
theorem joinF_eq (old new : List AV) : joinF old new = old ++ new := by cases old <;> rfl
def growF (w : AW) (size : Nat) (b o len cap : Nat) (ex : Option Nat) (n : Nat) (new : List AV) : Option (AV × AW) :=
  bnd (cellsF w b) fun cs => bnd (takeC cs o (Nat.mul len size)) fun old =>
    match ex with
    | none => some (.slice w.size 0 (Nat.add len n) (Nat.add len n) (some size), newCells w (joinF old new))
    | some s => cond (Nat.beq s size && Nat.beq len cap && lenIs (Nat.add o (Nat.mul len size)) cs)
      (bnd (w.heir b (joinF old new)) fun w' => some (.slice w.size 0 (Nat.add len n) (Nat.add len n) (some size), w')) none
theorem growF_eq (w : AW) (size b o len cap : Nat) (ex : Option Nat) (n : Nat) (new : List AV) : growF w size b o len cap ex n new = growA w size b o len cap ex n new := by
  unfold growF growA
  simp only [bnd_eq, cellsF_eq, takeC_eq, lenIs_eq, joinF_eq]
  cases w.cells? b with
  | none => rfl
  | some cs =>
    simp only [Option.bind_some]
    show (takeCells cs o (len * size)).bind _ = _
    cases takeCells cs o (len * size) with
    | none => rfl
    | some old =>
      cases ex with
      | none => rfl
      | some s =>
        simp only [Option.bind_some]
        unfold guardO
        cases w.heir b (old ++ new) <;> rfl
def isSl (a : AV) : Bool := AV.rec (motive_1 := fun _ => Bool) (motive_2 := fun _ => Bool) (fun _ _ => false) (fun _ => false) (fun _ => false) (false) (fun _ _ => false) (false) (fun _ _ _ _ _ => true) (false) (fun _ => false) (false) (fun _ _ _ _ _ => false) (fun _ => false) (false) (fun _ _ _ => false) (fun _ _ => false) (fun _ _ => false) (false) (fun _ _ _ _ => false) a 
def okSrcF (x : AV) (new : List AV) : Bool := Bool.rec (motive := fun _ => Bool) (allOk new) true (isSl x)
theorem okSrcF_eq (x : AV) (new : List AV) : okSrcF x new = okSrc x new := by cases x <;> first | rfl | exact allOk_eq new
def appendF (w : AW) (st : TypeId) (xt : Option TypeId) (s x : AV) : Option (AV × AW) :=
  bnd (elemOf P st) fun e => bnd (szOf P e) fun size => bnd (bytesOf P e) fun bytes => bnd (zeroOf P e) fun _ =>
  bnd (appSrcF P w e size bytes xt x) fun nn =>
    cond (Nat.beq nn.1 0) (match s with | .nilslice => some (s, w) | .slice .. => some (s, w) | _ => none)
    (cond (!Nat.beq size 0 && okSrcF x nn.2) (match s with
      | .nilslice => guardO (Nat.ble (nn.1 * bytes) room && Nat.blt nn.1 (2 ^ 62)) (some (.slice w.size 0 nn.1 nn.1 (some size), newCells w nn.2))
      | .slice b o len cap ex =>
        cond (Nat.ble (Nat.add len nn.1) cap) (bnd (putF w b (Nat.add o (Nat.mul len size)) nn.2) fun w' => some (.slice b o (Nat.add len nn.1) cap ex, w'))
        (guardO (Nat.blt ((2 * (len + nn.1) + 1000) * bytes) room && Nat.blt (len + nn.1) (2 ^ 62)) (growF w size b o len cap ex nn.1 nn.2))
      | _ => none) none)
theorem appendF_eq (w : AW) (st : TypeId) (xt : Option TypeId) (s x : AV) : appendF P w st xt s x = appendA P w st xt s x := by
  unfold appendF appendA
  simp only [bnd_eq, appSrcF_eq, okSrcF_eq, growF_eq, putF_eq]
  cases elemOf P st with
  | none => rfl
  | some e =>
    simp only [Option.bind_some]
    cases szOf P e with
    | none => rfl
    | some size =>
      simp only [Option.bind_some]
      cases bytesOf P e with
      | none => rfl
      | some bytes =>
        simp only [Option.bind_some]
        cases zeroOf P e with
        | none => rfl
        | some z =>
          simp only [Option.bind_some]
          cases appSrc P w e size bytes xt x with
          | none => rfl
          | some nn =>
            obtain ⟨n, new⟩ := nn
            simp only [Option.bind_some]
            unfold guardO
            cases s <;> try rfl
            rename_i b o len cap ex
            simp only []
            show _ = cond _ _ (cond _ (cond (Nat.ble (len + n) cap) ((w.putCells b (o + len * size) new).map fun w' => (AV.slice b o (len + n) cap ex, w')) _) _)
            have : ((w.putCells b (o + len * size) new).map fun w' => (AV.slice b o (len + n) cap ex, w')) = (w.putCells b (Nat.add o (Nat.mul len size)) new).bind fun w' => some (AV.slice b o (Nat.add len n) cap ex, w') := by
              show ((w.putCells b (o + len * size) new).map fun w' => (AV.slice b o (len + n) cap ex, w')) = (w.putCells b (o + len * size) new).bind fun w' => some (AV.slice b o (len + n) cap ex, w')
              cases w.putCells b (o + len * size) new <;> rfl
            rw [this]
            rfl
def copyF (w : AW) (st : TypeId) (dst src : AV) : Option (AV × AW) :=
  bnd (elemOf P st) fun e => bnd (szOf P e) fun size => bnd (srcF w size src) fun nc =>
    match dst with
    | .nilslice => some (.int .i64 0, w)
    | .slice b o len _ _ =>
      cond (Nat.beq (Nat.min nc.1 len) 0) (some (.int .i64 0, w))
      (cond (allOk nc.2) (bnd (putF w b o (takeF (Nat.mul (Nat.min nc.1 len) size) nc.2)) fun w' => some (.int .i64 (Nat.min nc.1 len), w')) none)
    | _ => none
theorem copyF_eq (w : AW) (st : TypeId) (dst src : AV) : copyF P w st dst src = copyA P w st dst src := by
  unfold copyF copyA
  simp only [bnd_eq, srcF_eq, allOk_eq, putF_eq, takeF_eq]
  cases elemOf P st with
  | none => rfl
  | some e =>
    simp only [Option.bind_some]
    cases szOf P e with
    | none => rfl
    | some size =>
      simp only [Option.bind_some]
      cases srcCells w size src with
      | none => rfl
      | some nc =>
        obtain ⟨n, cells⟩ := nc
        simp only [Option.bind_some]
        cases dst <;> try rfl
        rename_i b o len cap ex
        simp only []
        unfold guardO
        show cond _ _ (cond _ ((w.putCells b o (cells.take (Nat.min n len * size))).bind fun w' => some (AV.int .i64 (Nat.min n len), w')) none) = _
        cases w.putCells b o (cells.take (Nat.min n len * size)) <;> rfl
def builtinEE (w : AW) (ev : Ev) (b : Builtin) (args : Array Operand) (ts : Array TypeId) : Option (AV × AW) :=
  bnd (evs ev args.toList) fun vs => match vs with
    | x :: r => bnd (ts[0]?) fun t => match r with
      | [y] => match b with
        | .append => appendF P w t ts[1]? x y
        | .copy => copyF P w t x y
        | .delete => deleteA P w t x y
        | _ => none
      | [] => match b with
        | .clear => (clearA P w t x).map fun w' => (undef, w')
        | _ => none
      | _ => none
    | [] => none
theorem builtinEE_ok {w : AW} {ev : Ev} {tmps : Tm} (hev : EvOk ev tmps) {b : Builtin} {args : Array Operand} {ts : Array TypeId} {x : AV × AW} (h : builtinEE P w ev b args ts = some x) : builtinE P w tmps b args ts = some x := by
  unfold builtinEE at h
  simp only [bnd_eq, Option.bind_eq_some_iff, appendF_eq, copyF_eq] at h
  obtain ⟨vs, h1, h2⟩ := h
  unfold builtinE
  rw [evs_ok hev h1, Option.bind_some]
  cases vs with
  | nil => cases h2
  | cons x r =>
    simp only [Option.bind_eq_some_iff] at h2 ⊢
    exact h2
def effE (w : AW) (ev : Ev) (o : Op) : Option (AV × AW) :=
  match o with
  | .store t a x => bnd (ev a) fun p => bnd (ev x) fun v => match p with
    | .ptr b o => bnd (storeF P w t b o v) fun w' => some (undef, w')
    | _ => none
  | .mapUpdate t m k v => bnd (ev m) fun m => bnd (ev k) fun k => bnd (ev v) fun v => mapSetF P w t m k v
  | .insert t m k v => bnd (ev m) fun m => bnd (ev k) fun k => bnd (ev v) fun v => mapSetF P w t m k v
  | .call c => match c.callee with
    | .builtin b => builtinEE P w ev b c.args c.argTypes
    | _ => none
  | .range t x => bnd (ev x) (rangeM P w t)
  | .entry i => bnd (ev i) fun p => match p with
    | .ptr b 0 => entryA w b
    | _ => none
  | _ => none
theorem effE_ok {w : AW} {ev : Ev} {tmps : Tm} (hev : EvOk ev tmps) {o : Op} {x : AV × AW} (h : effE P w ev o = some x) : effOp P w tmps o = some x := by
 unfold effE at h
 split at h
 ·simp only [bnd_eq,Option.bind_eq_some_iff] at h
  obtain ⟨p,h1,v,h2,h3⟩ := h
  simp only [effOp,hev _ _ h1,hev _ _ h2,Option.bind_some]
  split at h3
  ·simp only [Option.bind_eq_some_iff] at h3
   obtain ⟨w',h4,h5⟩ := h3
   simp only [asP,Option.bind_some,storeF_ok P h4,Option.map_some]
   exact h5
  ·cases h3
 ·simp only [bnd_eq,Option.bind_eq_some_iff] at h
  obtain ⟨m,h1,k,h2,v,h3,h4⟩ := h
  simp only [effOp,hev _ _ h1,hev _ _ h2,hev _ _ h3,Option.bind_some]
  rw [← mapSetF_eq]; exact h4
 ·simp only [bnd_eq,Option.bind_eq_some_iff] at h
  obtain ⟨m,h1,k,h2,v,h3,h4⟩ := h
  simp only [effOp,hev _ _ h1,hev _ _ h2,hev _ _ h3,Option.bind_some]
  rw [← mapSetF_eq]; exact h4
 ·simp only [effOp,effCall]
  split at h
  ·rename_i hb; simp only [hb]; exact builtinEE_ok P hev h
  ·cases h
 ·simp only [bnd_eq,Option.bind_eq_some_iff] at h
  obtain ⟨v,h1,h2⟩ := h
  simp only [effOp,hev _ _ h1,Option.bind_some]
  exact h2
 ·simp only [bnd_eq,Option.bind_eq_some_iff] at h
  obtain ⟨p,h1,h2⟩ := h
  simp only [effOp,hev _ _ h1,Option.bind_some]
  split at h2
  ·simp only [asP,Option.bind_some,guardO,Nat.beq_refl,cond_true]; exact h2
  ·cases h2
 ·cases h
end ops
end
end Go.Sx
/-! The quick evaluator. -/
namespace Go.Sx
noncomputable section
inductive FTask where
 | code (ro : Option Nat) (c : Code) (t : TT) (n : Nat) (ds : List Nat) (w : AW)
 | scope (ro : Option Nat) (b c : Code) (t : TT) (n : Nat) (ds : List Nat) (w : AW)
 | call (f : FuncId) (args : List AV) (w : AW)
 | yield (l : Nat) (args : List AV) (w : AW)
inductive FRes where
 | ex (e : AExit) (t : TT) (ds : List Nat) (w : AW)
 | val (v : AV) (w : AW)
def FTask.abs : FTask → Task
 | .code ro c t n ds w => .code ro c ⟨absT n t,ds,w⟩
 | .scope ro b c t n ds w => .scope ro b c ⟨absT n t,ds,w⟩
 | .call f args w => .call f args w
 | .yield l args w => .yield l args w
def FTask.num : FTask → Nat
 | .code _ _ _ n _ _ => n
 | .scope _ _ _ _ n _ _ => n
 | _ => 0
def FRes.abs (n : Nat) : FRes → Res
 | .ex e t ds w => .ex e ⟨absT n t,ds,w⟩
 | .val v w => .val v w
inductive IK where
 | pu | mk | ef | call | next | bad
structure FRd where
 i : Nat
 v : AV
 t : TT
def FRd.abs (n : Nat) (r : FRd) : Rd := ⟨r.i,r.v,absT n r.t⟩
section ev
variable (P : Program) (fe : FTask → Option FRes)
def ikOf (o : Op) : IK :=
  match o with
  | .next .. => .next
  | .call c => match c.callee with
    | .value _ => .call
    | .invoke .. => .bad
    | .builtin _ => match opKd P o with | .pure => .pu | .read => .pu | .make => .bad | .eff => .ef
  | o => match opKd P o with | .pure => .pu | .read => .pu | .make => .mk | .eff => .ef
def gdF (t : TT) (n : Nat) : GD → Bool
  | .always => true
  | .never => false
  | .tmp d want => match cond (Nat.blt d n) (getR t d) undef with
    | .bool b => cond b want (!want)
    | _ => false
def fResVal : FRes → Option (AV × AW)
 | .val v w => some (v,w)
 | _ => none
def fCallVal (w : AW) (args : List AV) : AV → Option (AV × AW)
 | .func f first captured => bnd (fe (.call f (first ++ (args ++ captured)) w)) fResVal
 | .yield l => bnd (fe (.yield l args w)) fResVal
 | _ => none
def fNextOp (w : AW) (ev : Ev) (i : Operand) (isStr : Bool) : Option (AV × AW) :=
  bnd (ev i) fun x => match x with
  | .ptr b 0 => match w.get b, isStr with
    | some (.strIter s p), true => some (nextStr w b s p)
    | some (.mapIter none _ _ _ _), false => some (.tup [.bool false], w)
    | some (.mapIter (some m) es c rest _), false => bnd (mapAt w m) fun x => if x.2 = c then
        match rest with
        | [] => some (.tup [.bool false], w)
        | [kv] => some (.tup [.bool true, kv.1, kv.2], w.set b (.mapIter (some m) es c [] (some (.tup [kv.1, kv.2]))))
        | _ => none
      else none
    | _, _ => none
  | _ => none
def fOp (w : AW) (ev : Ev) (k : IK) (o : Op) : Option (AV × AW) :=
  match k with
  | .pu => bnd (pureE P w ev o) fun v => some (v, w)
  | .mk => bnd (allocE P w ev o) fun x => some (x.1, w.push x.2)
  | .ef => effE P w ev o
  | .call => match o with
    | .call c => match c.callee with
      | .value f => bnd (ev f) fun fv => bnd (evs ev c.args.toList) fun as => fCallVal fe w as fv
      | _ => none
    | _ => none
  | .next => match o with
    | .next i t => fNextOp w ev i t
    | _ => none
  | .bad => none
def fSame (ops : List Oper) (n : Nat) (w : AW) (r : FRd) : Bool :=
  match nthF r.i ops with
  | some o => match pureE P w (evF r.t n) o.op with
    | some v => keyEq v r.v
    | none => false
  | none => false
def fSames (ops : List Oper) (n : Nat) (w : AW) : List FRd → Bool
 | [] => true
 | r :: rds => cond (fSame P ops n w r) (fSames ops n w rds) false
def fQ (n : Nat) : List QI → List FRd → TT → AW → Option (List FRd × TT × AW)
 | [],rds,t,w => some (rds,t,w)
 | .pu g o :: r,rds,t,w => cond (gdF t n g) (bnd (pureE P w (evF t n) o.op) fun v => fQ n r rds (putR t o.dst v) w) (fQ n r rds (putR t o.dst undef) w)
 | .rd g o i keep :: r,rds,t,w => cond (gdF t n g) (bnd (pureE P w (evF t n) o.op) fun v => fQ n r (cond keep (⟨i,v,t⟩ :: rds) rds) (putR t o.dst v) w) (fQ n r rds (putR t o.dst undef) w)
 | .mk g o :: r,rds,t,w => cond (gdF t n g) (bnd (allocE P w (evF t n) o.op) fun x => fQ n r rds (putR t o.dst x.1) (w.push x.2)) (fQ n r rds (putR t o.dst undef) w)
def fSetP : List (Tmp × AV) → TT → TT
 | [],t => t
 | x :: xs,t => fSetP xs (setR t x.1 x.2)
def fStart (ro : Option Nat) (ds : List Nat) (w : AW) : Option (Nat × List Nat × AW) :=
 match ro with
 | some l => bnd (loopAt w l) fun r => some (r.defers,ds,w)
 | none => some (w.size,w.size :: ds,w.push .deferred)
end ev
section sound
variable {P : Program} {fe : FTask → Option FRes} {rec : Task → (Res → Prop) → Prop}
def FRuns (fe : FTask → Option FRes) (rec : Task → (Res → Prop) → Prop) : Prop := ∀ k r,fe k = some r → ∀ Q : Res → Prop,Q (r.abs k.num) → rec k.abs Q
theorem gdF_eq (t : TT) (n : Nat) (g : GD) : gdF t n g = gdOk (absT n t) g := by
  cases g with
  | always => rfl
  | never => rfl
  | tmp d want =>
    simp only [gdF, gdOk]
    cases hb : Nat.blt d n with
    | true =>
      rw [Nat.blt_eq] at hb
      rw [absT_get t hb]
      simp only [cond_true]
      cases getR t d <;> try rfl
      rename_i b
      cases b <;> cases want <;> rfl
    | false =>
      have : (absT n t)[d]? = none := List.getElem?_eq_none (by rw [absT_len]; exact Nat.le_of_not_lt fun h => by rw [← Nat.blt_eq, hb] at h; cases h)
      rw [this]; rfl
theorem fCallVal_ok (h : FRuns fe rec) {w : AW} {args : List AV} {fv : AV} {x : AV × AW} {K : AV → AW → Prop} (he : fCallVal fe w args fv = some x) (hK : K x.1 x.2) : wCallVal rec w args K fv := by
 have fin : ∀ {k : FTask},bnd (fe k) fResVal = some x → rec k.abs (valK K) := fun {k} ht => by
  rw [bnd_eq,Option.bind_eq_some_iff] at ht
  obtain ⟨r,hr,hv⟩ := ht
  cases r with
  | ex => cases hv
  | val v w => cases hv; exact h _ _ hr _ hK
 cases fv <;> simp only [fCallVal] at he <;> first | exact fin he | cases he
theorem fNextOp_ok {w : AW} {ev : Ev} {tmps : Tm} (hev : EvOk ev tmps) {i : Operand} {t : Bool} {x : AV × AW} {K : AV → AW → Prop} (he : fNextOp w ev i t = some x) (hK : K x.1 x.2) : wNextOp w tmps i t K := by
 unfold fNextOp at he
 unfold wNextOp
 rw [bnd_eq,Option.bind_eq_some_iff] at he
 obtain ⟨y,hy,he⟩ := he
 split at he
 ·rename_i b
  refine ⟨b,hev _ _ hy,?_⟩
  split at he
  ·cases he; rename_i hg; simp only [hg]; exact hK
  ·cases he; rename_i hg; simp only [hg]; exact hK
  ·rename_i mm es c rest last hg
   simp only [hg]
   rw [bnd_eq,Option.bind_eq_some_iff] at he
   obtain ⟨⟨es',c'⟩,hm,he⟩ := he
   split at he
   ·rename_i hc
    simp only [] at hc
    subst hc
    refine ⟨⟨es',hm⟩,?_⟩
    split at he
    ·cases he; exact hK
    ·rename_i kv
     cases he
     intro kv' rest' hp
     have hp : (kv',rest') ∈ [(kv,[])] := hp
     cases List.mem_singleton.1 hp
     exact hK
    ·simp at he
   ·simp at he
  ·simp at he
 ·simp at he
theorem fOp_ok (h : FRuns fe rec) {w : AW} {ev : Ev} {tmps : Tm} (hev : EvOk ev tmps) {o : Op} {x : AV × AW} {K : AV → AW → Prop} (he : fOp P fe w ev (ikOf P o) o = some x) (hK : K x.1 x.2) : wOp P rec w tmps o K := by
  have pu : ∀ {o : Op}, (opKd P o = .pure ∨ opKd P o = .read) → bnd (pureE P w ev o) (fun v => some (v, w)) = some x → simpleOp P w tmps o = some x := fun {o} hk he => by
    rw [bnd_eq, Option.bind_eq_some_iff] at he
    obtain ⟨v, hv, he⟩ := he
    cases he
    rcases hk with hk | hk
    · exact simple_pure hk (pureE_ok P hev hv)
    · exact simple_read hk (pureE_ok P hev hv)
  have mk : ∀ {o : Op}, opKd P o = .make → bnd (allocE P w ev o) (fun x => some (x.1, w.push x.2)) = some x → simpleOp P w tmps o = some x := fun {o} hk he => by
    rw [bnd_eq, Option.bind_eq_some_iff] at he
    obtain ⟨v, hv, he⟩ := he
    cases he
    exact simple_make hk (allocE_ok P hev hv)
  have ef : ∀ {o : Op}, opKd P o = .eff → effE P w ev o = some x → simpleOp P w tmps o = some x := fun {o} hk he => by
    unfold simpleOp
    rw [hk]
    exact effE_ok P hev he
  have simp1 : ∀ {o : Op}, fOp P fe w ev (match opKd P o with | .pure => .pu | .read => .pu | .make => .mk | .eff => .ef) o = some x → simpleOp P w tmps o = some x := fun {o} he => by
    cases hk : opKd P o with
    | pure => rw [hk] at he; exact pu (.inl hk) he
    | read => rw [hk] at he; exact pu (.inr hk) he
    | make => rw [hk] at he; exact mk hk he
    | eff => rw [hk] at he; exact ef hk he
  cases o
  case next i t =>
    simp only [ikOf, fOp] at he
    exact fNextOp_ok hev he hK
  case call c =>
    simp only [wOp]
    unfold wCallOp
    cases hc : c.callee with
    | value f =>
      simp only [ikOf, hc, fOp, bnd_eq, Option.bind_eq_some_iff] at he
      obtain ⟨fv, hfv, as, has, hcall⟩ := he
      exact ⟨fv, as, hev _ _ hfv, evs_ok hev has, fCallVal_ok h hcall hK⟩
    | invoke r m =>
      simp only [ikOf, hc, fOp] at he
      cases he
    | builtin b =>
      simp only [ikOf, hc] at he
      refine ⟨x.1, x.2, ?_, hK⟩
      cases hk : opKd P (.call c) with
      | pure => rw [hk] at he; exact pu (.inl hk) he
      | read => rw [hk] at he; exact pu (.inr hk) he
      | make => rw [hk] at he; simp only [fOp] at he; cases he
      | eff => rw [hk] at he; exact ef hk he
  all_goals exact ⟨x.1, x.2, simp1 he, hK⟩
theorem fSame_ok {ops : List Oper} {n : Nat} {w : AW} {r : FRd} (h : fSame P ops n w r = true) : sameRd P ops w (r.abs n) := by
 unfold fSame at h
 rw [nthF_eq] at h
 split at h
 ·rename_i o ho
  split at h
  ·rename_i v hv
   rw [keyEq_eq] at h
   exact ⟨o,ho,by have := AV.beq_eq _ _ h; subst this; exact pureE_ok P (evF_ok r.t n) hv⟩
  ·cases h
 ·cases h
theorem fSames_ok {ops : List Oper} {n : Nat} {w : AW} : ∀ {rds : List FRd}, fSames P ops n w rds = true → wSame P ops w (rds.map (FRd.abs n))
  | [], _ => fun r hr => by cases hr
  | r :: rds, h => by
    unfold fSames at h
    cases hs : fSame P ops n w r with
    | false => rw [hs] at h; cases h
    | true =>
      rw [hs] at h
      intro x hx
      rcases List.mem_cons.1 hx with rfl | hx
      · exact fSame_ok hs
      · exact fSames_ok h x hx
theorem fQ_ok {n : Nat} {K : List Rd → Tm → AW → Prop} : ∀ {q : List QI} {rds : List FRd} {t : TT} {w : AW} {x : List FRd × TT × AW}, fQ P n q rds t w = some x → K (x.1.map (FRd.abs n)) (absT n x.2.1) x.2.2 → wQ P q (rds.map (FRd.abs n)) (absT n t) w K
  | [], _, _, _, _, he, hK => by simp only [fQ, Option.some.injEq] at he; subst he; exact hK
  | .pu g o :: r, rds, t, w, x, he, hK => by
    simp only [fQ, gdF_eq] at he
    simp only [wQ]
    cases hg : gdOk (absT n t) g with
    | true =>
      rw [hg] at he
      simp only [cond_true, bnd_eq, Option.bind_eq_some_iff] at he
      obtain ⟨v, hv, he⟩ := he
      refine ⟨v, pureE_ok P (evF_ok t n) hv, ?_⟩
      rw [← absT_put]; exact fQ_ok he hK
    | false => rw [hg] at he; rw [← absT_put]; exact fQ_ok he hK
  | .rd g o i keep :: r, rds, t, w, x, he, hK => by
    simp only [fQ, gdF_eq] at he
    simp only [wQ]
    cases hg : gdOk (absT n t) g with
    | true =>
      rw [hg] at he
      simp only [cond_true, bnd_eq, Option.bind_eq_some_iff] at he
      obtain ⟨v, hv, he⟩ := he
      refine ⟨v, pureE_ok P (evF_ok t n) hv, ?_⟩
      rw [← absT_put]
      have := fQ_ok he hK
      cases keep <;> exact this
    | false => rw [hg] at he; rw [← absT_put]; exact fQ_ok he hK
  | .mk g o :: r, rds, t, w, x, he, hK => by
    simp only [fQ, gdF_eq] at he
    simp only [wQ]
    cases hg : gdOk (absT n t) g with
    | true =>
      rw [hg] at he
      simp only [cond_true, bnd_eq, Option.bind_eq_some_iff] at he
      obtain ⟨v, hv, he⟩ := he
      refine ⟨v, allocE_ok P (evF_ok t n) hv, ?_⟩
      rw [← absT_put]; exact fQ_ok he hK
    | false => rw [hg] at he; rw [← absT_put]; exact fQ_ok he hK
theorem filter_abs {n bfi : Nat} (l : List FRd) : (l.filter fun r => !(tb bfi r.i)).map (FRd.abs n) = (l.map (FRd.abs n)).filter fun r => !(bfi.testBit r.i) := by
 rw [List.filter_map]
 congr 1
 apply List.filter_congr
 intro r _
 simp only [Function.comp,FRd.abs,tb_eq]
theorem abs_args (l : List AV) (n : Nat) : absT (Nat.max l.length n) (ofL 0 l .nil) = l ++ List.replicate (n - l.length) undef := abs_ofL l n
theorem abs_list (l : List AV) : absT l.length (ofL 0 l .nil) = l := by
 have := abs_ofL l 0
 have e : Nat.max l.length 0 = l.length := Nat.max_zero _
 rw [e] at this
 simpa using this
theorem fSetP_abs (n : Nat) : ∀ (l : List (Tmp × AV)) (t : TT),absT n (fSetP l t) = setParams l (absT n t)
 | [],t => rfl
 | x :: xs,t => by unfold fSetP setParams; rw [fSetP_abs n xs,absT_set]
end sound
end
end Go.Sx
/-! An evaluator in continuations: what stands in the code is looked at once; each step is small. -/
namespace Go.Sx
noncomputable section
def ifB (c x y : Bool) : Bool := Bool.rec (motive := fun _ => Bool) y x c
theorem ifB_eq (c x y : Bool) : ifB c x y = cond c x y := by cases c <;> rfl
def optB {α : Type} (x : Option α) (k : α → Bool) : Bool := Option.rec (motive := fun _ => Bool) false (fun a => k a) x
@[simp] theorem optB_none {α : Type} (k : α → Bool) : optB none k = false := rfl
@[simp] theorem optB_some {α : Type} (a : α) (k : α → Bool) : optB (some a) k = k a := rfl
theorem optB_bnd {α β : Type} (x : Option α) (f : α → Option β) (k : β → Bool) : optB (bnd x f) k = optB x fun a => optB (f a) k := by cases x <;> rfl
theorem optB_cond {α : Type} (c : Bool) (x : Option α) (k : α → Bool) : optB (cond c x none) k = ifB c (optB x k) false := by cases c <;> rfl
theorem optB_true {α : Type} {x : Option α} {k : α → Bool} (h : optB x k = true) : ∃ a,x = some a ∧ k a = true := by
 cases x with
 | none => cases h
 | some a => exact ⟨a,rfl,h⟩
/-! ### Trees -/
def kGet {α : Type} (t : Tr α) (b : Nat) : Option α :=
 Tr.rec (motive := fun _ => Nat → Option α) (fun _ => none)
  (fun _ v _ gl gr b => Bool.rec (motive := fun _ => Option α) (Bool.rec (motive := fun _ => Option α) (gr (Nat.sub (Nat.div b 2) 1)) (gl (Nat.div b 2)) (Nat.beq (Nat.mod b 2) 1)) v (Nat.beq b 0)) t b
theorem brec_eq {α : Type} (c : Bool) (x y : α) : Bool.rec (motive := fun _ => α) y x c = cond c x y := by cases c <;> rfl
theorem kGet_eq {α : Type} : ∀ (t : Tr α) (b : Nat), kGet t b = t.get b
  | .nil, b => by rw [Tr.get_nil]; rfl
  | .nd l v r, b => by
    rw [Tr.get_nd, ← kGet_eq l, ← kGet_eq r]
    show Bool.rec (motive := fun _ => Option α) (Bool.rec (motive := fun _ => Option α) (kGet r (b / 2 - 1)) (kGet l (b / 2)) (Nat.beq (b % 2) 1)) v (Nat.beq b 0) = _
    rw [brec_eq, brec_eq]
    by_cases h0 : b = 0
    · subst h0; rfl
    · rw [beq_ff h0, if_neg h0]
      by_cases h1 : b % 2 = 1
      · rw [h1]; rfl
      · rw [beq_ff h1, if_neg h1]; rfl
def kSet {α : Type} (o : α) (t : Tr α) (b : Nat) : Tr α :=
 Tr.rec (motive := fun _ => Nat → Tr α) (fun b => Tr.setN o b .nil b)
  (fun l v r sl sr b => Bool.rec (motive := fun _ => Tr α) (Bool.rec (motive := fun _ => Tr α) (.nd l v (sr (Nat.sub (Nat.div b 2) 1))) (.nd (sl (Nat.div b 2)) v r) (Nat.beq (Nat.mod b 2) 1)) (.nd l (some o) r) (Nat.beq b 0)) t b
theorem setN_nil {α : Type} (o : α) (n b : Nat) : Tr.setN o (n + 1) .nil b = cond (Nat.beq b 0) (.nd .nil (some o) .nil) (cond (Nat.beq (b % 2) 1) (.nd (Tr.setN o n .nil (b / 2)) none .nil) (.nd .nil none (Tr.setN o n .nil (b / 2 - 1)))) := rfl
theorem setN_nd {α : Type} (o : α) (n b : Nat) (l : Tr α) (v : Option α) (r : Tr α) : Tr.setN o (n + 1) (.nd l v r) b = cond (Nat.beq b 0) (.nd l (some o) r) (cond (Nat.beq (b % 2) 1) (.nd (Tr.setN o n l (b / 2)) v r) (.nd l v (Tr.setN o n r (b / 2 - 1)))) := rfl
theorem setN_enough {α : Type} (o : α) : ∀ (n m : Nat) (t : Tr α) (b : Nat), b ≤ n → b ≤ m → Tr.setN o n t b = Tr.setN o m t b := by
  intro n
  induction n with
  | zero =>
    intro m t b hn hm
    have : b = 0 := by omega
    subst this
    cases m <;> cases t <;> rfl
  | succ n ih =>
    intro m t b hn hm
    cases m with
    | zero =>
      have : b = 0 := by omega
      subst this
      cases t <;> rfl
    | succ m =>
      by_cases h0 : b = 0
      · subst h0; cases t <;> rfl
      · cases t with
        | nil => rw [setN_nil, setN_nil, ih m .nil (b / 2) (by omega) (by omega), ih m .nil (b / 2 - 1) (by omega) (by omega)]
        | nd l v r => rw [setN_nd, setN_nd, ih m l (b / 2) (by omega) (by omega), ih m r (b / 2 - 1) (by omega) (by omega)]
theorem kSet_eq {α : Type} (o : α) : ∀ (t : Tr α) (b : Nat), kSet o t b = Tr.setN o b t b
  | .nil, b => rfl
  | .nd l v r, b => by
    show Bool.rec (motive := fun _ => Tr α) (Bool.rec (motive := fun _ => Tr α) (.nd l v (kSet o r (b / 2 - 1))) (.nd (kSet o l (b / 2)) v r) (Nat.beq (b % 2) 1)) (.nd l (some o) r) (Nat.beq b 0) = _
    rw [brec_eq, brec_eq, kSet_eq o l, kSet_eq o r]
    cases b with
    | zero => rfl
    | succ b => rw [setN_nd, setN_enough o b ((b + 1) / 2) l _ (by omega) (by omega), setN_enough o b ((b + 1) / 2 - 1) r _ (by omega) (by omega)]
def kSetW (w : AW) (b : Nat) (o : AO) : AW := ⟨w.size,kSet o w.tr b⟩
theorem kSetW_eq (w : AW) (b : Nat) (o : AO) : kSetW w b o = w.set b o := by unfold kSetW AW.set; rw [kSet_eq]
def kPushW (w : AW) (o : AO) : AW := ⟨Nat.succ w.size,kSet o w.tr w.size⟩
theorem kPushW_eq (w : AW) (o : AO) : kPushW w o = w.push o := by unfold kPushW AW.push; rw [kSet_eq]
structure KSel (α : Type) where
 f : N16 α → α
structure KUpd (α : Type) where
 f : α → N16 α → N16 α
def selC {α : Type} (d : Nat) : KSel α := match d with
 | 0 => ⟨fun x => x.c0⟩
 | 1 => ⟨fun x => x.c1⟩
 | 2 => ⟨fun x => x.c2⟩
 | 3 => ⟨fun x => x.c3⟩
 | 4 => ⟨fun x => x.c4⟩
 | 5 => ⟨fun x => x.c5⟩
 | 6 => ⟨fun x => x.c6⟩
 | 7 => ⟨fun x => x.c7⟩
 | 8 => ⟨fun x => x.c8⟩
 | 9 => ⟨fun x => x.c9⟩
 | 10 => ⟨fun x => x.ca⟩
 | 11 => ⟨fun x => x.cb⟩
 | 12 => ⟨fun x => x.cc⟩
 | 13 => ⟨fun x => x.cd⟩
 | 14 => ⟨fun x => x.ce⟩
 | _ => ⟨fun x => x.cf⟩
def updC {α : Type} (d : Nat) : KUpd α := match d with
 | 0 => ⟨fun v x => N16.rec (motive := fun _ => N16 α) (fun _ c1 c2 c3 c4 c5 c6 c7 c8 c9 ca cb cc cd ce cf => ⟨v,c1,c2,c3,c4,c5,c6,c7,c8,c9,ca,cb,cc,cd,ce,cf⟩) x⟩
 | 1 => ⟨fun v x => N16.rec (motive := fun _ => N16 α) (fun c0 _ c2 c3 c4 c5 c6 c7 c8 c9 ca cb cc cd ce cf => ⟨c0,v,c2,c3,c4,c5,c6,c7,c8,c9,ca,cb,cc,cd,ce,cf⟩) x⟩
 | 2 => ⟨fun v x => N16.rec (motive := fun _ => N16 α) (fun c0 c1 _ c3 c4 c5 c6 c7 c8 c9 ca cb cc cd ce cf => ⟨c0,c1,v,c3,c4,c5,c6,c7,c8,c9,ca,cb,cc,cd,ce,cf⟩) x⟩
 | 3 => ⟨fun v x => N16.rec (motive := fun _ => N16 α) (fun c0 c1 c2 _ c4 c5 c6 c7 c8 c9 ca cb cc cd ce cf => ⟨c0,c1,c2,v,c4,c5,c6,c7,c8,c9,ca,cb,cc,cd,ce,cf⟩) x⟩
 | 4 => ⟨fun v x => N16.rec (motive := fun _ => N16 α) (fun c0 c1 c2 c3 _ c5 c6 c7 c8 c9 ca cb cc cd ce cf => ⟨c0,c1,c2,c3,v,c5,c6,c7,c8,c9,ca,cb,cc,cd,ce,cf⟩) x⟩
 | 5 => ⟨fun v x => N16.rec (motive := fun _ => N16 α) (fun c0 c1 c2 c3 c4 _ c6 c7 c8 c9 ca cb cc cd ce cf => ⟨c0,c1,c2,c3,c4,v,c6,c7,c8,c9,ca,cb,cc,cd,ce,cf⟩) x⟩
 | 6 => ⟨fun v x => N16.rec (motive := fun _ => N16 α) (fun c0 c1 c2 c3 c4 c5 _ c7 c8 c9 ca cb cc cd ce cf => ⟨c0,c1,c2,c3,c4,c5,v,c7,c8,c9,ca,cb,cc,cd,ce,cf⟩) x⟩
 | 7 => ⟨fun v x => N16.rec (motive := fun _ => N16 α) (fun c0 c1 c2 c3 c4 c5 c6 _ c8 c9 ca cb cc cd ce cf => ⟨c0,c1,c2,c3,c4,c5,c6,v,c8,c9,ca,cb,cc,cd,ce,cf⟩) x⟩
 | 8 => ⟨fun v x => N16.rec (motive := fun _ => N16 α) (fun c0 c1 c2 c3 c4 c5 c6 c7 _ c9 ca cb cc cd ce cf => ⟨c0,c1,c2,c3,c4,c5,c6,c7,v,c9,ca,cb,cc,cd,ce,cf⟩) x⟩
 | 9 => ⟨fun v x => N16.rec (motive := fun _ => N16 α) (fun c0 c1 c2 c3 c4 c5 c6 c7 c8 _ ca cb cc cd ce cf => ⟨c0,c1,c2,c3,c4,c5,c6,c7,c8,v,ca,cb,cc,cd,ce,cf⟩) x⟩
 | 10 => ⟨fun v x => N16.rec (motive := fun _ => N16 α) (fun c0 c1 c2 c3 c4 c5 c6 c7 c8 c9 _ cb cc cd ce cf => ⟨c0,c1,c2,c3,c4,c5,c6,c7,c8,c9,v,cb,cc,cd,ce,cf⟩) x⟩
 | 11 => ⟨fun v x => N16.rec (motive := fun _ => N16 α) (fun c0 c1 c2 c3 c4 c5 c6 c7 c8 c9 ca _ cc cd ce cf => ⟨c0,c1,c2,c3,c4,c5,c6,c7,c8,c9,ca,v,cc,cd,ce,cf⟩) x⟩
 | 12 => ⟨fun v x => N16.rec (motive := fun _ => N16 α) (fun c0 c1 c2 c3 c4 c5 c6 c7 c8 c9 ca cb _ cd ce cf => ⟨c0,c1,c2,c3,c4,c5,c6,c7,c8,c9,ca,cb,v,cd,ce,cf⟩) x⟩
 | 13 => ⟨fun v x => N16.rec (motive := fun _ => N16 α) (fun c0 c1 c2 c3 c4 c5 c6 c7 c8 c9 ca cb cc _ ce cf => ⟨c0,c1,c2,c3,c4,c5,c6,c7,c8,c9,ca,cb,cc,v,ce,cf⟩) x⟩
 | 14 => ⟨fun v x => N16.rec (motive := fun _ => N16 α) (fun c0 c1 c2 c3 c4 c5 c6 c7 c8 c9 ca cb cc cd _ cf => ⟨c0,c1,c2,c3,c4,c5,c6,c7,c8,c9,ca,cb,cc,cd,v,cf⟩) x⟩
 | _ => ⟨fun v x => N16.rec (motive := fun _ => N16 α) (fun c0 c1 c2 c3 c4 c5 c6 c7 c8 c9 ca cb cc cd ce _ => ⟨c0,c1,c2,c3,c4,c5,c6,c7,c8,c9,ca,cb,cc,cd,ce,v⟩) x⟩
theorem selC_eq {α : Type} (d : Nat) (x : N16 α) : (selC d).f x = x.sel d := match d with
 | 0 => rfl
 | 1 => rfl
 | 2 => rfl
 | 3 => rfl
 | 4 => rfl
 | 5 => rfl
 | 6 => rfl
 | 7 => rfl
 | 8 => rfl
 | 9 => rfl
 | 10 => rfl
 | 11 => rfl
 | 12 => rfl
 | 13 => rfl
 | 14 => rfl
 | _ + 15 => rfl
theorem updC_eq {α : Type} (d : Nat) (v : α) (x : N16 α) : (updC d).f v x = x.upd d v := match d with
 | 0 => rfl
 | 1 => rfl
 | 2 => rfl
 | 3 => rfl
 | 4 => rfl
 | 5 => rfl
 | 6 => rfl
 | 7 => rfl
 | 8 => rfl
 | 9 => rfl
 | 10 => rfl
 | 11 => rfl
 | 12 => rfl
 | 13 => rfl
 | 14 => rfl
 | _ + 15 => rfl
structure KGt where
 get : TT → AV
structure KSt where
 set : TT → AV → TT
def getC (i : Nat) : KGt := match Nat.blt i 256 with
  | true => match (selC (i % 16) : KSel AV), (selC (i / 16) : KSel (N16 AV)) with
    | ⟨f⟩, ⟨g⟩ => ⟨fun t => f (g t.lo)⟩
  | false => ⟨fun t => getR t i⟩
def setC (i : Nat) : KSt := match Nat.blt i 256 with
  | true => match (updC (i / 16) : KUpd (N16 AV)), (updC (i % 16) : KUpd AV), (selC (i / 16) : KSel (N16 AV)) with
    | ⟨u⟩, ⟨u2⟩, ⟨g⟩ => ⟨fun t v => ⟨u (u2 v (g t.lo)) t.lo, t.hi⟩⟩
  | false => ⟨fun t v => setR t i v⟩
theorem getC_eq (i : Nat) (t : TT) : (getC i).get t = getR t i := by
  unfold getC getR
  cases h : Nat.blt i 256 with
  | true =>
    show (selC (i % 16)).f ((selC (i / 16)).f t.lo) = _
    simp only [selC_eq, cond_true]
  | false => simp only [getR, h]
theorem setC_eq (i : Nat) (t : TT) (v : AV) : (setC i).set t v = setR t i v := by
  unfold setC setR
  cases h : Nat.blt i 256 with
  | true =>
    show (⟨(updC (i / 16)).f ((updC (i % 16)).f v ((selC (i / 16)).f t.lo)) t.lo, t.hi⟩ : TT) = _
    simp only [selC_eq, updC_eq, cond_true]
  | false => simp only [setR, h]
def putC (dst : Option Tmp) : KSt := match dst with
 | none => ⟨fun t _ => t⟩
 | some d => setC d
theorem putC_eq (dst : Option Tmp) (t : TT) (v : AV) : (putC dst).set t v = putR t dst v := by
 cases dst with
 | none => rfl
 | some d => exact setC_eq d t v
/-! ### Looking at values -/
def asIntOr (v : AV) (f : IntKind → Int → Bool) (g : Bool) : Bool :=
 AV.rec (motive_1 := fun _ => (IntKind → Int → Bool) → Bool → Bool) (motive_2 := fun _ => (IntKind → Int → Bool) → Bool → Bool) (fun k n f _ => f k n) (fun _ => fun _ g => g) (fun _ => fun _ g => g) (fun _ g => g) (fun _ _ => fun _ g => g) (fun _ g => g) (fun _ _ _ _ _ => fun _ g => g) (fun _ g => g) (fun _ => fun _ g => g) (fun _ g => g) (fun _ _ _ _ _ => fun _ g => g) (fun _ => fun _ g => g) (fun _ g => g) (fun _ _ _ => fun _ g => g) (fun _ _ => fun _ g => g) (fun _ _ => fun _ g => g) (fun _ g => g) (fun _ _ _ _ => fun _ g => g) v f g
def asNat (v : AV) (f : Nat → Bool) : Bool :=
 AV.rec (motive_1 := fun _ => (Nat → Bool) → Bool) (motive_2 := fun _ => (Nat → Bool) → Bool) (fun _ n f => Int.rec (motive := fun _ => (Nat → Bool) → Bool) (fun m f => f m) (fun _ _ => false) n f) (fun _ => fun _ => false) (fun _ => fun _ => false) (fun _ => false) (fun _ _ => fun _ => false) (fun _ => false) (fun _ _ _ _ _ => fun _ => false) (fun _ => false) (fun _ => fun _ => false) (fun _ => false) (fun _ _ _ _ _ => fun _ => false) (fun _ => fun _ => false) (fun _ => false) (fun _ _ _ => fun _ => false) (fun _ _ => fun _ => false) (fun _ _ => fun _ => false) (fun _ => false) (fun _ _ _ _ => fun _ => false) v f
def asPtrK (v : AV) (f : Nat → Nat → Bool) : Bool :=
 AV.rec (motive_1 := fun _ => (Nat → Nat → Bool) → Bool) (motive_2 := fun _ => (Nat → Nat → Bool) → Bool) (fun _ _ => fun _ => false) (fun _ => fun _ => false) (fun _ => fun _ => false) (fun _ => false) (fun b o f => f b o) (fun _ => false) (fun _ _ _ _ _ => fun _ => false) (fun _ => false) (fun _ => fun _ => false) (fun _ => false) (fun _ _ _ _ _ => fun _ => false) (fun _ => fun _ => false) (fun _ => false) (fun _ _ _ => fun _ => false) (fun _ _ => fun _ => false) (fun _ _ => fun _ => false) (fun _ => false) (fun _ _ _ _ => fun _ => false) v f
def asBoolK (v : AV) (f : Bool → Bool) : Bool :=
 AV.rec (motive_1 := fun _ => (Bool → Bool) → Bool) (motive_2 := fun _ => (Bool → Bool) → Bool) (fun _ _ => fun _ => false) (fun b f => f b) (fun _ => fun _ => false) (fun _ => false) (fun _ _ => fun _ => false) (fun _ => false) (fun _ _ _ _ _ => fun _ => false) (fun _ => false) (fun _ => fun _ => false) (fun _ => false) (fun _ _ _ _ _ => fun _ => false) (fun _ => fun _ => false) (fun _ => false) (fun _ _ _ => fun _ => false) (fun _ _ => fun _ => false) (fun _ _ => fun _ => false) (fun _ => false) (fun _ _ _ _ => fun _ => false) v f
def asBoolOr (v : AV) (f : Bool → Bool) (g : Bool) : Bool :=
 AV.rec (motive_1 := fun _ => (Bool → Bool) → Bool → Bool) (motive_2 := fun _ => (Bool → Bool) → Bool → Bool) (fun _ _ => fun _ g => g) (fun b f _ => f b) (fun _ => fun _ g => g) (fun _ g => g) (fun _ _ => fun _ g => g) (fun _ g => g) (fun _ _ _ _ _ => fun _ g => g) (fun _ g => g) (fun _ => fun _ g => g) (fun _ g => g) (fun _ _ _ _ _ => fun _ g => g) (fun _ => fun _ g => g) (fun _ g => g) (fun _ _ _ => fun _ g => g) (fun _ _ => fun _ g => g) (fun _ _ => fun _ g => g) (fun _ g => g) (fun _ _ _ _ => fun _ g => g) v f g
def asTupK (v : AV) (f : List AV → Bool) : Bool :=
 AV.rec (motive_1 := fun _ => (List AV → Bool) → Bool) (motive_2 := fun _ => (List AV → Bool) → Bool) (fun _ _ => fun _ => false) (fun _ => fun _ => false) (fun _ => fun _ => false) (fun _ => false) (fun _ _ => fun _ => false) (fun _ => false) (fun _ _ _ _ _ => fun _ => false) (fun _ => false) (fun _ => fun _ => false) (fun _ => false) (fun _ _ _ _ _ => fun _ => false) (fun _ => fun _ => false) (fun _ => false) (fun _ _ _ => fun _ => false) (fun _ _ => fun _ => false) (fun vs _ f => f vs) (fun _ => false) (fun _ _ _ _ => fun _ => false) v f
def asAggK (v : AV) (f : List AV → Bool) : Bool :=
 AV.rec (motive_1 := fun _ => (List AV → Bool) → Bool) (motive_2 := fun _ => (List AV → Bool) → Bool) (fun _ _ => fun _ => false) (fun _ => fun _ => false) (fun _ => fun _ => false) (fun _ => false) (fun _ _ => fun _ => false) (fun _ => false) (fun _ _ _ _ _ => fun _ => false) (fun _ => false) (fun _ => fun _ => false) (fun _ => false) (fun _ _ _ _ _ => fun _ => false) (fun _ => fun _ => false) (fun _ => false) (fun _ _ _ => fun _ => false) (fun vs _ f => f vs) (fun _ _ => fun _ => false) (fun _ => false) (fun _ _ _ _ => fun _ => false) v f
def asSlP (v : AV) (f : Nat → Nat → Nat → Bool) (g : Nat → Nat → Bool) : Bool :=
 AV.rec (motive_1 := fun _ => (Nat → Nat → Nat → Bool) → (Nat → Nat → Bool) → Bool) (motive_2 := fun _ => (Nat → Nat → Nat → Bool) → (Nat → Nat → Bool) → Bool) (fun _ _ => fun _ _ => false) (fun _ => fun _ _ => false) (fun _ => fun _ _ => false) (fun _ _ => false) (fun b o _ g => g b o) (fun _ _ => false) (fun b o len _ _ f _ => f b o len) (fun _ _ => false) (fun _ => fun _ _ => false) (fun _ _ => false) (fun _ _ _ _ _ => fun _ _ => false) (fun _ => fun _ _ => false) (fun _ _ => false) (fun _ _ _ => fun _ _ => false) (fun _ _ => fun _ _ => false) (fun _ _ => fun _ _ => false) (fun _ _ => false) (fun _ _ _ _ => fun _ _ => false) v f g
def asLenOr (v : AV) (f : Nat → Bool) (g : Bool) : Bool :=
 AV.rec (motive_1 := fun _ => (Nat → Bool) → Bool → Bool) (motive_2 := fun _ => (Nat → Bool) → Bool → Bool) (fun _ _ => fun _ g => g) (fun _ => fun _ g => g) (fun _ => fun _ g => g) (fun _ g => g) (fun _ _ => fun _ g => g) (fun _ g => g) (fun _ _ len _ _ f _ => f len) (fun _ g => g) (fun _ => fun _ g => g) (fun _ g => g) (fun _ _ _ _ _ => fun _ g => g) (fun _ => fun _ g => g) (fun _ g => g) (fun _ _ _ => fun _ g => g) (fun _ _ => fun _ g => g) (fun _ _ => fun _ g => g) (fun _ g => g) (fun _ _ _ _ => fun _ g => g) v f g
def asCells (v : AV) (f : List AV → Bool) (g : Bool) : Bool :=
 AV.rec (motive_1 := fun _ => (List AV → Bool) → Bool → Bool) (motive_2 := fun _ => (List AV → Bool) → Bool → Bool) (fun _ _ => fun _ g => g) (fun _ => fun _ g => g) (fun _ => fun _ g => g) (fun _ g => g) (fun _ _ => fun _ g => g) (fun _ g => g) (fun _ _ _ _ _ => fun _ g => g) (fun _ g => g) (fun _ => fun _ g => g) (fun _ g => g) (fun _ _ _ _ _ => fun _ g => g) (fun _ => fun _ g => g) (fun _ g => g) (fun _ _ _ => fun _ g => g) (fun cs _ f _ => f cs) (fun _ _ _ _ => false) (fun _ g => g) (fun _ _ _ _ => fun _ g => g) v f g
def asFun (v : AV) (f : FuncId → List AV → List AV → Bool) (g : Nat → Bool) : Bool :=
 AV.rec (motive_1 := fun _ => (FuncId → List AV → List AV → Bool) → (Nat → Bool) → Bool) (motive_2 := fun _ => (FuncId → List AV → List AV → Bool) → (Nat → Bool) → Bool) (fun _ _ => fun _ _ => false) (fun _ => fun _ _ => false) (fun _ => fun _ _ => false) (fun _ _ => false) (fun _ _ => fun _ _ => false) (fun _ _ => false) (fun _ _ _ _ _ => fun _ _ => false) (fun _ _ => false) (fun _ => fun _ _ => false) (fun _ _ => false) (fun x a b _ _ f _ => f x a b) (fun l _ g => g l) (fun _ _ => false) (fun _ _ _ => fun _ _ => false) (fun _ _ => fun _ _ => false) (fun _ _ => fun _ _ => false) (fun _ _ => false) (fun _ _ _ _ => fun _ _ => false) v f g
/-! ### Memory -/
def kNth {α : Type} (n : Nat) (l : List α) (k : α → Bool) : Bool :=
 Nat.rec (motive := fun _ => List α → (α → Bool) → Bool)
  (fun l => List.rec (motive := fun _ => (α → Bool) → Bool) (fun _ => false) (fun a _ _ k => k a) l)
  (fun _ ih l => List.rec (motive := fun _ => (α → Bool) → Bool) (fun _ => false) (fun _ t _ k => ih t k) l) n l k
theorem kNth_eq {α : Type} : ∀ (n : Nat) (l : List α) (k : α → Bool),kNth n l k = optB (nthF n l) k
 | 0,[],_ => rfl
 | 0,_ :: _,_ => rfl
 | _ + 1,[],_ => rfl
 | n + 1,_ :: l,k => kNth_eq n l k
def kCellsO (o : AO) (k : List AV → Bool) (b : Nat) (w : AW) : Bool :=
 AO.rec (motive := fun _ => (List AV → Bool) → Nat → AW → Bool) (fun cs f own d k b w => ifB (Nat.beq f b) (ifB d (ifB (Nat.beq own b) (k cs) false) (k cs)) (optB (w.cells? b) k)) (fun _ _ => fun _ _ _ => false) (fun _ _ _ _ _ _ _ _ => fun _ _ _ => false) (fun _ _ _ => false) (fun _ _ _ _ _ => fun _ _ _ => false) (fun _ _ => fun _ _ _ => false) (fun _ _ _ => false) o k b w
def kCells (w : AW) (b : Nat) (k : List AV → Bool) : Bool := Option.rec (motive := fun _ => (List AV → Bool) → Nat → AW → Bool) (fun _ _ _ => false) (fun o => kCellsO o) (kGet w.tr b) k b w
theorem kCells_eq (w : AW) (b : Nat) (k : List AV → Bool) : kCells w b k = optB (cellsF w b) k := by
  unfold kCells cellsF AW.get
  rw [kGet_eq]
  cases w.tr.get b with
  | none => rfl
  | some o =>
    cases o <;> try rfl
    rename_i cs f own d
    show ifB (Nat.beq f b) (ifB d (ifB (Nat.beq own b) (k cs) false) (k cs)) (optB (w.cells? b) k) = optB (cond (Nat.beq f b) (cond (!d || Nat.beq own b) (some cs) none) (w.cells? b)) k
    cases Nat.beq f b <;> cases d <;> cases Nat.beq own b <;> rfl
def kPutO (o : AO) (k : AW → Bool) (b : Nat) (w : AW) (i : Nat) (vs : List AV) : Bool :=
 AO.rec (motive := fun _ => (AW → Bool) → Nat → AW → Nat → List AV → Bool) (fun cs f own d k b w i vs => ifB (Nat.beq f b) (ifB (Nat.beq own b) (ifB d (optB (w.putCells b i vs) k) (ifB (Nat.beq b 0) (optB (w.putCells b i vs) k) (ifB (hasN (Nat.add i vs.length) cs) (k (kSetW w b (.cells (putL cs i vs) b b false))) false))) (optB (w.putCells b i vs) k)) (optB (w.putCells b i vs) k)) (fun _ _ => fun _ _ _ _ _ => false) (fun _ _ _ _ _ _ _ _ => fun _ _ _ _ _ => false) (fun _ _ _ _ _ => false) (fun _ _ _ _ _ => fun _ _ _ _ _ => false) (fun _ _ => fun _ _ _ _ _ => false) (fun _ _ _ _ _ => false) o k b w i vs
def kPutC (w : AW) (b i : Nat) (vs : List AV) (k : AW → Bool) : Bool := Option.rec (motive := fun _ => (AW → Bool) → Nat → AW → Nat → List AV → Bool) (fun _ _ _ _ _ => false) (fun o => kPutO o) (kGet w.tr b) k b w i vs
theorem kPutC_eq (w : AW) (b i : Nat) (vs : List AV) (k : AW → Bool) : kPutC w b i vs k = optB (putF w b i vs) k := by
  unfold kPutC putF AW.get
  rw [kGet_eq]
  cases w.tr.get b with
  | none => rfl
  | some o =>
    cases o <;> try rfl
    rename_i cs f own d
    show ifB (Nat.beq f b) (ifB (Nat.beq own b) (ifB d (optB (w.putCells b i vs) k) (ifB (Nat.beq b 0) (optB (w.putCells b i vs) k) (ifB (hasN (Nat.add i vs.length) cs) (k (kSetW w b (.cells (putL cs i vs) b b false))) false))) (optB (w.putCells b i vs) k)) (optB (w.putCells b i vs) k)
      = optB (cond (Nat.beq f b && (Nat.beq own b && (!d && !Nat.beq b 0))) (cond (hasN (Nat.add i vs.length) cs) (some (w.set b (.cells (putL cs i vs) b b false))) none) (w.putCells b i vs)) k
    rw [kSetW_eq]
    cases Nat.beq f b <;> cases Nat.beq own b <;> cases d <;> cases Nat.beq b 0 <;> cases hasN (Nat.add i vs.length) cs <;> rfl
/-! ### Integers -/
def kIx (k : IntKind) : Nat := IntKind.rec (motive := fun _ => Nat) 0 1 2 3 4 5 6 7 k
def kMax (k : IntKind) : Nat := IntKind.rec (motive := fun _ => Nat) 127 32767 2147483647 9223372036854775807 255 65535 4294967295 18446744073709551615 k
theorem kIx_eq (a b : IntKind) : Nat.beq (kIx a) (kIx b) = kEq a b := by cases a <;> cases b <;> rfl
theorem kMax_eq (k : IntKind) : kMax k = maxN k := by cases k <;> rfl
def kWrap (k : IntKind) (n : Int) : Int := Int.rec (motive := fun _ => IntKind → Int) (fun m k => Bool.rec (motive := fun _ => Int) (k.wrap (.ofNat m)) (.ofNat m) (Nat.ble m (kMax k))) (fun m k => wrapF k (.negSucc m)) n k
theorem kWrap_eq (k : IntKind) (n : Int) : kWrap k n = wrapF k n := by
  cases n with
  | negSucc m => rfl
  | ofNat m =>
    show Bool.rec (motive := fun _ => Int) _ _ (Nat.ble m (kMax k)) = cond (Nat.ble m (maxN k)) _ _
    rw [kMax_eq, brec_eq]
def addI (x y : Int) : Int := Int.rec (motive := fun _ => Int → Int) (fun a y => Int.rec (motive := fun _ => Nat → Int) (fun b a => Int.ofNat (Nat.add a b)) (fun b a => Int.add (.ofNat a) (.negSucc b)) y a) (fun a y => Int.add (.negSucc a) y) x y
theorem addI_eq (x y : Int) : addI x y = Int.add x y := by cases x <;> cases y <;> rfl
def subI (x y : Int) : Int := Int.rec (motive := fun _ => Int → Int) (fun a y => Int.rec (motive := fun _ => Nat → Int) (fun b a => Bool.rec (motive := fun _ => Int) (Int.sub (.ofNat a) (.ofNat b)) (Int.ofNat (Nat.sub a b)) (Nat.ble b a)) (fun b a => Int.sub (.ofNat a) (.negSucc b)) y a) (fun a y => Int.sub (.negSucc a) y) x y
theorem subI_eq (x y : Int) : subI x y = Int.sub x y := by
  cases x with
  | negSucc a => rfl
  | ofNat a => cases y with
    | negSucc b => rfl
    | ofNat b =>
      show Bool.rec (motive := fun _ => Int) (Int.sub (.ofNat a) (.ofNat b)) (Int.ofNat (Nat.sub a b)) (Nat.ble b a) = _
      cases h : Nat.ble b a with
      | false => rfl
      | true =>
        have := Nat.le_of_ble_eq_true h
        show ((a - b : Nat) : Int) = (a : Int) - (b : Int)
        omega
def ltK (x y : Int) : Bool := Int.rec (motive := fun _ => Int → Bool) (fun a y => Int.rec (motive := fun _ => Nat → Bool) (fun b a => Nat.ble (Nat.succ a) b) (fun _ _ => false) y a) (fun a y => Int.rec (motive := fun _ => Nat → Bool) (fun _ _ => true) (fun b a => Nat.ble (Nat.succ b) a) y a) x y
theorem ltK_eq (x y : Int) : ltK x y = ltF x y := by cases x <;> cases y <;> rfl
def eqK (x y : Int) : Bool := Int.rec (motive := fun _ => Int → Bool) (fun a y => Int.rec (motive := fun _ => Nat → Bool) (fun b a => Nat.beq a b) (fun _ _ => false) y a) (fun a y => Int.rec (motive := fun _ => Nat → Bool) (fun _ _ => false) (fun b a => Nat.beq a b) y a) x y
theorem eqK_eq (x y : Int) : eqK x y = eqF x y := by cases x <;> cases y <;> rfl
def notB (b : Bool) : Bool := Bool.rec (motive := fun _ => Bool) true false b
theorem notB_eq (b : Bool) : notB b = !b := by cases b <;> rfl
structure KA where
 run : IntKind → Int → Int → (AV → Bool) → Bool
def arC (op : BinOp) : KA :=
 match op with
 | .add => ⟨fun k a b c => c (.int k (kWrap k (addI a b)))⟩
 | .sub => ⟨fun k a b c => c (.int k (kWrap k (subI a b)))⟩
 | .eql => ⟨fun _ a b c => c (.bool (eqK a b))⟩
 | .neq => ⟨fun _ a b c => c (.bool (notB (eqK a b)))⟩
 | .lss => ⟨fun _ a b c => c (.bool (ltK a b))⟩
 | .leq => ⟨fun _ a b c => c (.bool (notB (ltK b a)))⟩
 | .gtr => ⟨fun _ a b c => c (.bool (ltK b a))⟩
 | .geq => ⟨fun _ a b c => c (.bool (notB (ltK a b)))⟩
 | op => ⟨fun k a b c => optB (arithF op k a b) c⟩
theorem arC_eq (op : BinOp) (k : IntKind) (a b : Int) (c : AV → Bool) : (arC op).run k a b c = optB (arithF op k a b) c := by
 cases op <;> simp only [arC,arithF,kWrap_eq,addI_eq,subI_eq,eqK_eq,ltK_eq,notB_eq,optB_some]
structure KB where
 run : AV → AV → (AV → Bool) → Bool
def binC (P : Program) (op : BinOp) (t : TypeId) (c : Bool) : KB :=
 match isShift op with
 | true => ⟨fun x y k => asIntOr x (fun kx a => asIntOr y (fun _ b => optB (shiftF op kx a b) k) false) (optB (binOpA P op t c x y) k)⟩
 | false => match arC op with | ⟨r⟩ => ⟨fun x y k => asIntOr x (fun kx a => asIntOr y (fun ky b => ifB (Nat.beq (kIx kx) (kIx ky)) (r kx a b k) false) false) (optB (binOpA P op t c x y) k)⟩
theorem binC_eq (P : Program) (op : BinOp) (t : TypeId) (c : Bool) (x y : AV) (k : AV → Bool) : (binC P op t c).run x y k = optB (binF P op t c x y) k := by
  unfold binC
  cases hs : isShift op with
  | true =>
    cases x <;> try rfl
    cases y <;> try rfl
    rename_i kx a ky b
    show optB (shiftF op kx a b) k = optB (cond (isShift op) (shiftF op kx a b) (cond (kEq kx ky) (arithF op kx a b) none)) k
    rw [hs]; rfl
  | false =>
    cases x <;> try rfl
    cases y <;> try rfl
    rename_i kx a ky b
    show ifB (Nat.beq (kIx kx) (kIx ky)) ((arC op).run kx a b k) false = optB (cond (isShift op) (shiftF op kx a b) (cond (kEq kx ky) (arithF op kx a b) none)) k
    rw [hs, kIx_eq, arC_eq, cond_false, optB_cond]
/-! ### Operands -/
structure KO where
 run : TT → (AV → Bool) → Bool
def opdC (n : Nat) (x : Operand) : KO :=
  match x with
  | .tmp i => match Nat.blt i n with
    | true => match getC i with | ⟨g⟩ => ⟨fun t k => k (g t)⟩
    | false => ⟨fun _ _ => false⟩
  | .const v => match ofValue v with
    | some a => ⟨fun _ k => k a⟩
    | none => ⟨fun _ _ => false⟩
  | .func f => ⟨fun _ k => k (.func f [] [])⟩
  | .global _ => ⟨fun _ _ => false⟩
theorem opdC_eq (x : Operand) (t : TT) (n : Nat) (k : AV → Bool) : (opdC n x).run t k = optB (evF t n x) k := by
  cases x with
  | tmp i =>
    show (match Nat.blt i n with | true => (match getC i with | ⟨g⟩ => (⟨fun t k => k (g t)⟩ : KO)) | false => ⟨fun _ _ => false⟩).run t k = optB (cond (Nat.blt i n) (some (getR t i)) none) k
    cases Nat.blt i n with
    | true =>
      show k ((getC i).get t) = _
      rw [getC_eq]; rfl
    | false => rfl
  | const v =>
    show (match ofValue v with | some a => (⟨fun _ k => k a⟩ : KO) | none => ⟨fun _ _ => false⟩).run t k = optB (ofValue v) k
    cases ofValue v <;> rfl
  | func f => rfl
  | global g => rfl
structure KOs where
 run : TT → (List AV → Bool) → Bool
def opdsC (n : Nat) : List Operand → KOs
  | [] => ⟨fun _ k => k []⟩
  | x :: xs => match opdC n x, opdsC n xs with
    | ⟨r⟩, ⟨rs⟩ => ⟨fun t k => r t fun a => rs t fun as => k (a :: as)⟩
theorem opdsC_eq : ∀ (l : List Operand) (t : TT) (n : Nat) (k : List AV → Bool), (opdsC n l).run t k = optB (evs (evF t n) l) k
  | [], _, _, _ => rfl
  | x :: xs, t, n, k => by
    show (opdC n x).run t (fun a => (opdsC n xs).run t fun as => k (a :: as)) = _
    rw [opdC_eq]
    unfold evs
    rw [optB_bnd]
    congr 1
    funext a
    rw [opdsC_eq xs, optB_bnd]
    rfl
/-! ### Operations that change nothing -/
structure KP where
 run : AW → TT → (AV → Bool) → Bool
section
variable (P : Program)
def loadC (n : Nat) (a : Operand) (z : Option (Option Nat)) : KP :=
 match z with
 | none => ⟨fun _ _ _ => false⟩
 | some none => match opdC n a with | ⟨r⟩ => ⟨fun w t k => r t fun p => asPtrK p fun b o => kCells w b fun cs => kNth o cs k⟩
 | some (some m) => match opdC n a with | ⟨r⟩ => ⟨fun w t k => r t fun p => asPtrK p fun b o => kCells w b fun cs => optB (takeC cs o m) fun x => k (.agg x)⟩
def genP (n : Nat) (o : Op) : KP := ⟨fun w t k => optB (pureE P w (evF t n) o) k⟩
def fieldAddrC (n : Nat) (x : Operand) (z : Option Nat) : KP :=
 match z with
 | none => ⟨fun _ _ _ => false⟩
 | some m => match opdC n x with | ⟨r⟩ => ⟨fun _ t k => r t fun p => asPtrK p fun b o => k (.ptr b (Nat.add o m))⟩
def indexAddrC (n : Nat) (o : Op) (x i : Operand) (e : Option Nat) (a : Option (Nat × Nat)) : KP :=
 match e,a with
 | some s,none => match opdC n x,opdC n i with | ⟨rx⟩,⟨ri⟩ => ⟨fun _ t k => rx t fun v => ri t fun j => asNat j fun j => asSlP v (fun b o len => ifB (Nat.ble (Nat.succ j) len) (k (.ptr b (Nat.add o (Nat.mul j s)))) false) (fun _ _ => false)⟩
 | none,some (m,s) => match opdC n x,opdC n i with | ⟨rx⟩,⟨ri⟩ => ⟨fun _ t k => rx t fun v => ri t fun j => asNat j fun j => asSlP v (fun _ _ _ => false) (fun b o => ifB (Nat.ble (Nat.succ j) m) (k (.ptr b (Nat.add o (Nat.mul j s)))) false)⟩
 | _,_ => genP P n o
def fieldC (n : Nat) (x : Operand) (z : Option (Nat × Option Nat)) : KP :=
 match z with
 | none => ⟨fun _ _ _ => false⟩
 | some (o,none) => match opdC n x with | ⟨r⟩ => ⟨fun _ t k => r t fun v => asAggK v fun cs => kNth o cs k⟩
 | some (o,some m) => match opdC n x with | ⟨r⟩ => ⟨fun _ t k => r t fun v => asAggK v fun cs => optB (takeC cs o m) fun x => k (.agg x)⟩
def convC (n : Nat) (o : Op) (s d : TypeId) (x : Operand) (a b : Option IntKind) : KP :=
 match a,b with
 | some _,some kd => match opdC n x with | ⟨r⟩ => ⟨fun w t k => r t fun v => asIntOr v (fun _ m => k (.int kd (kWrap kd m))) (optB (convF P w s d v) k)⟩
 | _,_ => genP P n o
def lenC (n : Nat) (o : Op) (b : Builtin) (args : List Operand) (ty : Option TypeId) : KP :=
  match b, args, ty with
  | .len, [x], some ty => match elemOf P ty with
    | some _ => match opdC n x with | ⟨r⟩ => ⟨fun w t k => r t fun v => asLenOr v (fun len => k (.int .i64 (.ofNat len))) (optB (lenF P w ty v) k)⟩
    | none => genP P n o
  | _, _, _ => genP P n o
def pureC (n : Nat) (o : Op) : KP :=
  match o with
  | .move x => match opdC n x with | ⟨r⟩ => ⟨fun _ t k => r t k⟩
  | .assign x => match opdC n x with | ⟨r⟩ => ⟨fun _ t k => r t k⟩
  | .binOp op ty x y _ => match opdC n x, opdC n y, binC P op ty (isConst x || isConst y) with
    | ⟨rx⟩, ⟨ry⟩, ⟨rb⟩ => ⟨fun _ t k => rx t fun a => ry t fun b => rb a b k⟩
  | .fieldAddr s x f => fieldAddrC n x (fieldOff P s f)
  | .field ty x f => fieldC n x (fieldInfo P ty f)
  | .indexAddr ty x i => indexAddrC P n o x i (elemSz P ty) (arrSz P ty)
  | .extract x i => match opdC n x with | ⟨r⟩ => ⟨fun _ t k => r t fun v => asTupK v fun vs => kNth i vs k⟩
  | .load ty a => loadC n a (aggSz P ty)
  | .convert s d x => convC P n o s d x ((P.underlying s).bind tdInt) ((P.underlying d).bind tdInt)
  | .call c => match c.callee with
    | .builtin b => lenC P n o b c.args.toList c.argTypes[0]?
    | _ => genP P n o
  | o => genP P n o
theorem pureC_eq (o : Op) (w : AW) (t : TT) (n : Nat) (k : AV → Bool) : (pureC P n o).run w t k = optB (pureE P w (evF t n) o) k := by
  cases o <;> try rfl
  case move x => exact opdC_eq x t n k
  case assign x => exact opdC_eq x t n k
  case binOp op ty x y yt =>
    show (opdC n x).run t (fun a => (opdC n y).run t fun b => (binC P op ty (isConst x || isConst y)).run a b k) = optB (bnd (evF t n x) fun a => bnd (evF t n y) fun b => binF P op ty (isConst x || isConst y) a b) k
    rw [opdC_eq, optB_bnd]
    congr 1; funext a
    rw [opdC_eq, optB_bnd]
    congr 1; funext b
    exact binC_eq ..
  case fieldAddr s x f =>
    show (fieldAddrC n x (fieldOff P s f)).run w t k = optB (bnd (evF t n x) (fieldAddrF P s f)) k
    rw [optB_bnd]
    cases h : fieldOff P s f with
    | none =>
      show false = _
      cases evF t n x with
      | none => rfl
      | some v => cases v <;> simp [fieldAddrF, h, bnd]
    | some m =>
      show (opdC n x).run t _ = _
      rw [opdC_eq]
      congr 1; funext v
      cases v <;> simp only [fieldAddrF, h] <;> rfl
  case field ty x f =>
    show (fieldC n x (fieldInfo P ty f)).run w t k = optB (bnd (evF t n x) (fieldF P ty f)) k
    rw [optB_bnd]
    cases h : fieldInfo P ty f with
    | none =>
      show false = _
      cases evF t n x with
      | none => rfl
      | some v => cases v <;> simp [fieldF, h, bnd]
    | some z =>
      obtain ⟨o, z⟩ := z
      cases z with
      | none =>
        show (opdC n x).run t _ = _
        rw [opdC_eq]
        congr 1; funext v
        cases v <;> simp only [fieldF, h] <;> first | rfl | exact kNth_eq ..
      | some m =>
        show (opdC n x).run t _ = _
        rw [opdC_eq]
        congr 1; funext v
        cases v <;> simp only [fieldF, h] <;> first | rfl | (show _ = optB (partF (some m) _ o) k; unfold partF; rw [optB_bnd]; rfl)
  case indexAddr ty x i =>
    show (indexAddrC P n (.indexAddr ty x i) x i (elemSz P ty) (arrSz P ty)).run w t k = optB (bnd (evF t n x) fun a => bnd (evF t n i) (indexAddrF P ty a)) k
    have hx : ∀ (f : AV → AV → Bool), (opdC n x).run t (fun v => (opdC n i).run t fun j => f v j) = optB (evF t n x) fun v => optB (evF t n i) fun j => f v j := fun f => by
      rw [opdC_eq]; congr 1; funext v; rw [opdC_eq]
    rw [optB_bnd]
    simp only [optB_bnd]
    cases he : elemSz P ty with
    | none =>
      cases ha : arrSz P ty with
      | none =>
        show optB (bnd (evF t n x) fun a => bnd (evF t n i) (indexAddrF P ty a)) k = _
        simp only [optB_bnd]
      | some z =>
        obtain ⟨m, s⟩ := z
        show (opdC n x).run t _ = _
        refine (hx fun v j => asNat j fun j => asSlP v (fun _ _ _ => false) (fun b o => ifB (Nat.ble (Nat.succ j) m) (k (.ptr b (Nat.add o (Nat.mul j s)))) false)).trans ?_
        congr 1; funext v; congr 1; funext j
        cases j <;> try rfl
        rename_i kk j
        cases j <;> try rfl
        cases v <;> simp only [indexAddrF, ha, he] <;> try rfl
        show ifB _ _ _ = optB (cond _ _ none) k
        rw [optB_cond]; rfl
    | some s =>
      cases ha : arrSz P ty with
      | none =>
        show (opdC n x).run t _ = _
        refine (hx fun v j => asNat j fun j => asSlP v (fun b o len => ifB (Nat.ble (Nat.succ j) len) (k (.ptr b (Nat.add o (Nat.mul j s)))) false) (fun _ _ => false)).trans ?_
        congr 1; funext v; congr 1; funext j
        cases j <;> try rfl
        rename_i kk j
        cases j <;> try rfl
        cases v <;> simp only [indexAddrF, ha, he] <;> try rfl
        show ifB _ _ _ = optB (cond _ _ none) k
        rw [optB_cond]; rfl
      | some z =>
        show optB (bnd (evF t n x) fun a => bnd (evF t n i) (indexAddrF P ty a)) k = _
        simp only [optB_bnd]
  case extract x i =>
    show (opdC n x).run t _ = optB (bnd (evF t n x) _) k
    rw [opdC_eq, optB_bnd]
    congr 1; funext v
    cases v <;> first | rfl | exact kNth_eq ..
  case load ty a =>
    show (loadC n a (aggSz P ty)).run w t k = optB (bnd (evF t n a) _) k
    rw [optB_bnd]
    cases h : aggSz P ty with
    | none =>
      show false = _
      cases evF t n a with
      | none => rfl
      | some v =>
        cases v <;> try rfl
        show false = optB (loadF P w ty _ _) k
        unfold loadF
        rw [h]
        cases cellsF w _ <;> rfl
    | some z =>
      cases z with
      | none =>
        show (opdC n a).run t _ = _
        rw [opdC_eq]
        congr 1; funext v
        cases v <;> try rfl
        show kCells w _ _ = optB (loadF P w ty _ _) k
        unfold loadF
        rw [h, kCells_eq, optB_bnd]
        congr 1; funext cs
        exact kNth_eq ..
      | some m =>
        show (opdC n a).run t _ = _
        rw [opdC_eq]
        congr 1; funext v
        cases v <;> try rfl
        show kCells w _ _ = optB (loadF P w ty _ _) k
        unfold loadF
        rw [h, kCells_eq, optB_bnd]
        congr 1; funext cs
        show _ = optB (partF (some m) cs _) k
        unfold partF
        rw [optB_bnd]; rfl
  case convert s d x =>
    show (convC P n (.convert s d x) s d x ((P.underlying s).bind tdInt) ((P.underlying d).bind tdInt)).run w t k = optB (bnd (evF t n x) (convF P w s d)) k
    cases h1 : (P.underlying s).bind tdInt with
    | none => rfl
    | some ks =>
      cases h2 : (P.underlying d).bind tdInt with
      | none => rfl
      | some kd =>
        show (opdC n x).run t _ = _
        rw [opdC_eq, optB_bnd]
        congr 1; funext v
        cases v <;> try rfl
        rename_i kv m
        rw [Option.bind_eq_some_iff] at h1 h2
        obtain ⟨us, h3, h4⟩ := h1
        obtain ⟨ud, h5, h6⟩ := h2
        simp only [convF, h3, h4, h5, h6, bnd, ← kWrap_eq]
        rfl
  case call c =>
    unfold pureC pureE
    simp only []
    cases hc : c.callee with
    | value f => simp only [genP, pureE, hc]
    | invoke r m => simp only [genP, pureE, hc]
    | builtin b =>
      simp only []
      unfold lenC
      have gen : (genP P n (.call c)).run w t k = optB (builtinPE P w (evF t n) b c.args c.argTypes) k := by simp only [genP, pureE, hc]
      split
      · rename_i x ty hargs hty
        cases he : elemOf P ty with
        | none => exact gen
        | some e =>
          show (opdC n x).run t _ = _
          unfold builtinPE
          rw [opdC_eq, hargs, optB_bnd]
          unfold evs
          rw [optB_bnd]
          congr 1; funext v
          simp only [evs, bnd, optB_some, hty]
          cases v <;> try rfl
          simp only [lenF, he, bnd]
          rfl
      · exact gen
end
end
end Go.Sx
