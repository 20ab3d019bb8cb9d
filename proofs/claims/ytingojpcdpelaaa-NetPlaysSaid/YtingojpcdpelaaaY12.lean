/-
  NetPlays, over memory.
  No condition beyond those that each theorem names.
-/
import Derived.Test.YtingojpcdpelaaaX12
set_option linter.unusedSimpArgs false
open Go.Sx
set_option linter.unusedVariables false
namespace Go.Proofs.Ytingojpcdpelaaa

structure Op7 where
  kind : Int
  on : Int
  src : Int
  dst : Int
  body : List UInt8
  num : Int
def rOp : Rp Op7 := ⟨6, fun A w cs x => ∃ v, cs = [.int .i64 x.kind, .int .i64 x.on, .int .i64 x.src, .int .i64 x.dst, v, .int .i64 x.num] ∧ (rL rU).rd A w [v] x.body,
  fun ⟨v, h, _⟩ => by rw [h]; rfl, fun ⟨v, h, h2⟩ => by rw [h]; simp only [List.all_cons, List.all_nil, h2.ok1]; rfl, fun e ⟨v, h, h2⟩ => ⟨v, h, h2.xa e⟩⟩

def row6 : Bool → AV → AV → List AV
  | false, a, b => [a, b]
  | true, a, b => [b, a]
def row9 : Bool → AV → Int → AV → Int → List AV
  | false, a, n, b, m => [a, .int .i64 n, b, .int .i64 m]
  | true, a, n, b, m => [b, .int .i64 m, a, .int .i64 n]
theorem bAnd1 (x : Int) : ∃ j : Bool, bAnd .i64 x 1 = ((j.toNat : Nat) : Int) := by
  have h : (BitVec.ofInt 64 x &&& BitVec.ofInt 64 1).toNat < 2 := by
    rw [BitVec.toNat_and]
    have : (BitVec.ofInt 64 1).toNat = 1 := by decide
    rw [this, Nat.and_one_is_mod]; omega
  have e : bAnd .i64 x 1 = IntKind.i64.wrap ((BitVec.ofInt 64 x &&& BitVec.ofInt 64 1).toNat : Nat) := rfl
  rw [e]
  generalize (BitVec.ofInt 64 x &&& BitVec.ofInt 64 1).toNat = n at h
  match n, h with
  | 0, _ => exact ⟨false, by decide⟩
  | 1, _ => exact ⟨true, by decide⟩
theorem idxP_of {n sz b o k : Nat} {K : Nat → Nat → Prop} (hk : k < n) (hK : K b (o + k * sz)) : atP (idxP n sz (.ptr b o) (.int .i64 (k : Int))) K := by
  refine atP_iff.2 ⟨b, o + k * sz, ?_, hK⟩
  show (asN (.int .i64 (Int.ofNat k))).bind _ = _
  have hbl : Nat.blt k n = true := by rw [Nat.blt_eq]; exact hk
  simp only [asN, Option.bind_some, hbl, guardO, cond_true]

/-- Two nets of the program, two of the document; the ones that a call is on first. -/
structure S7 (A : Nat → Prop) (m : Int) (w0 w : AW) (b6 b9 : Nat) (j : Bool) (p r : Nat) (e : List (AV × AV)) (N : List Pk) (last : Int) (lv : AV) (p' r' : Nat) (e' : List (AV × AV)) (N' : List Pk) (last' : Int) (lv' : AV) (T : Obs) : Prop where
  ow : Ow A [] w0 w ((p, .row [.map r, .int .i64 last]) :: (r, .map e) :: (p', .row [.map r', .int .i64 last']) :: (r', .map e') :: (b6, .row (row6 j (.ptr p 0) (.ptr p' 0))) :: (b9, .row (row9 j lv last lv' last')) :: T)
  en : EnR Pk.num rPk (fz A (p :: r :: p' :: r' :: b6 :: b9 :: ids T)) w e N
  en' : EnR Pk.num rPk (fz A (p :: r :: p' :: r' :: b6 :: b9 :: ids T)) w e' N'
  rl : (rL rPk).rd (fz A (p :: r :: p' :: r' :: b6 :: b9 :: ids T)) w [lv] N
  rl' : (rL rPk).rd (fz A (p :: r :: p' :: r' :: b6 :: b9 :: ids T)) w [lv'] N'
  ni : NI N last
  ni' : NI N' last'
  le : last ≤ m
  le' : last' ≤ m

section
variable {hk : Hook} {A : Nat → Prop} {w0 w w' : AW} {b6 b9 p r p' r' : Nat} {j : Bool} {e e' : List (AV × AV)} {N N' : List Pk} {m last last' : Int} {lv lv' : AV} {T : Obs} {K : AV → AW → Prop}
theorem S7.swap (h : S7 A m w0 w b6 b9 j p r e N last lv p' r' e' N' last' lv' T) : S7 A m w0 w b6 b9 (!j) p' r' e' N' last' lv' p r e N last lv T := by
  obtain ⟨st, x⟩ := h.ow.perm (L' := (p', .row [.map r', .int .i64 last']) :: (r', .map e') :: (p, .row [.map r, .int .i64 last]) :: (r, .map e) :: (b6, .row (row6 j (.ptr p 0) (.ptr p' 0))) :: (b9, .row (row9 j lv last lv' last')) :: T)
    (by
      have h1 : ∀ (a b c d : Nat × Ob) (l : Obs), (a :: b :: c :: d :: l).Perm (c :: d :: a :: b :: l) := fun a b c d l => List.Perm.append_right l (l₁ := [a, b, c, d]) (l₂ := [c, d, a, b]) (List.perm_append_comm (l₁ := [a, b]) (l₂ := [c, d]))
      exact h1 _ _ _ _ _)
  have e6 : row6 j (.ptr p 0) (.ptr p' 0) = row6 (!j) (.ptr p' 0) (.ptr p 0) := by cases j <;> rfl
  have e9 : row9 j lv last lv' last' = row9 (!j) lv' last' lv last := by cases j <;> rfl
  rw [e6, e9] at st
  exact ⟨st, h.en'.x x, h.en.x x, h.rl'.x x, h.rl.x x, h.ni', h.ni, h.le', h.le⟩
theorem S7.to (h : S7 A m w0 w b6 b9 j p r e N last lv p' r' e' N' last' lv' T) (j' : Bool) : ∃ p r e N last lv p' r' e' N' last' lv', S7 A m w0 w b6 b9 j' p r e N last lv p' r' e' N' last' lv' T := by
  by_cases hj : j' = j
  · subst hj; exact ⟨_, _, _, _, _, _, _, _, _, _, _, _, h⟩
  · have : j' = !j := by cases j <;> cases j' <;> simp_all
    subst this; exact ⟨_, _, _, _, _, _, _, _, _, _, _, _, h.swap⟩
theorem S7.nt (h : S7 A m w0 w b6 b9 j p r e N last lv p' r' e' N' last' lv' T) : Nt A [] w0 w p r N last e ((p', .row [.map r', .int .i64 last']) :: (r', .map e') :: (b6, .row (row6 j (.ptr p 0) (.ptr p' 0))) :: (b9, .row (row9 j lv last lv' last')) :: T) := ⟨h.ow, h.en, h.ni⟩
/-- Behind a call on the net, with what the document has been. -/
theorem S7.net (h : S7 A m w0 w b6 b9 j p r e N last lv p' r' e' N' last' lv' T) {N2 : List Pk} {last2 : Int} {e2 : List (AV × AV)} (hn : Nt A [] w0 w' p r N2 last2 e2 ((p', .row [.map r', .int .i64 last']) :: (r', .map e') :: (b6, .row (row6 j (.ptr p 0) (.ptr p' 0))) :: (b9, .row (row9 j lv last lv' last')) :: T))
    (x : Xt (p :: r :: ids ((p', .row [.map r', .int .i64 last']) :: (r', .map e') :: (b6, .row (row6 j (.ptr p 0) (.ptr p' 0))) :: (b9, .row (row9 j lv last lv' last')) :: T)) w (p :: r :: ids ((p', .row [.map r', .int .i64 last']) :: (r', .map e') :: (b6, .row (row6 j (.ptr p 0) (.ptr p' 0))) :: (b9, .row (row9 j lv last lv' last')) :: T)) w') :
    Ow A [] w0 w' ((p, .row [.map r, .int .i64 last2]) :: (r, .map e2) :: (p', .row [.map r', .int .i64 last']) :: (r', .map e') :: (b6, .row (row6 j (.ptr p 0) (.ptr p' 0))) :: (b9, .row (row9 j lv last lv' last')) :: T) ∧ EnR Pk.num rPk (fz A (p :: r :: p' :: r' :: b6 :: b9 :: ids T)) w' e2 N2 ∧ NI N2 last2 ∧
    EnR Pk.num rPk (fz A (p :: r :: p' :: r' :: b6 :: b9 :: ids T)) w' e' N' ∧ (rL rPk).rd (fz A (p :: r :: p' :: r' :: b6 :: b9 :: ids T)) w' [lv] N ∧ (rL rPk).rd (fz A (p :: r :: p' :: r' :: b6 :: b9 :: ids T)) w' [lv'] N' := ⟨hn.ow, hn.en, hn.ni, h.en'.x x, h.rl.x x, h.rl'.x x⟩
/-- All stays, but for the order of one's own blocks and what lies ahead of them. -/
theorem S7.x (h : S7 A m w0 w b6 b9 j p r e N last lv p' r' e' N' last' lv' T) {T' : Obs} (st : Ow A [] w0 w' ((p, .row [.map r, .int .i64 last]) :: (r, .map e) :: (p', .row [.map r', .int .i64 last']) :: (r', .map e') :: (b6, .row (row6 j (.ptr p 0) (.ptr p' 0))) :: (b9, .row (row9 j lv last lv' last')) :: T'))
    (x : Xt (p :: r :: p' :: r' :: b6 :: b9 :: ids T) w (p :: r :: p' :: r' :: b6 :: b9 :: ids T') w') : S7 A m w0 w' b6 b9 j p r e N last lv p' r' e' N' last' lv' T' := ⟨st, h.en.x x, h.en'.x x, h.rl.x x, h.rl'.x x, h.ni, h.ni', h.le, h.le'⟩
theorem S7.fr (h : S7 A m w0 w b6 b9 j p r e N last lv p' r' e' N' last' lv' T) (hf : Fr w.size w w') : S7 A m w0 w' b6 b9 j p r e N last lv p' r' e' N' last' lv' T := by
  obtain ⟨st, x⟩ := h.ow.call hf
  exact h.x st x
/-- Beside bytes that are lent. -/
theorem S7.lent {b f k : Nat} (h : S7 (fun _ => True) m w0 w b6 b9 j p r e N last lv p' r' e' N' last' lv' T) (hf : Fr w.size w w') (hb : w.size ≤ b ∧ b < w'.size) (hf2 : w.size ≤ f ∧ f < w'.size) : S7 (fun c => c ≠ b ∧ c ≠ f) m w0 w' b6 b9 j p r e N last lv p' r' e' N' last' lv' T := by
  obtain ⟨st, x⟩ := h.ow.call hf
  have hxa : Xa (fz (fun _ => True) (p :: r :: p' :: r' :: b6 :: b9 :: ids T)) w (fz (fun c => c ≠ b ∧ c ≠ f) (p :: r :: p' :: r' :: b6 :: b9 :: ids T)) w' := ⟨fun c g all a a' d => by
    have hd := d.lt h.ow.mem
    exact ⟨⟨by omega, a.2⟩, ⟨by omega, a'.2⟩, d.fr h.ow.mem hf (Nat.le_refl _)⟩⟩
  refine ⟨st.le (fun c hc => by omega) fun q hq => ?_, h.en.xa hxa, h.en'.xa hxa, h.rl.xa hxa, h.rl'.xa hxa, h.ni, h.ni', h.le, h.le'⟩
  have := (h.ow.box _ (show q ∈ _ from hq)).1.lt h.ow.mem
  omega
theorem S7.over {b f : Nat} (h : S7 (fun c => c ≠ b ∧ c ≠ f) m w0 w b6 b9 j p r e N last lv p' r' e' N' last' lv' T) (hs : w'.size = w.size) (hm : Mem w') (hb : w0.size ≤ b ∧ w0.size ≤ f) (hg : ∀ c, c ≠ b → c ≠ f → w'.get c = w.get c) : S7 (fun _ => True) m w0 w' b6 b9 j p r e N last lv p' r' e' N' last' lv' T := by
  have hxa : Xa (fz (fun c => c ≠ b ∧ c ≠ f) (p :: r :: p' :: r' :: b6 :: b9 :: ids T)) w (fz (fun _ => True) (p :: r :: p' :: r' :: b6 :: b9 :: ids T)) w' := ⟨fun c g all a a' d =>
    ⟨⟨trivial, a.2⟩, ⟨trivial, a'.2⟩, d.congr (hg c a.1.1 a.1.2) (hg g a'.1.1 a'.1.2)⟩⟩
  refine ⟨⟨hm, h.ow.pos, by have := h.ow.size; omega, fun c hc hi => (hg c (by omega) (by omega)).trans (h.ow.old c hc hi), fun _ _ => trivial, fun q hq => ?_, h.ow.nd⟩, h.en.xa hxa, h.en'.xa hxa, h.rl.xa hxa, h.rl'.xa hxa, h.ni, h.ni', h.le, h.le'⟩
  obtain ⟨a1, a2, a3, a4⟩ := h.ow.box q hq
  exact ⟨a1.get (hg _ a3.1 a3.2), a2, trivial, a4⟩
theorem S7.up {m2 : Int} (h : S7 A m w0 w b6 b9 j p r e N last lv p' r' e' N' last' lv' T) (hm : m ≤ m2) : S7 A m2 w0 w b6 b9 j p r e N last lv p' r' e' N' last' lv' T := ⟨h.ow, h.en, h.en', h.rl, h.rl', h.ni, h.ni', Int.le_trans h.le hm, Int.le_trans h.le' hm⟩
theorem rd_lent {α : Type} {R : Rp α} {cs : List AV} {x : α} {U : List Nat} {b f : Nat} (h : R.rd (fz (fun _ => True) U) w cs x) (hm : Mem w) (hf : Fr w.size w w') (hb : w.size ≤ b) (hf2 : w.size ≤ f) : R.rd (fz (fun c => c ≠ b ∧ c ≠ f) U) w' cs x := h.xa ⟨fun c g all a a' d => by
  have hd := d.lt hm
  exact ⟨⟨by omega, a.2⟩, ⟨by omega, a'.2⟩, d.fr hm hf (Nat.le_refl _)⟩⟩
theorem h6 (j : Bool) (a b : AV) : (row6 j a b)[0 + j.toNat * 1]? = some a := by cases j <;> rfl
theorem h9 (j : Bool) (a b : AV) (n m : Int) : (row9 j a n b m)[0 + j.toNat * 2 + 0]? = some a := by cases j <;> rfl
theorem h9n (j : Bool) (a b : AV) (n m : Int) : AV.agg (((row9 j a n b m).drop (0 + j.toNat * 2)).take 2) = .agg [a, .int .i64 n] := by cases j <;> rfl
theorem h9l (j : Bool) (a b : AV) (n m : Int) : Nat.ble (0 + j.toNat * 2 + 2) (row9 j a n b m).length = true := by cases j <;> rfl
theorem h9b (j : Bool) (a b : AV) (n m : Int) (vs : List AV) (h : vs.length = 2) : 0 + j.toNat * 2 + vs.length ≤ (row9 j a n b m).length := by rw [h]; cases j <;> simp [row9, row6]
theorem h9p (j : Bool) (a b c : AV) (n m k : Int) : listPut (row9 j a n b m) (0 + j.toNat * 2) [c, .int .i64 k] = row9 j c k b m := by cases j <;> rfl
theorem h9q (j : Bool) (a b c : AV) (n m k : Int) : listPut (row9 j a n b m) (0 + (!j).toNat * 2) [c, .int .i64 k] = row9 j a n c k := by cases j <;> rfl
theorem h6q (j : Bool) (a b c : AV) : listPut (row6 j a b) (0 + (!j).toNat * 1) [c] = row6 j a c := by cases j <;> rfl
theorem h9c (j : Bool) (a b : AV) (n m : Int) (vs : List AV) (h : vs.length = 2) : 0 + (!j).toNat * 2 + vs.length ≤ (row9 j a n b m).length := by rw [h]; cases j <;> simp [row9, row6]
theorem h6c (j : Bool) (a b : AV) (vs : List AV) (h : vs.length = 1) : 0 + (!j).toNat * 1 + vs.length ≤ (row6 j a b).length := by rw [h]; cases j <;> simp [row9, row6]
theorem jlt (j : Bool) : j.toNat < 2 := by cases j <;> decide
theorem jnot (j : Bool) : wi (1 - ((j.toNat : Nat) : Int)) = (((!j).toNat : Nat) : Int) := by cases j <;> decide
end
end Go.Proofs.Ytingojpcdpelaaa
