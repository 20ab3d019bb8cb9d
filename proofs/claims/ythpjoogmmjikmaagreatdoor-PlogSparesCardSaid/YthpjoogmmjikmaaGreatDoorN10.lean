/-
  Open of any file, over memory.
  No condition beyond those that each theorem names.
-/
import Derived.Test.YthpjoogmmjikmaaGreatDoorR10
set_option linter.unusedSimpArgs false
open Go.Sx
set_option linter.unusedVariables false
set_option linter.unusedSimpArgs false
namespace Go.Proofs.YthpjoogmmjikmaaGreatDoor
def u32 (b : Byts) (at_ : Nat) : Nat := (b.getD at_ 0).toNat * 2 ^ 24 + (b.getD (at_ + 1) 0).toNat * 2 ^ 16 + (b.getD (at_ + 2) 0).toNat * 2 ^ 8 + (b.getD (at_ + 3) 0).toNat
def parseN : Nat → Byts → Nat → List Nat
  | 0, _, _ => []
  | m + 1, b, a => if a + 4 ≤ b.length then (if 65536 < u32 b a ∨ b.length < a + 4 + u32 b a then [] else (a + 4 + u32 b a) :: parseN m b (a + 4 + u32 b a)) else []
def ends (b : Byts) : List Nat := parseN (b.length + 1) b 0
def sizeE (E : List Nat) : Nat := E.getLastD 0
def kept (f : Byts) : Byts := (stream f).take (sizeE (ends (stream f)))
def openD (nm : Byts) (d : Dsk) : Dsk × Int :=
  if (d.read nm).2 ≠ 0 ∧ (d.read nm).2 ≠ 70 then (d, (d.read nm).2) else
  if clean (kept (d.read nm).1) == (d.read nm).1 then (d, 0) else trimD nm (kept (d.read nm).1) d
theorem bOr_add {a c k : Nat} (hc : c < 2 ^ k) (h : a * 2 ^ k + c < 2 ^ 32) : bOr .i64 ((a * 2 ^ k : Nat) : Int) (c : Int) = ((a * 2 ^ k + c : Nat) : Int) := by
  unfold bOr
  have h1 : a * 2 ^ k < 2 ^ 32 := by omega
  have h2 : c < 2 ^ 32 := by omega
  have e1 : (BitVec.ofInt 64 ((a * 2 ^ k : Nat) : Int)).toNat = a * 2 ^ k := by
    rw [BitVec.toNat_ofInt]; omega
  have e2 : (BitVec.ofInt 64 ((c : Nat) : Int)).toNat = c := by
    rw [BitVec.toNat_ofInt]; omega
  have e3 : (BitVec.ofInt (IntKind.bits .i64) ((a * 2 ^ k : Nat) : Int) ||| BitVec.ofInt (IntKind.bits .i64) (c : Int)).toNat = a * 2 ^ k + c := by
    show (BitVec.ofInt 64 ((a * 2 ^ k : Nat) : Int) ||| BitVec.ofInt 64 (c : Int)).toNat = _
    rw [BitVec.toNat_or, e1, e2, Nat.mul_comm, ← Nat.two_pow_add_eq_or_of_lt hc]
  rw [e3]
  exact wi_eq (by omega) (by omega)
theorem shl_add {a k : Nat} (hk : k ≤ 24) (h : a < 256) : shlI .i64 (wi (a : Int)) (k : Int) = ((a * 2 ^ k : Nat) : Int) := by
  have hp : a * 2 ^ k < 2 ^ 32 := by
    calc a * 2 ^ k ≤ 255 * 2 ^ k := Nat.mul_le_mul_right _ (by omega)
      _ ≤ 255 * 2 ^ 24 := Nat.mul_le_mul_left _ (Nat.pow_le_pow_right (by decide) hk)
      _ < 2 ^ 32 := by decide
  unfold shlI
  rw [wi_eq (by omega) (by omega)]
  have : min ((k : Int).toNat) (IntKind.bits .i64) = k := by
    show min (k : Int).toNat 64 = k
    omega
  rw [this]
  have e : (a : Int) * 2 ^ k = ((a * 2 ^ k : Nat) : Int) := by push_cast; rfl
  rw [e]
  exact wi_eq (by omega) (by omega)
theorem u32_or {a b c e : Nat} (ha : a < 256) (hb : b < 256) (hc : c < 256) (he : e < 256) :
    bOr .i64 (bOr .i64 (bOr .i64 (shlI .i64 (wi (a : Int)) 24) (shlI .i64 (wi (b : Int)) 16)) (shlI .i64 (wi (c : Int)) 8)) (wi (e : Int)) = ((a * 2 ^ 24 + b * 2 ^ 16 + c * 2 ^ 8 + e : Nat) : Int) := by
  have h1 := shl_add (k := 24) (by decide) ha
  have h2 := shl_add (k := 16) (by decide) hb
  have h3 := shl_add (k := 8) (by decide) hc
  rw [show ((24 : Nat) : Int) = 24 from rfl] at h1
  rw [show ((16 : Nat) : Int) = 16 from rfl] at h2
  rw [show ((8 : Nat) : Int) = 8 from rfl] at h3
  rw [h1, h2, h3, wi_eq (x := (e : Int)) (by omega) (by omega)]
  rw [bOr_add (a := a) (k := 24) (c := b * 2 ^ 16) (by omega) (by omega)]
  rw [show a * 2 ^ 24 + b * 2 ^ 16 = (a * 2 ^ 8 + b) * 2 ^ 16 by omega, bOr_add (k := 16) (c := c * 2 ^ 8) (by omega) (by omega)]
  rw [show (a * 2 ^ 8 + b) * 2 ^ 16 + c * 2 ^ 8 = ((a * 2 ^ 8 + b) * 2 ^ 8 + c) * 2 ^ 8 by omega, bOr_add (k := 8) (c := e) (by omega) (by omega)]
theorem parse_le : ∀ (m : Nat) (b : Byts) (a : Nat), a ≤ b.length → (parseN m b a).length ≤ b.length - a ∧ ∀ e ∈ parseN m b a, a < e ∧ e ≤ b.length
  | 0, _, _, _ => by simp [parseN]
  | m + 1, b, a, h => by
    unfold parseN
    split
    · split
      · simp
      · rename_i h1 h2
        have h2 : ¬ 65536 < u32 b a ∧ ¬ b.length < a + 4 + u32 b a := not_or.1 h2
        obtain ⟨g1, g2⟩ := parse_le m b (a + 4 + u32 b a) (by omega)
        refine ⟨by simp only [List.length_cons]; omega, fun e he => ?_⟩
        rcases List.mem_cons.1 he with rfl | he
        · omega
        · have := g2 e he; omega
    · simp
theorem sizeE_le {b : Byts} : sizeE (ends b) ≤ b.length := by
  unfold sizeE
  have h := (parse_le (b.length + 1) b 0 (Nat.zero_le _)).2
  cases hE : ends b with
  | nil => simp
  | cons a l =>
    have : (a :: l).getLastD 0 ∈ ends b := by
      rw [hE, List.getLastD_eq_getLast?, List.getLast?_eq_some_getLast (by simp)]
      exact List.getLast_mem _
    rw [hE] at this
    exact (h _ (by rw [show parseN (b.length + 1) b 0 = ends b from rfl, hE]; exact this)).2
end Go.Proofs.YthpjoogmmjikmaaGreatDoor
