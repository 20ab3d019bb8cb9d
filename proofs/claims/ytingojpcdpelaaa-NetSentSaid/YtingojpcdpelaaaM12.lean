/-
  The bodies of NetSent, over memory.
  No condition beyond those that each theorem names.
-/
import Derived.Test.YtingojpcdpelaaaP12
set_option linter.unusedSimpArgs false
open Go.Sx
set_option linter.unusedVariables false
namespace Go.Proofs.Ytingojpcdpelaaa

def mx (seed : Int) : Nat → Int
  | 0 => IntKind.wrap .u64 (IntKind.wrap .u64 (IntKind.wrap .u64 seed * 2862933555777941757) + 3037000493)
  | i + 1 => if (i : Int).tmod 8 = 0 then IntKind.wrap .u64 (IntKind.wrap .u64 (mx seed i * 2862933555777941757) + 3037000493) else mx seed i
def mbI (seed : Int) (i : Nat) : Int := IntKind.wrap .u8 (shrI .u64 (mx seed (i + 1)) 40)
def mb (seed : Int) (i : Nat) : UInt8 := UInt8.ofNat (mbI seed i).toNat
theorem wrap8_range (x : Int) : 0 ≤ IntKind.wrap .u8 x ∧ IntKind.wrap .u8 x < 256 := by
  simp only [IntKind.wrap, IntKind.bits, IntKind.signed, Bool.false_and, Bool.false_eq_true, if_false, decide_false]
  exact ⟨Int.emod_nonneg _ (by decide), by have := Int.emod_lt_of_pos x (show (0 : Int) < 2 ^ 8 by decide); simpa using this⟩
theorem of8 (x : Int) : ((UInt8.ofNat (IntKind.wrap .u8 x).toNat).toNat : Int) = IntKind.wrap .u8 x := by
  have := wrap8_range x
  rw [UInt8.toNat_ofNat']; omega
theorem mb_eq (seed : Int) (i : Nat) : ((mb seed i).toNat : Int) = mbI seed i := of8 _
def made (seed : Int) (n : Nat) : List UInt8 := (List.range n).map (mb seed)

theorem s37 {hk : Hook} {w : AW} {seed : Int} {n : Nat} {K : AV → AW → Prop} (hh : HK hk) (hm : Mem w) (hw : 0 < w.size) (hn : n < 2 ^ 20) (hK : ∀ v' w', Fr w.size w w' → BS w.size w' v' (made seed n) → K v' w') : Cl Try.prog hk 37 [.int .i64 seed, .int .i64 (n : Int)] w K := by
  apply in37 (hh.no _ _ _ (by decide) (by decide))
  unfold F37
  refine onM_s (v := n) rfl (onM_s (v := n) rfl (gd_t ?_ (new_of hm fun w5 f5 b5 z5 => ?_)))
  · rw [show Nat.ble n n = true from ble_t (Nat.le_refl _), show Nat.ble (n * 1) (2 ^ 47) = true from ble_t (by omega), show Nat.blt n (2 ^ 63) = true by rw [Nat.blt_eq]; omega]; rfl
  rw [repl_eq] at b5
  have b5 : Box w5 w.size (cellsOfBytes (List.replicate n 0)) := by
    have e : List.replicate n (AV.int .u8 0) = cellsOfBytes (List.replicate n 0) := by simp [cellsOfBytes]
    rw [← e]; exact b5
  show loopP [.int .u64 (mx seed 0), .int .i64 0] w5 _
  refine loopP_ind (fun m l w10 => ∃ (i : Nat) (t : List UInt8), i ≤ n ∧ m = n - i ∧ l = [.int .u64 (mx seed i), .int .i64 i] ∧ Fr w.size w w10 ∧ w.size < w10.size ∧ Box w10 w.size (cellsOfBytes t) ∧ t.length = n ∧ ∀ j, j < i → t[j]? = some (mb seed j)) ?_
    ⟨0, _, Nat.zero_le _, rfl, rfl, f5, by omega, b5, by simp, fun j hj => absurd hj (Nat.not_lt_zero _)⟩
  rintro m l w10 ⟨i, t, hi, rfl, rfl, f10, z10, b10, htl, ht⟩ R ih
  refine ⟨_, _, rfl, fun _ => ifT_d (fun hc => ?_) fun hc => ?_⟩
  · have hin : i < n := by omega
    refine join_of (fun l w14 => l = [.int .u64 (mx seed (i + 1))] ∧ w14 = w10) ?_ ?_
    · rintro l w14 ⟨rfl, rfl⟩
      refine ⟨_, rfl, fun _ => ?_⟩
      show atP _ _
      refine idx0 hin ?_
      have hb8 := mb_eq seed i
      unfold mbI at hb8
      rw [← hb8]
      refine b10.put' f10.mem (by omega) (by rw [cellsOfBytes_length]; simp; omega) fun w20 c20 b20 z20 => ?_
      rw [bytes_set _ _ _ (by omega)] at b20
      refine ih (n - (i + 1)) (by omega) _ _ ⟨i + 1, t.set i (mb seed i), by omega, rfl, by rw [wi_eq (by omega) (by omega)]; rfl, f10.trans (c20.fr (n := w.size) (by omega) (by simp)) (Nat.le_refl _), by omega, b20, by simp [htl], fun j hj => ?_⟩
      rw [List.getElem?_set]
      by_cases hij : i = j
      · subst hij; rw [if_pos rfl, if_pos (by omega)]
      · rw [if_neg hij]; exact ht j (by omega)
    · intro J hJ
      refine ifT_d (fun h => hJ _ _ ⟨?_, rfl⟩) fun h => hJ _ _ ⟨?_, rfl⟩
      · show [AV.int .u64 (IntKind.wrap .u64 (IntKind.wrap .u64 (mx seed i * 2862933555777941757) + 3037000493))] = [AV.int .u64 (if (i : Int).tmod 8 = 0 then _ else _)]
        rw [if_pos h]
      · show [AV.int .u64 (mx seed i)] = [AV.int .u64 (if (i : Int).tmod 8 = 0 then _ else _)]
        rw [if_neg h]
  · have hin : i = n := by omega
    subst hin
    have e : t = made seed i := by
      apply List.ext_getElem?
      intro j
      by_cases hj : j < i
      · rw [ht j hj]; simp [made, hj]
      · rw [List.getElem?_eq_none (by omega), List.getElem?_eq_none (by simp [made]; omega)]
    rw [e] at b10
    have hl : (made seed i).length = i := by simp [made]
    exact hK _ _ f10 (.inr ⟨w.size, none, by rw [hl], .inl rfl, Nat.le_refl _, b10⟩)

def bodyOf (k : Nat) : List UInt8 := [UInt8.ofNat (IntKind.wrap .u8 (shrI .i64 k 8)).toNat, UInt8.ofNat (IntKind.wrap .u8 k).toNat] ++ made k (k % 20)
theorem bodyOf_length (k : Nat) : (bodyOf k).length = k % 20 + 2 := by simp [bodyOf, made]

theorem s18 {hk : Hook} {w : AW} {k : Nat} {K : AV → AW → Prop} (hh : HK hk) (hm : Mem w) (hw : 0 < w.size) (hK : ∀ v' w', Fr w.size w w' → BS w.size w' v' (bodyOf k) → K v' w') : Cl Try.prog hk 18 [.int .i64 (k : Int)] w K := by
  apply in18 (hh.no _ _ _ (by decide) (by decide))
  unfold F18 be
  refine new_of hm fun w3 f3 b3 z3 => ?_
  rw [show Int.tmod (k : Int) 20 = ((k % 20 : Nat) : Int) from rfl]
  refine s37 hh f3.mem (by omega) (by omega) fun r w5 f5 hr => ?_
  have hs5 := f5.size
  have b5 := b3.fr f5 (by omega)
  have f35 : Fr w.size w w5 := f3.trans f5 (by omega)
  have hcs : [AV.int .u8 (IntKind.wrap .u8 (shrI .i64 k 8)), .int .u8 (IntKind.wrap .u8 k)] = cellsOfBytes [UInt8.ofNat (IntKind.wrap .u8 (shrI .i64 k 8)).toNat, UInt8.ofNat (IntKind.wrap .u8 k).toNat] := by
    simp only [cellsOfBytes, List.map_cons, List.map_nil, of8]
  have hml : (made (k : Int) (k % 20)).length = k % 20 := by simp [made]
  have hread := Rs.read hr.rs
  rw [hml] at hread
  by_cases h0 : k % 20 = 0
  · refine onE_s (v := .slice w.size 0 2 2 none) (w := w5) ?_ (hK _ _ f35 (.inr ⟨w.size, none, ?_, .inl rfl, Nat.le_refl _, ?_⟩))
    · simp only [appS, hread, Option.bind_some, h0]; rfl
    · rw [bodyOf_length, h0]
    · have : bodyOf k = [UInt8.ofNat (IntKind.wrap .u8 (shrI .i64 k 8)).toNat, UInt8.ofNat (IntKind.wrap .u8 k).toNat] := by simp [bodyOf, h0, made]
      rw [this, ← hcs]; exact b5
  · have e0 : Nat.beq (k % 20) 0 = false := beq_ff h0
    have hsrc : okSrc r (cellsOfBytes (made (k : Int) (k % 20))) = true := by
      rcases hr with ⟨rfl, h⟩ | ⟨c, ex, rfl, _⟩
      · rw [h] at hml; exact absurd hml.symm h0
      · rfl
    have e1 : Nat.ble (2 + k % 20) 2 = false := by
      cases he : Nat.ble (2 + k % 20) 2 with
      | false => rfl
      | true => rw [Nat.ble_eq] at he; omega
    have e2 : Nat.blt ((2 * (2 + k % 20) + 1000) * 1) room = true := by rw [Nat.blt_eq]; unfold room; omega
    have e3 : Nat.blt (2 + k % 20) (2 ^ 62) = true := by rw [Nat.blt_eq]; omega
    refine onE_s (v := .slice w5.size 0 (2 + k % 20) (2 + k % 20) (some 1)) (w := newCells w5 (cellsOfBytes (bodyOf k))) ?_ (hK _ _ (f35.trans (Fr.push f35.mem fun cs' f own d e => by cases e; exact Nat.le_refl _) (by omega)) (.inr ⟨w5.size, some 1, by rw [bodyOf_length, Nat.add_comm], .inr rfl, by omega, by simp [Box, newCells, cellsAO]⟩))
    simp only [appS, hread, Option.bind_some, e0, cond_false, hsrc, guardO, e1, e2, e3, growA, b5.cells]
    rw [show cellsOfBytes (bodyOf k) = [AV.int .u8 (IntKind.wrap .u8 (shrI .i64 k 8)), .int .u8 (IntKind.wrap .u8 k)] ++ cellsOfBytes (made k (k % 20)) by rw [hcs, ← cellsOfBytes_append]; rfl]
    rfl
end Go.Proofs.Ytingojpcdpelaaa
