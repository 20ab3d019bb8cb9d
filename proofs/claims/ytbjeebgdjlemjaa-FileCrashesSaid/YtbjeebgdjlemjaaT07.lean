/-
  The calls out of numbers, over memory.
  No condition beyond those that each theorem names.
-/
import Derived.Test.YtbjeebgdjlemjaaQ07
set_option linter.unusedSimpArgs false
open Go.Sx
set_option linter.unusedVariables false
namespace Go.Proofs.Ytbjeebgdjlemjaa

def nameOf (m : Nat) : Byts := [UInt8.ofNat (97 + m % 3)]
def pick (x n : Int) : Int := if n ≤ 0 then 0 else x % n
theorem pick_range {x n : Int} (h : 0 < n) : 0 ≤ pick x n ∧ pick x n < n := by
  unfold pick
  rw [if_neg (by omega)]
  exact ⟨Int.emod_nonneg _ (by omega), Int.emod_lt_of_pos _ h⟩
/-- A call out of a number. -/
def Dsk.call (d : Dsk) (n : Nat) : Dsk :=
  let s := nameOf (n / 10)
  let m := n / 30 % ((d.read s).1.length / 64 + 1)
  if n % 10 = 0 then (d.cut s m).1
  else if n % 10 = 1 then (d.rename s (nameOf (n / 30))).1
  else if n % 10 = 2 then (d.remove s).1
  else (d.put s (min m 12 : Nat) (fillB (UInt8.ofNat (IntKind.wrap .u8 ((n / 7 : Nat) : Int)).toNat))).1
theorem of8 (x : Int) : ((UInt8.ofNat (IntKind.wrap .u8 x).toNat).toNat : Int) = IntKind.wrap .u8 x := by
  have h : 0 ≤ IntKind.wrap .u8 x ∧ IntKind.wrap .u8 x < 256 := by
    simp only [IntKind.wrap, IntKind.bits, IntKind.signed, Bool.false_and, Bool.false_eq_true, if_false, decide_false]
    exact ⟨Int.emod_nonneg _ (by decide), by have := Int.emod_lt_of_pos x (show (0 : Int) < 2 ^ 8 by decide); simpa using this⟩
  rw [UInt8.toNat_ofNat']; omega
theorem Dsk.V.cut {d : Dsk} {k : Nat} (h : d.V k) (a : Byts) (n : Int) : (d.cut a n).1.V (k + 1) := by
  unfold Dsk.cut
  split
  · exact h.le (by omega)
  · split
    · exact h.le (by omega)
    · rename_i f _ hn
      have := (h.now f).1
      refine (h.more (l := [⟨2, f, n, zsec, [], []⟩]) fun x hx => ?_).le (by simp)
      simp at hx; subst hx
      exact ⟨by simp [zsec], by show 0 ≤ n; omega, by show n ≤ 4096; omega, fun e => by cases e⟩
theorem Dsk.V.remove {d : Dsk} {k : Nat} (h : d.V k) (a : Byts) : (d.remove a).1.V (k + 1) := by
  unfold Dsk.remove
  split
  · exact h.le (by omega)
  · rename_i f _
    refine (h.more (l := [⟨4, f, 0, zsec, a, []⟩]) fun x hx => ?_).le (by simp)
    simp at hx; subst hx
    exact ⟨by simp [zsec], Int.le_refl 0, by show (0 : Int) ≤ 4096; omega, fun e => by cases e⟩

section
variable {hk : Hook} {w0 w : AW} {D : Nat} {d : Dsk} {k : Nat} {X : List Nat} {K : AV → AW → Prop}
theorem s25 {m : Nat} (hh : HK hk) (hm : Mem w) (hs : m < 2 ^ 40) (hK : ∀ w', Fr w.size w w' → K (.str (nameOf m)) w') : Cl Try.prog hk 25 [.int .i64 (m : Int)] w K := by
  apply in25 (hh.no _ _ _ (by decide) (by decide))
  unfold F25 be
  rw [show Int.tmod (m : Int) 3 = ((m % 3 : Nat) : Int) from rfl, wi_eq (show -9223372036854775808 ≤ 97 + ((m % 3 : Nat) : Int) by omega) (by omega)]
  have e : IntKind.wrap .u8 (97 + ((m % 3 : Nat) : Int)) = (((UInt8.ofNat (97 + m % 3)).toNat : Nat) : Int) := by
    have h3 : m % 3 < 3 := Nat.mod_lt _ (by decide)
    rw [UInt8.toNat_ofNat']
    simp only [IntKind.wrap, IntKind.bits, IntKind.signed, Bool.false_and, Bool.false_eq_true, if_false, decide_false]
    omega
  rw [e]
  refine new_of hm fun w3 f3 b3 z3 => ⟨nameOf m, ?_, hK w3 f3⟩
  have : RsB w3 (.slice w.size 0 1 1 none) (nameOf m) := .inr ⟨w.size, 0, 1, none, _, rfl, b3.cells, by simp [nameOf], rfl⟩
  exact this.str
theorem s21 {x n : Int} (hh : HK hk) (hp : n < 2 ^ 62) (hK : K (.int .i64 (pick x n)) w) : Cl Try.prog hk 21 [.int .i64 x, .int .i64 n] w K := by
  apply in21 (hh.no _ _ _ (by decide) (by decide))
  unfold F21
  unfold pick at hK
  refine ifT_d (fun h => by rwa [if_pos h] at hK) fun h => ?_
  rw [if_neg h] at hK
  have ht := Int.tmod_eq_emod (a := x) (b := n)
  have h1 := Int.emod_nonneg x (show n ≠ 0 by omega)
  have h2 := Int.emod_lt_of_pos x (show 0 < n by omega)
  refine ⟨x.tmod n, by simp only [arith]; rw [if_neg (by omega)], ifT_d (fun h2 => ?_) fun h2 => ?_⟩
  · have : wi (x.tmod n + n) = x % n := by
      rw [ht] at h2 ⊢
      split at h2
      · omega
      · rw [if_neg (by assumption)]
        have : (n.natAbs : Int) = n := by omega
        rw [this, wi_eq (by omega) (by omega)]; omega
    rw [this]; exact hK
  · have : x.tmod n = x % n := by
      rw [ht] at h2 ⊢
      split at h2
      · rw [if_pos (by assumption)]; omega
      · omega
    rw [this]; exact hK

theorem lCut {a : Byts} {n : Int} (hh : HK hk) (h : Ls w0 w D d k X) (hkk : k < 2 ^ 27) (hK : Nx w0 w D X (d.cut a n) (k + 1) K) : Cl Try.prog hk 30 [.ptr D 0, .str a, .int .i64 n] w K := by
  obtain ⟨n1, f1, n2, f2, sv, hd1⟩ := h.dk
  exact s30 hh h.mem (Ls.pos' h) hd1 h.V hkk (hK.out h (Dsk.V.cut h.V _ _))
theorem lRemove {a : Byts} (hh : HK hk) (h : Ls w0 w D d k X) (hkk : k < 2 ^ 27) (hK : Nx w0 w D X (d.remove a) (k + 1) K) : Cl Try.prog hk 31 [.ptr D 0, .str a] w K := by
  obtain ⟨n1, f1, n2, f2, sv, hd1⟩ := h.dk
  exact s31 hh h.mem (Ls.pos' h) hd1 h.V hkk (hK.out h (Dsk.V.remove h.V _))
theorem lCopy (hh : HK hk) (h : Ls w0 w D d k X) (hkk : k < 2 ^ 27) (hK : ∀ D' X' w', Fr w.size w w' → Ls w0 w' D' d k X' → (∀ x ∈ X', w.size ≤ x) → K (.ptr D' 0) w') : Cl Try.prog hk 22 [.ptr D 0] w K := by
  obtain ⟨n1, f1, n2, f2, sv, hd1⟩ := h.dk
  refine s22 hh h.mem (Ls.pos' h) hd1 h.V hkk fun D' n1' f1' n2' f2' sv' X' w' f hX hd => ?_
  have hs := f.size
  have hs0 := h.sz
  refine hK D' (X'.filter fun x => decide (x < w'.size)) w' f ⟨f.mem, by omega, h.pos, fun c hc => (f.old c (by omega)).trans (h.old c hc), ⟨_, _, _, _, _, hd.trim f.mem⟩, h.V, fun x hx => ?_⟩ fun x hx => hX x (List.mem_filter.1 hx).1
  obtain ⟨h1, h2⟩ := List.mem_filter.1 hx
  exact ⟨by have := hX x h1; omega, of_decide_eq_true h2⟩

/-- What a law asks of a call that answers nothing. -/
def Nt (w0 w : AW) (D : Nat) (X : List Nat) (d : Dsk) (k : Nat) (K : AV → AW → Prop) : Prop := ∀ X' w', Ls w0 w' D d k X' → (∀ x ∈ X', x ∈ X ∨ w.size ≤ x) → Tz X w w' → K (.tup []) w'
theorem Nt.nx {w1 : AW} {X : List Nat} {r : Dsk × Int} {k k' : Nat} (hm : Mem w) (hf : Fr w.size w w1) (hk : k' ≤ k) (hK : Nt w0 w D X r.1 k K) : Nx w0 w1 D X r k' fun v w' => ∃ x : Int, v = .int .i64 x ∧ K (.tup []) w' := fun X' w' h1 h2 h3 =>
  ⟨_, rfl, hK X' w' (h1.le hk) (fun x hx => by rcases h2 x hx with h | h; exact .inl h; right; have := hf.size; omega) ((Tz.of_fr hm hf).trans h3)⟩
/-- call. -/
theorem s20 {n : Nat} (hh : HK hk) (h : Ls w0 w D d k X) (hkk : k < 2 ^ 26) (hn : n < 1000003) (hK : Nt w0 w D X (Dsk.call d n) (k + 2) K) : Cl Try.prog hk 20 [.ptr D 0, .int .i64 (n : Int)] w K := by
  apply in20 (hh.no _ _ _ (by decide) (by decide))
  unfold F20 be
  have e10 : wi (Int.tdiv (n : Int) 10) = ((n / 10 : Nat) : Int) := by
    rw [show Int.tdiv (n : Int) 10 = ((n / 10 : Nat) : Int) from rfl, wi_eq (by omega) (by omega)]
  have e30 : wi (Int.tdiv (n : Int) 30) = ((n / 30 : Nat) : Int) := by
    rw [show Int.tdiv (n : Int) 30 = ((n / 30 : Nat) : Int) from rfl, wi_eq (by omega) (by omega)]
  have e7 : wi (Int.tdiv (n : Int) 7) = ((n / 7 : Nat) : Int) := by
    rw [show Int.tdiv (n : Int) 7 = ((n / 7 : Nat) : Int) from rfl, wi_eq (by omega) (by omega)]
  rw [e10, e30, e7, show Int.tmod (n : Int) 10 = ((n % 10 : Nat) : Int) from rfl]
  refine s25 hh h.mem (by omega) fun w3 f3 => ⟨_, rfl, ?_⟩
  have h3 := h.fr f3
  refine lRead hh h3 fun v w6 f6 hv => ⟨_, _, rfl, ?_⟩
  have h6 := h3.fr f6
  have f06 : Fr w.size w w6 := f3.trans f6 f3.size
  have hlen : (d.read (nameOf (n / 10))).1.length ≤ 4096 * 64 := by
    unfold Dsk.read
    split
    · simp
    · split
      · simp
      · rename_i f _ _
        have h4 := h.V.now f
        simp only [flat_len h4.2]
        omega
  unfold Dsk.call at hK
  simp only [] at hK
  generalize hbl : (d.read (nameOf (n / 10))).1 = bs at *
  have em : wi (wi (Int.tdiv (bs.length : Int) 64) + 1) = ((bs.length / 64 + 1 : Nat) : Int) := by
    rw [show Int.tdiv (bs.length : Int) 64 = ((bs.length / 64 : Nat) : Int) from rfl, wi_eq (x := ((bs.length / 64 : Nat) : Int)) (by omega) (by omega), wi_eq (by omega) (by omega)]
    rfl
  have er : arith .rem .i64 ((n / 30 : Nat) : Int) ((bs.length / 64 + 1 : Nat) : Int) = some (.int .i64 ((n / 30 % (bs.length / 64 + 1) : Nat) : Int)) := by
    simp only [arith]; rw [if_neg (by omega)]; rfl
  refine ⟨_, hv.rs.len, ?_⟩
  rw [em]
  refine ifT_d (fun h0 => ?_) fun h0 => ?_
  · have h0' : n % 10 = 0 := by omega
    rw [if_pos h0'] at hK
    exact ⟨_, er, lCut hh h6 (by omega) (hK.nx h.mem f06 (by omega))⟩
  have h0' : n % 10 ≠ 0 := by omega
  rw [if_neg h0'] at hK
  refine ifT_d (fun h1 => ?_) fun h1 => ?_
  · have h1' : n % 10 = 1 := by omega
    rw [if_pos h1'] at hK
    refine s25 hh h6.mem (by omega) fun w16 f16 => ⟨_, rfl, ?_⟩
    exact lRename hh (h6.fr f16) (by omega) (hK.nx h.mem (f06.trans f16 f06.size) (by omega))
  have h1' : n % 10 ≠ 1 := by omega
  rw [if_neg h1'] at hK
  refine ifT_d (fun h2 => ?_) fun h2 => ?_
  · have h2' : n % 10 = 2 := by omega
    rw [if_pos h2'] at hK
    exact lRemove hh h6 (by omega) (hK.nx h.mem f06 (by omega))
  have h2' : n % 10 ≠ 2 := by omega
  rw [if_neg h2'] at hK
  refine ⟨_, er, ?_⟩
  rw [← of8]
  refine s12 hh h6.mem (Ls.pos' h6) fun r27 w28 f28 b28 e28 => ?_
  subst e28
  rw [show imin ((n / 30 % (bs.length / 64 + 1) : Nat) : Int) 12 = ((min (n / 30 % (bs.length / 64 + 1)) 12 : Nat) : Int) from imin_nat _ 12]
  refine lPut hh (h6.fr f28) (by omega) (.inr ⟨w6.size, 0, 64, none, _, ?_, b28.cells, ?_, ?_⟩) (hK.nx h.mem (f06.trans f28 f06.size) (Nat.le_refl _))
  · simp [fillB]
  · rw [cellsOfBytes_length]; simp [fillB]
  · rw [List.drop_zero, List.take_of_length_le (by rw [cellsOfBytes_length]; simp [fillB])]
end
end Go.Proofs.Ytbjeebgdjlemjaa
