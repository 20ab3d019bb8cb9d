/-
  What a law of chapter 7 asks of the disk besides, over memory.
  No condition beyond those that each theorem names.
-/
import Derived.Test.YtgobllfkiannfaaI11
import Derived.Test.YtgobllfkiannfaaSxr
set_option linter.unusedSimpArgs false
open Go.Sx
set_option linter.unusedVariables false
namespace Go.Proofs.Ytgobllfkiannfaa
theorem repl_eq (n : Nat) (z : AV) : repl n [z] = List.replicate n z := by
  induction n with
  | zero => rfl
  | succ n ih => show [z] ++ repl n [z] = _; rw [ih]; rfl
section
variable {hk : Hook} {A B : Nat → Prop} {I : List Nat} {w0 w w' : AW} {D : Nat} {i i' : DI} {d d' : Dsk} {k k' : Nat} {L L' : Obs} {K : AV → AW → Prop}
theorem s18 {v v' : AV} {s s' : Byts} (hh : HK hk) (h : RsB w v s) (h' : RsB w v' s') (hK : K (.bool (s == s')) w) : Cl Try.prog hk 18 [v, v'] w K := by
  apply in18 (hh.no _ _ _ (by decide) (by decide))
  exact ⟨_, h.str, _, h'.str, hK⟩
end
end Go.Proofs.Ytgobllfkiannfaa
