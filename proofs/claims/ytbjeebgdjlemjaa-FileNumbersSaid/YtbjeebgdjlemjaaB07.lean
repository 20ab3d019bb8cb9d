/-
  What the functions of this chapter do.
  No condition beyond those that each theorem names.
-/
import Derived.Test.YtbjeebgdjlemjaaSxn
import Derived.Test.YtbjeebgdjlemjaaProg
import Derived.KernelRfl
set_option linter.unusedSimpArgs false
open Go.Sx
set_option linter.unusedVariables false
namespace Go.Proofs.Ytbjeebgdjlemjaa
/-- maps.Keys[map[string]int,string,int] -/
def F56 (hk : Hook) (m_0 : AV) (w : AW) (K : AV → AW → Prop) : Prop :=
  gd (okCell m_0) (
  new w [m_0] fun b_1 w_2 =>
  K (.func 76 [] [(.ptr b_1 0)]) w_2)
def adv56 : Adv := (.sq .lf (.sq .lf .lf))
set_option maxRecDepth 100000 in
theorem eq56 (hk : Hook) (m_0 : AV) (w : AW) (K : AV → AW → Prop) : fnS Try.prog hk Try.f56 adv56 [m_0] w K = F56 hk m_0 w K := by kernel_rfl
theorem in56 {hk : Hook} {m_0 : AV} {w : AW} {K : AV → AW → Prop} (hn : hk 56 [m_0] w = none) (h : F56 hk m_0 w K) : Cl Try.prog hk 56 [m_0] w K :=
  fnS_ok Try.func56 hn (by rw [eq56]; exact h)

end Go.Proofs.Ytbjeebgdjlemjaa
