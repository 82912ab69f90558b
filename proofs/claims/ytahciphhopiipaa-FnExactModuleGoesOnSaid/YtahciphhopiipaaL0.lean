/- What is known of package-level variables in every world that a call begins in: here nothing. -/
import Derived.Below
set_option linter.unusedVariables false
namespace Go.Proofs.Ytahciphhopiipaa.V
open Go
def Lw (w : World) : Prop := True
theorem Lw.stays {w w' : World} (h : ∀ b, b < w.heap.size → w'.heap[b]? = w.heap[b]?) (hl : Lw w) : Lw w' := trivial
end Go.Proofs.Ytahciphhopiipaa.V
