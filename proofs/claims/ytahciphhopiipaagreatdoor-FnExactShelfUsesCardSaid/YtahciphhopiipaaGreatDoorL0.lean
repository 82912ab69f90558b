/- What is known of package-level variables in every world that a call begins in: the table of the blanks. -/
import Derived.Below
import Derived.Lib.Space
set_option linter.unusedVariables false
namespace Go.Proofs.YtahciphhopiipaaGreatDoor.V
open Go
def Lw (w : World) : Prop := ∀ c : Nat, c < 256 → w.cell? ⟨0, c, none⟩ = some (.int .u8 (if Lib.isSp (UInt8.ofNat c) then 1 else 0))
theorem Lw.stays {w w' : World} (h : ∀ b, b < w.heap.size → w'.heap[b]? = w.heap[b]?) (hl : Lw w) : Lw w' := by
  intro c hc
  have h1 := hl c hc
  have hb : 0 < w.heap.size := by
    unfold World.cell? at h1
    split at h1
    · rename_i hh; exact (Array.getElem?_eq_some_iff.1 hh).1
    · cases h1
  rw [World.cell?_of_block (w := w) (h _ hb)]
  exact h1
end Go.Proofs.YtahciphhopiipaaGreatDoor.V
