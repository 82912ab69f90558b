/- What is known of package-level variables in every world that a call begins in: the table of the blanks, the powers of ten. -/
import Derived.Below
import Derived.Lib.Space
set_option linter.unusedVariables false
namespace Go.Proofs.YtahciphhopiipaaDoor.V
open Go
def pow10s : List Value := (List.range 20).map fun i => .int .u64 ((10 ^ i : Nat) : Int)
def Lw (w : World) : Prop := (∀ c : Nat, c < 256 → w.cell? ⟨1, c, none⟩ = some (.int .u8 (if Lib.isSp (UInt8.ofNat c) then 1 else 0))) ∧ ∃ e fz, w.heap[0]? = some (.cells pow10s.toArray e fz)
theorem Lw.stays {w w' : World} (h : ∀ b, b < w.heap.size → w'.heap[b]? = w.heap[b]?) (hl : Lw w) : Lw w' := by
  refine ⟨fun c hc => ?_, ?_⟩
  · have h1 := hl.1 c hc
    have hb : 1 < w.heap.size := by
      unfold World.cell? at h1
      split at h1
      · rename_i hh; exact (Array.getElem?_eq_some_iff.1 hh).1
      · cases h1
    rw [World.cell?_of_block (w := w) (h _ hb)]
    exact h1
  · obtain ⟨e, fz, h1⟩ := hl.2
    exact ⟨e, fz, by rw [h _ (Array.getElem?_eq_some_iff.1 h1).1]; exact h1⟩
end Go.Proofs.YtahciphhopiipaaDoor.V
