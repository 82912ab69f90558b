/- States written as lists; loops over them. -/
import Derived.Test.YtahciphhopiipaaGreatDoorV11
import Derived.IntWalk
set_option linter.unusedVariables false
set_option linter.unusedSimpArgs false
namespace Go.Proofs.YtahciphhopiipaaGreatDoor.V
open Go Go.RowKit

/-- The state in which just these keys are known. -/
def stL : List (Nat × Slot) → St
  | [] => fun _ => Slot.hole
  | (k, s) :: r => upd (stL r) k s

def AllKeys (σ : St) : List (Nat × Slot) → Prop
  | [] => True
  | (k, s) :: r => σ k = s ∧ AllKeys σ r

theorem stL_sub {σ : St} : ∀ {l : List (Nat × Slot)}, AllKeys σ l → ∀ k, stL l k = σ k ∨ stL l k = Slot.hole
  | [], _, k => .inr rfl
  | (k', s) :: r, h, k => by
    by_cases e : k = k'
    · subst e; left; simp only [stL, upd, if_true]; exact h.1.symm
    · simp only [stL]; rw [upd_ne _ _ e]; exact stL_sub h.2 k

theorem turn_stL {E : Env} {σ : St} (l : List (Nat × Slot)) (h : AllKeys σ l) : Turn E σ (· = stL l) := Turn.weaken (stL_sub h)

/-- Nothing else is known from here on. -/
theorem vw_stL {P : Program} {E : Env} {c : Code} {σ : St} {R : Exit → St → Prop} (l : List (Nat × Slot)) (h : AllKeys σ l) (hv : VW P E c (stL l) R) : VW P E c σ R :=
  vw_turn (turn_stL l h) fun _ e => e ▸ hv

theorem st0_stL (args : List Part) (l : List (Nat × Slot)) (h : AllKeys (st0 args) l) : ∀ {P : Program} {E : Env} {c : Code} {R : Exit → St → Prop}, VW P E c (stL l) R → VW P E c (st0 args) R :=
  fun hv => vw_stL l h hv
end Go.Proofs.YtahciphhopiipaaGreatDoor.V
