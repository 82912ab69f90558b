/- Small bridges for written proofs. -/
import Derived.Test.YtahciphhopiipaaGreatDoorV19
set_option linter.unusedVariables false
set_option linter.unusedSimpArgs false
namespace Go.Proofs.YtahciphhopiipaaGreatDoor.V
open Go Go.RowKit

theorem blockR_exit {id : Nat} {R : Exit → St → Prop} {τ : St} (h : R .normal τ) : blockR id R (.exit id) τ := by simp only [blockR, if_true]; exact h
theorem blockR_other {id i : Nat} {R : Exit → St → Prop} {τ : St} (hn : i ≠ id) (h : R (.exit i) τ) : blockR id R (.exit i) τ := by simp only [blockR, if_neg hn]; exact h

def resOK (rs : List ResultVar) : Bool := (List.range rs.length).all fun i => match rs[i]? with
  | some (.tmp t) => resIdx (tk t) rs 0 == some i
  | _ => true

theorem resOK_spec {rs : List ResultVar} (h : resOK rs = true) : ∀ (i : Nat) t, rs[i]? = some (.tmp t) → resIdx (tk t) rs 0 = some i := by
  intro i t hi
  have hlt := (List.getElem?_eq_some_iff.1 hi).1
  have := List.all_eq_true.1 h i (List.mem_range.2 hlt)
  rw [hi] at this
  simpa using this

/-- No result lies in a cell. -/
theorem resLen_tmps {P : Program} {ps : List Part} {rs : List ResultVar} (h : rs.all (fun | .tmp _ => true | _ => false) = true) : resLen P ps rs := by
  intro i t ty p hi _
  have := List.all_eq_true.1 h _ (List.mem_of_getElem? hi)
  cases this

/-- One result, in a cell. -/
theorem resLen_cell {P : Program} {a : Tmp} {ty : TypeId} {sz : Nat} {ls : List Leaf} (h : Ty P ty sz true) (hl : ls.length = sz) : resLen P [.agg ls] [.cell a ty] := by
  intro i t ty' p hi hp
  cases i with
  | zero => simp at hi hp; obtain ⟨rfl, rfl⟩ := hi; subst hp; exact ⟨sz, h, fun ls' e => by cases e; exact hl⟩
  | succ i => simp at hi

/-- The end of a function. -/
theorem fin {P : Program} {τ : St} {rs : List ResultVar} {R : Slot → Prop} {e : Exit} (ps : List Part) (he : e = .ret ∨ e = .normal) (hps : resParts τ rs = some ps) (ho : resOK rs = true) (hl : resLen P ps rs) (hR : R (slotOf ps)) :
    (e = .ret ∨ e = .normal) ∧ ∃ ps, resParts τ rs = some ps ∧ (∀ (i : Nat) t, rs[i]? = some (.tmp t) → resIdx (tk t) rs 0 = some i) ∧ resLen P ps rs ∧ R (slotOf ps) :=
  ⟨he, ps, hps, resOK_spec ho, hl, hR⟩

theorem wrap_in {a b : Int} (h : a = b) (h0 : -9223372036854775808 ≤ b) (h1 : b ≤ 9223372036854775807) : IntKind.i64.wrap a = b := by
  subst h; exact IntWalk.i64_in _ (by omega)
end Go.Proofs.YtahciphhopiipaaGreatDoor.V
