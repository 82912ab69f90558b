/- Calls with one answer; what comes back owned may be taken as shared. -/
import Derived.Test.YtahciphhopiipaaGreatDoorV20
set_option linter.unusedVariables false
set_option linter.unusedSimpArgs false
namespace Go.Proofs.YtahciphhopiipaaGreatDoor.V
open Go Go.RowKit

theorem step_call1 {P : Program} {E : Env} {o : Oper} {σ : St} {s : Slot} (d : Nat) (f : FuncId) (xs : Array Operand) (ats : Array TypeId) (ps : List Part)
    (ho : o.op = .call { callee := .value (.func f), args := xs, argTypes := ats }) (hd : o.dst = some d) (hn : d < E.n) (hf : Text P f) (hxs : opParts σ xs.toList = some ps) (hc : CallV P f ps (· = s)) :
    Step P E o σ (· = upd σ (tk d) s) :=
  (step_call d f xs ats ps ho hd hn hf hxs hc).mono fun τ ⟨s', e, h⟩ => by subst e; exact h

theorem Text.of {P : Program} {f : FuncId} {fn : Func} {c : Code} (h : P.funcs[f]? = some fn) (hb : fn.body = some c) (hn : (fn.name == "runtime.NumGoroutine") = false) : Text P f := ⟨fn, c, h, hb, hn⟩

/-- An owned result taken as shared data. -/
theorem CallV.im {P : Program} {f : FuncId} {ps : List Part} {R : Slot → Prop} {e sz : Nat} {rows : List (List SV)} (h : CallV P f ps R) (hR : ∀ s, R s → ∃ b c, s = .lf (.u b c e sz rows)) :
    CallV P f ps (· = .lf (.im true (.sl sz rows))) := by
  intro g w vs h0 h1 h2 h3 h4
  refine (h g w vs h0 h1 h2 h3 h4).mono ?_
  rintro en w' ⟨v, g', s, he, hb, hr, hs, k1, k2, k3, k4, k5⟩
  obtain ⟨b, c, rfl⟩ := hR s hr
  obtain ⟨hv, hg, hc, hm, cur, hh, hsz, hrows⟩ := hs
  have hge : ¬ b < w.heap.size := fun hlt => by rw [k1 b hlt] at hg; exact h1 b _ _ _ hg
  refine ⟨v, fun b' => if b' = b then .imm else g' b', _, he, hb, rfl, ?_, ?_, ?_, ?_, ?_, ?_⟩
  · show SRep _ _ _ _
    rw [hv]
    exact hrows.data hh hc _ (fun x hx => .inl (by by_cases e0 : x = b <;> simp [e0, hx])) (.inl (by simp))
  · intro b' hb'
    have : b' ≠ b := fun e0 => hge (e0 ▸ hb')
    simp [this, k1 b' hb']
  · intro b' hb'
    have hlt : b < w'.heap.size := (Array.getElem?_eq_some_iff.1 hh).1
    have : b' ≠ b := by omega
    simp [this, k2 b' hb']
  · intro b' k i j e0
    by_cases e1 : b' = b
    · simp [e1] at e0
    · simp [e1] at e0; exact k3 b' k i j e0
  · intro b1 b2 k i j e1 e2
    by_cases q1 : b1 = b
    · simp [q1] at e1
    · by_cases q2 : b2 = b
      · simp [q2] at e2
      · simp [q1] at e1; simp [q2] at e2; exact k4 b1 b2 k i j e1 e2
  · intro b' hb' e0
    by_cases e1 : b' = b
    · rw [e1]; exact ⟨cur, _, hh⟩
    · simp [e1] at e0; exact k5 b' hb' e0
end Go.Proofs.YtahciphhopiipaaGreatDoor.V
