/- A call by its contract. -/
import Derived.Test.YtahciphhopiipaaGreatDoorV9
set_option linter.unusedVariables false
set_option linter.unusedSimpArgs false
namespace Go.Proofs.YtahciphhopiipaaGreatDoor.V
open Go Go.RowKit

/-- A function that is Go text. -/
structure Text (P : Program) (f : FuncId) : Prop where
  get : ∃ fn c, P.funcs[f]? = some fn ∧ fn.body = some c ∧ (fn.name == "runtime.NumGoroutine") = false

theorem run_callFunc {P : Program} {f : FuncId} (h : Text P f) (args : Array Value) (w : World) : (callFunc f args).run P w = .ok (.enter f args) w := by
  obtain ⟨fn, c, h1, h2, h3⟩ := h.get
  have h3' : ¬ fn.name = "runtime.NumGoroutine" := by simpa using h3
  simp [callFunc, h1, h2, h3']

/-- What the callee is told of the tags. -/
def lendTags (g : Nat → Tag) : Nat → Tag := fun b => match g b with
  | .own .. => .none
  | t => t

theorem lendTags_Imm {g : Nat → Tag} {sh : Bool} {b : Nat} : Imm (lendTags g) sh b ↔ Imm g sh b := by
  unfold Imm lendTags; cases g b <;> simp

/-- The tags behind a call. -/
def backTags (n k : Nat) (g g1 : Nat → Tag) : Nat → Tag := fun b => if b < n then g b else match g1 b with
  | .own _ i j => .own k i j
  | t => t

/-- The parts of operands. -/
def opParts (σ : St) : List Operand → Option (List Part)
  | [] => some []
  | x :: xs => match opd σ x, opParts σ xs with
    | .one p, some ps => if p.bare then some (p :: ps) else none
    | _, _ => none

theorem opParts_get {E : Env} {g : Nat → Tag} {w : World} {a : Act} {σ : St} (h : Rel E g w a σ) : ∀ {xs : List Operand} {ps : List Part}, opParts σ xs = some ps →
    xs.length = ps.length ∧ ∀ (i : Nat) p v, ps[i]? = some p → (xs.map a.eval)[i]? = some v → PartRel (lendTags g) w 0 i v p
  | [], ps, e => by cases e; exact ⟨rfl, fun i p v h => by simp at h⟩
  | x :: xs, ps, e => by
    simp only [opParts] at e
    split at e
    · rename_i p ps' e1 e2
      split at e
      · rename_i hb
        cases e
        obtain ⟨hl, hg⟩ := opParts_get h e2
        refine ⟨by simp [hl], fun i q v h1 h2 => ?_⟩
        cases i with
        | zero =>
          simp at h1 h2; subst h1; subst h2
          have := opd_rel h x
          rw [e1] at this
          exact PartRel.bare this hb fun sh b hh => lendTags_Imm.2 hh
        | succ i =>
          have := hg i q v (by simpa using h1) (by simpa using h2)
          cases q with
          | lf l => exact LeafRel.to this (fun sh b hb => ⟨hb, rfl⟩) (fun b hb => by unfold lendTags at hb; cases e : g b <;> rw [e] at hb <;> cases hb)
          | agg ls => exact PartRel.to this (fun sh b hb => ⟨hb, rfl⟩) (fun b j hb => by unfold lendTags at hb; cases e : g b <;> rw [e] at hb <;> cases hb)
      · cases e
    · cases e

/-- Behind a call. -/
theorem Rel.called {E : Env} {g : Nat → Tag} {w : World} {a : Act} {σ : St} (h : Rel E g w a σ) (d : Nat) (hn : d < E.n) {w1 : World} {g1 : Nat → Tag} {v : Value} {s : Slot} (hb : Below w.heap.size w w1)
    (hs : SlotRel g1 w1 0 v s) (h1 : ∀ b, b < w.heap.size → g1 b = lendTags g b) (h2 : ∀ b, w1.heap.size ≤ b → g1 b = .none) (h3 : ∀ b k i j, g1 b = .own k i j → k = 0)
    (h4 : ∀ b b' k i j, g1 b = .own k i j → g1 b' = .own k i j → b = b') (h5 : ∀ b, w.heap.size ≤ b → g1 b = .imm → Plain w1 b) :
    Rel E (backTags w.heap.size (tk d) (drop (tk d) g) g1) w1 (a.put (some d) v) (upd σ (tk d) s) := by
  have r1 := h.forget (tk d)
  have r2 : Rel E (drop (tk d) g) w1 a (upd σ (tk d) Slot.hole) := r1.world hb.os hb.tape hb.output hb.size fun b hlt => .inl (hb.block b hlt)
  have hlt : ∀ b, g b ≠ .none → b < w.heap.size := fun b hn => Nat.lt_of_not_le fun hle => hn (h.fresh b hle)
  have r3 : Rel E (backTags w.heap.size (tk d) (drop (tk d) g) g1) w1 a (upd σ (tk d) Slot.hole) := by
    refine r2.tags ?_ ?_ ?_ ?_ ?_
    · intro b hb'
      have : b < w.heap.size := Nat.lt_of_not_le fun hle => hb' (r1.fresh b hle)
      simp [backTags, this]
    · intro b hb'
      have : ¬ b < w.heap.size := by have := hb.size; omega
      simp [backTags, this, h2 b hb']
    · intro b e1 e2
      by_cases hb' : b < w.heap.size
      · simp [backTags, hb', e1] at e2
      · left; have := h.size; omega
    · intro b b' k i j e1 e2
      have key : ∀ b, backTags w.heap.size (tk d) (drop (tk d) g) g1 b = .own k i j → (b < w.heap.size ∧ drop (tk d) g b = .own k i j) ∨ (¬ b < w.heap.size ∧ k = tk d ∧ g1 b = .own 0 i j) := by
        intro b e
        unfold backTags at e
        split at e
        · rename_i hb'; exact .inl ⟨hb', e⟩
        · rename_i hb'
          cases eg : g1 b with
          | own x y z =>
            rw [eg] at e
            have hx := h3 b x y z eg
            subst hx
            simp only [Tag.own.injEq] at e
            obtain ⟨e1, e2, e3⟩ := e
            exact .inr ⟨hb', e1.symm, by rw [← e2, ← e3]⟩
          | none => rw [eg] at e; cases e
          | imm => rw [eg] at e; cases e
          | lent => rw [eg] at e; cases e
      rcases key b e1 with ⟨_, f1⟩ | ⟨_, k1, f1⟩ <;> rcases key b' e2 with ⟨_, f2⟩ | ⟨_, k2, f2⟩
      · exact r1.uniq b b' k i j f1 f2
      · exact absurd k2 (drop_own.1 f1).2
      · exact absurd k1 (drop_own.1 f2).2
      · exact h4 b b' 0 i j f1 f2
    · intro b e1 e2 _
      unfold backTags at e2
      split at e2
      · rw [e1] at e2; cases e2
      · rename_i hb'
        cases eg : g1 b with
        | imm => exact h5 b (by omega) eg
        | own x y z => rw [eg] at e2; cases e2
        | none => rw [eg] at e2; cases e2
        | lent => rw [eg] at e2; cases e2
  have r4 := (r3.act d v (upd_same ..)).putSlot d s (by
    rw [act_put_eq (by rw [h.many]; exact hn)]
    refine hs.to (fun sh b hI => ⟨?_, rfl⟩) (fun b i j hO => ⟨?_, rfl⟩)
    · by_cases hb' : b < w.heap.size
      · have e := h1 b hb'
        unfold Imm at hI ⊢
        rw [e] at hI
        have hI' : Imm g sh b := lendTags_Imm.1 hI
        have hI2 := drop_Imm (k := tk d).2 hI'
        have eb : backTags w.heap.size (tk d) (drop (tk d) g) g1 b = drop (tk d) g b := by simp [backTags, hb']
        rw [eb]
        exact hI2
      · unfold Imm at hI ⊢
        rcases hI with hI | ⟨e, hI⟩
        · left; simp [backTags, hb', hI]
        · right; exact ⟨e, by simp [backTags, hb', hI]⟩
    · by_cases hb' : b < w.heap.size
      · rw [h1 b hb'] at hO
        unfold lendTags at hO
        cases e : g b <;> rw [e] at hO <;> cases hO
      · simp [backTags, hb', hO])
  rwa [upd_upd] at r4

theorem step_call {P : Program} {E : Env} {o : Oper} {σ : St} {R : Slot → Prop} (d : Nat) (f : FuncId) (xs : Array Operand) (ats : Array TypeId) (ps : List Part)
    (ho : o.op = .call { callee := .value (.func f), args := xs, argTypes := ats }) (hd : o.dst = some d) (hn : d < E.n) (hf : Text P f) (hxs : opParts σ xs.toList = some ps) (hc : CallV P f ps R) :
    Step P E o σ fun τ => ∃ s, R s ∧ τ = upd σ (tk d) s := by
  intro g w a next Q hr hnext
  have hrun : (execOp a.eval o).run P w = .ok (.enter f (xs.map a.eval)) w := by
    have e : execOp a.eval o = callFunc f (xs.map a.eval) := by
      simp [execOp, ho, resolve, Deferred.ofValue, Act.eval, invoke]
    rw [e, run_callFunc hf]
  unfold Oper.wp
  rw [hrun, Oper.upon_enter]
  obtain ⟨hl, hargs⟩ := opParts_get hr hxs
  refine (hc (lendTags g) w (xs.map a.eval) (E.laid w hr.old) ?_ ?_ ?_ ?_).mono ?_
  · intro b k i j e; unfold lendTags at e; cases eg : g b <;> rw [eg] at e <;> cases e
  · intro b hb; unfold lendTags; rw [hr.fresh b hb]
  · simpa using hl
  · intro i p v h1 h2
    refine hargs i p v h1 ?_
    have : (xs.map a.eval).toList[i]? = some v := by simpa using h2
    simpa using this
  · rintro e w1 ⟨v, g1, s, rfl, hb, hR, hs, h1, h2, h3, h4, h5⟩
    rw [hd]
    exact hnext _ w1 _ _ ⟨s, hR, rfl⟩ (hr.called d hn hb hs h1 h2 h3 h4 h5)
end Go.Proofs.YtahciphhopiipaaGreatDoor.V
