/- Walking by hand: guarded operations, choices, calls by value out of memory. -/
import Derived.Test.YtahciphhopiipaaGreatDoorW1
set_option linter.unusedVariables false
set_option linter.unusedSimpArgs false
namespace Go.Proofs.YtahciphhopiipaaGreatDoor.V
open Go Go.RowKit

theorem Knows.gen {n : Nat} {a : Act} {l : List (Nat × Value)} (A : Knows n a l) {G : Act → Prop} (h : ∀ a', Knows n a' l → G a') : G a := h a A
theorem k_pick {P : Program} {ops : Array Oper} {Q : Exit → Act → World → Prop} {i : Nat} {l : List Nat} {a : Act} {w : World} {o : Oper} {c x y : Operand} {b : Bool} {v : Value} {d : Option Nat} (ho : ops[i]? = some o) (h : Is o (.pick c x y) d)
    (hc : a.eval c = .bool b) (hv : a.eval (if b then x else y) = v) (hn : wpOps P ops Q l (a.put d v) w) : wpOps P ops Q (i :: l) a w := by
  refine k_val ho h (v := v) (w' := w) ?_ hn
  subst hv
  cases b <;> simp [execOp, h.op, hc, asBool]
/-- The test that an operation hangs on. -/
theorem wanted_of {n : Nat} {a : Act} {l : List (Nat × Value)} (A : Knows n a l) {ops : Array Oper} {o oj : Oper} {j d : Nat} {want : Bool} (hg : o.guard = some (j, want)) (hj : ops[j]? = some oj) (hd : oj.dst = some d) (hm : (d, .bool want) ∈ l) (hn : d < n) :
    Region.wanted o (yielded ops a.tmps) = true := by
  have e2 : a.tmps.getD d undef = .bool want := A.2.2 _ hm
  have hlt : d < a.tmps.size := by rw [A.2.1]; exact hn
  have e3 : a.tmps[d]? = some (.bool want) := by
    rw [Array.getElem?_eq_getElem hlt]
    rw [Array.getD_eq_getD_getElem?, Array.getElem?_eq_getElem hlt] at e2
    simpa using e2
  simp [Region.wanted, hg, yielded, hj, hd, e3]
theorem g_copy {P : Program} {ops : Array Oper} {Q : Exit → Act → World → Prop} {i : Nat} {l : List Nat} {a : Act} {w : World} {o : Oper} {x : Operand} {v : Value} {d : Option Nat} (ho : ops[i]? = some o) (hw : Region.wanted o (yielded ops a.tmps) = true) (hop : o.op = .move x ∨ o.op = .assign x) (hd : o.dst = d) (hx : a.eval x = v)
    (hn : wpOps P ops Q l (a.put d v) w) : wpOps P ops Q (i :: l) a w := by
  simp only [wpOps, ho]
  rw [if_pos hw]
  left
  unfold Oper.wp
  have hr : (execOp a.eval o).run P w = .ok (.value v) w := by subst hx; rcases hop with h | h <;> simp only [execOp, h] <;> rfl
  rw [hr]
  show wpOps P ops Q l (a.put o.dst v) w
  rw [hd]; exact hn
theorem g_not {P : Program} {ops : Array Oper} {Q : Exit → Act → World → Prop} {i : Nat} {l : List Nat} {a : Act} {w : World} {o : Oper} {x : Operand} {t : TypeId} {b : Bool} {d : Option Nat} (ho : ops[i]? = some o) (hw : Region.wanted o (yielded ops a.tmps) = true) (hop : o.op = .unOp .not t x) (hd : o.dst = d)
    (hx : a.eval x = .bool b) (hn : wpOps P ops Q l (a.put d (.bool !b)) w) : wpOps P ops Q (i :: l) a w := by
  simp only [wpOps, ho]
  rw [if_pos hw]
  left
  unfold Oper.wp
  have hr : (execOp a.eval o).run P w = .ok (.value (.bool !b)) w := by simp [execOp, hop, hx, Op.unary]
  rw [hr]
  show wpOps P ops Q l (a.put o.dst _) w
  rw [hd]; exact hn
theorem g_call {P : Program} {ops : Array Oper} {Q : Exit → Act → World → Prop} {i : Nat} {l : List Nat} {a : Act} {w : World} {o : Oper} {f : FuncId} {xs : Array Operand} {ats : Array TypeId} {d : Nat} {R : Ending → World → Prop} {args : Array Value} (ho : ops[i]? = some o)
    (hw : Region.wanted o (yielded ops a.tmps) = true) (hop : o.op = .call { callee := .value (.func f), args := xs, argTypes := ats }) (hd : o.dst = some d) (hf : Text P f) (hx : xs.map a.eval = args) (hc : Calls P f args w R)
    (hn : ∀ e w', R e w' → ∃ v, e = .returned v ∧ wpOps P ops Q l (a.put (some d) v) w') : wpOps P ops Q (i :: l) a w := by
  subst hx
  simp only [wpOps, ho]
  rw [if_pos hw]
  left
  have hrun : (execOp a.eval o).run P w = .ok (.enter f (xs.map a.eval)) w := by
    have e : execOp a.eval o = callFunc f (xs.map a.eval) := by
      simp [execOp, hop, resolve, Deferred.ofValue, Act.eval, invoke]
    rw [e, run_callFunc hf]
  unfold Oper.wp
  rw [hrun, Oper.upon_enter]
  refine hc.mono fun e w' h2 => ?_
  obtain ⟨v, rfl, h3⟩ := hn e w' h2
  show wpOps P ops Q l (a.put o.dst v) w'
  rw [hd]
  exact h3

/-- Data below a bound. -/
abbrev DataIn (N : Nat) (w : World) (v : Value) (x : SV) : Prop := SRep (fun b => b < N) w v x
def gImm (w : World) : Nat → Tag := fun b => if b < w.heap.size then .imm else .none
def gLent (w : World) : Nat → Tag := fun b => if b < w.heap.size then .lent else .none
theorem SRep.num {S : Nat → Prop} {w : World} {v : Value} {k : IntKind} {n : Int} (h : SRep S w v (.int k n)) : v = .int k n := by cases h; rfl
theorem SRep.truth {S : Nat → Prop} {w : World} {v : Value} {b : Bool} (h : SRep S w v (.bool b)) : v = .bool b := by cases h; rfl
/-- A call by value, whatever the data lies in. -/
theorem callI {P : Program} {f : FuncId} {xs : List SV} {y : SV} (h : CallV P f (xs.map fun x => .lf (.im true x)) (· = .lf (.im true y))) (w : World) (hl : Lw w) (vs : Array Value) (hs : vs.size = xs.length)
    (ha : ∀ (i : Nat) x v, xs[i]? = some x → vs[i]? = some v → DataIn w.heap.size w v x) : Calls P f vs w fun e w' => ∃ v, e = .returned v ∧ Below w.heap.size w w' ∧ DataIn w'.heap.size w' v y := by
  refine (h (gImm w) w vs hl (fun b k i j e => by unfold gImm at e; split at e <;> cases e) (fun b hb => by unfold gImm; rw [if_neg (by omega)]) (by simpa using hs) (fun i p v h1 h2 => ?_)).mono ?_
  · rw [List.getElem?_map, Option.map_eq_some_iff] at h1
    obtain ⟨x, hx, rfl⟩ := h1
    exact (ha i x v hx h2).mono (fun _ _ => rfl) fun b hb => .inl (by unfold gImm; rw [if_pos hb])
  · rintro e w' ⟨v, g', s, rfl, hb, rfl, hs, h1, h2, -⟩
    have hs : SRep (Imm g' true) w' v y := hs
    refine ⟨v, rfl, hb, hs.mono (fun _ _ => rfl) fun b hb => Nat.lt_of_not_le fun hle => ?_⟩
    have := hb.sh
    rw [h2 b hle] at this; cases this
/-- A call by value on what is lent: what is new lies apart. -/
theorem callL {P : Program} {f : FuncId} {ps : List Part} {y : SV} (h : CallV P f ps (· = .lf (.im true y))) (w : World) (hl : Lw w) (vs : Array Value) (hs : vs.size = ps.length)
    (ha : ∀ (i : Nat) p v, ps[i]? = some p → vs[i]? = some v → ∃ x, (p = .lf (.im false x) ∨ (p = .lf (.im true x) ∧ x.isVal = true)) ∧ DataIn w.heap.size w v x) :
    Calls P f vs w fun e w' => ∃ (v : Value) (S : Nat → Prop), e = .returned v ∧ Below w.heap.size w w' ∧ SRep S w' v y ∧ Soft S w' ∧ ∀ b, S b → w.heap.size ≤ b ∧ b < w'.heap.size := by
  refine (h (gLent w) w vs hl (fun b k i j e => by unfold gLent at e; split at e <;> cases e) (fun b hb => by unfold gLent; rw [if_neg (by omega)]) hs (fun i p v h1 h2 => ?_)).mono ?_
  · obtain ⟨x, hp, hd⟩ := ha i p v h1 h2
    rcases hp with rfl | ⟨rfl, hx⟩
    · exact hd.mono (fun _ _ => rfl) fun b hb => .inr ⟨rfl, by unfold gLent; rw [if_pos hb]⟩
    · exact hd.scal hx
  · rintro e w' ⟨v, g', s, rfl, hb, rfl, hs, h1, h2, h3, h4, h5⟩
    have hs : SRep (Imm g' true) w' v y := hs
    have hge : ∀ b, g' b = .imm → w.heap.size ≤ b := fun b hi => Nat.le_of_not_lt fun hlt => by
      have := h1 b hlt
      unfold gLent at this
      rw [if_pos hlt, hi] at this; cases this
    refine ⟨v, fun b => g' b = .imm, rfl, hb, hs.mono (fun _ _ => rfl) fun b hb => hb.sh, fun b hi => h5 b (hge b hi) hi, fun b hi => ⟨hge b hi, Nat.lt_of_not_le fun hle => by have h6 := h2 b hle; rw [show g' b = Tag.imm from hi] at h6; cases h6⟩⟩
theorem DataIn.below {N : Nat} {w w' : World} {v : Value} {x : SV} (h : DataIn N w v x) (hb : Below w.heap.size w w') (hN : N ≤ w.heap.size) : DataIn N w' v x :=
  SRep.mono h (fun b hb' => hb.block b (Nat.lt_of_lt_of_le hb' hN)) fun _ hb' => hb'
theorem DataIn.le {N M : Nat} {w : World} {v : Value} {x : SV} (h : DataIn N w v x) (hN : N ≤ M) : DataIn M w v x := SRep.mono h (fun _ _ => rfl) fun _ hb => Nat.lt_of_lt_of_le hb hN
theorem SRep.kept {S : Nat → Prop} {w w' : World} {v : Value} {x : SV} (h : SRep S w v x) (hb : Below w.heap.size w w') (hS : ∀ b, S b → b < w.heap.size) : SRep S w' v x := h.mono (fun b hb' => hb.block b (hS b hb')) fun _ hb' => hb'
theorem SRep.dataIn {S : Nat → Prop} {N : Nat} {w : World} {v : Value} {x : SV} (h : SRep S w v x) (hS : ∀ b, S b → b < N) : DataIn N w v x := h.mono (fun _ _ => rfl) hS
theorem SRep.apart {S T : Nat → Prop} {w w' : World} {v : Value} {x : SV} (h : SRep S w v x) (hm : Mk T w w') (hS : ∀ b, S b → b < w.heap.size ∧ ¬ T b) : SRep S w' v x := h.mono (fun b hb => hm.off b (hS b hb).1 (hS b hb).2) fun _ hb => hb
theorem Soft.below {S : Nat → Prop} {w w' : World} (h : Soft S w) (hb : Below w.heap.size w w') : Soft S w' := fun b hs => (h b hs).to (hb.block b (h.lt hs))
theorem Soft.apart {S T : Nat → Prop} {w w' : World} (h : Soft S w) (hm : Mk T w w') (hS : ∀ b, S b → ¬ T b) : Soft S w' := fun b hs => (h b hs).to (hm.off b (h.lt hs) (hS b hs))
theorem below_step {N : Nat} {w0 w w' : World} (h : Below N w0 w) (hN : N ≤ w.heap.size) (hb : Below w.heap.size w w') : Below N w0 w' :=
  ⟨hb.os.trans h.os, hb.tape.trans h.tape, hb.output.trans h.output, Nat.le_trans h.size hb.size, fun b hb' => (hb.block b (Nat.lt_of_lt_of_le hb' hN)).trans (h.block b hb')⟩
theorem below_mk {N : Nat} {w0 w w' : World} {S : Nat → Prop} (h : Below N w0 w) (hN : N ≤ w.heap.size) (hm : Mk S w w') (hS : ∀ b, S b → N ≤ b) : Below N w0 w' :=
  ⟨hm.os.trans h.os, hm.tape.trans h.tape, hm.output.trans h.output, Nat.le_trans h.size hm.size, fun b hb' => (hm.off b (by omega) fun hs => by have := hS b hs; omega).trans (h.block b hb')⟩
end Go.Proofs.YtahciphhopiipaaGreatDoor.V
