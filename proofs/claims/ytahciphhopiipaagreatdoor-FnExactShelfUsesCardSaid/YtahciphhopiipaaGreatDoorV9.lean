/- A body proves its function's contract; a call uses it. -/
import Derived.Test.YtahciphhopiipaaGreatDoorV8
set_option linter.unusedVariables false
set_option linter.unusedSimpArgs false
namespace Go.Proofs.YtahciphhopiipaaGreatDoor.V
open Go Go.RowKit

/-- Results as one value. -/
def tupOf : List Value → Value
  | [v] => v
  | vs => .tuple vs.toArray

theorem run_results {P : Program} {w : World} (fn : Func) (a : Act) (vs : List Value) (h : (fn.results.toList.mapM (resSem a)).run P w = .ok vs w) :
    (results fn a.tmps).run P w = .ok (tupOf vs) w := by
  unfold results
  have e : (fun (x : ResultVar) => (match x with | .tmp t => pure (a.tmps.getD t undef) | .cell x t => do loadVar t (← asAddr (a.tmps.getD x undef)) : Sem Value)) = resSem a := by
    funext x; cases x <;> rfl
  rw [Sem.run_bind, Array.mapM_eq_mapM_toList]
  have e2 : (fn.results.toList.mapM fun x => (match x with | .tmp t => pure (a.tmps.getD t undef) | .cell x t => do loadVar t (← asAddr (a.tmps.getD x undef)) : Sem Value)) = fn.results.toList.mapM (resSem a) := by rw [e]
  rw [Sem.run_map]
  erw [e2]
  rw [h]
  simp only [Result.andThen_ok]
  match vs with
  | [] => rfl
  | [v] => rfl
  | v :: v' :: rest => rfl

theorem slotOf_rel {g : Nat → Tag} {w : World} {ps : List Part} {vs : List Value} (hl : vs.length = ps.length) (h : ∀ (i : Nat) p v, ps[i]? = some p → vs[i]? = some v → PartRel g w 0 i v p) :
    SlotRel g w 0 (tupOf vs) (slotOf ps) := by
  match ps, vs, hl with
  | [], [], _ => exact ⟨#[], rfl, rfl, fun i p x h => by simp at h⟩
  | [p], [v], _ => exact h 0 p v rfl rfl
  | p :: p' :: ps, v :: v' :: vs, hl =>
    refine ⟨(v :: v' :: vs).toArray, rfl, by simpa using hl, fun i q x h1 h2 => ?_⟩
    exact h i q x h1 (by simpa using h2)

theorem CallV.body {P : Program} {f : FuncId} {fn : Func} {c : Code} {args : List Part} {R : Slot → Prop} (hf : P.funcs[f]? = some fn) (hb : fn.body = some c) (hn : args.length ≤ fn.ntmps)
    (h : ∀ E : Env, E.n = fn.ntmps → (∀ b, ¬ E.may b) → VW P E c (st0 args) fun e τ => (e = .ret ∨ e = .normal) ∧ ∃ ps, resParts τ fn.results.toList = some ps ∧
      (∀ (i : Nat) t, fn.results.toList[i]? = some (.tmp t) → resIdx (tk t) fn.results.toList 0 = some i) ∧ resLen P ps fn.results.toList ∧ R (slotOf ps)) : CallV P f args R := by
  intro g w vs hlaid hown hfresh hsz hargs
  refine calls_of_wp hf hb ?_
  refine h ⟨w, fn.ntmps, g, fun _ => False, fun w1 h => Lw.stays (fun b hb => h b hb id) hlaid⟩ rfl (fun _ h => h) g w _ _ ?_ ?_
  · exact
      { defers := rfl
        os := rfl
        tape := rfl
        output := rfl
        size := Nat.le_refl _
        old := fun _ _ _ => rfl
        many := by simp; omega
        slot := fun t => by
          have ek : st0 args (tk t) = ((args[t]?).map Slot.one).getD Slot.hole := by
            unfold st0 tk; rw [if_pos (by omega), show 2 * t / 2 = t from by omega]
          rw [ek]
          cases hp : args[t]? with
          | none => exact trivial
          | some p =>
            have hlt : t < vs.size := by rw [hsz]; exact (List.getElem?_eq_some_iff.1 hp).1
            have hv : vs[t]? = some vs[t] := Array.getElem?_eq_getElem hlt
            have := hargs t p _ hp hv
            have e2 : (vs ++ Array.replicate (fn.ntmps - vs.size) undef).getD t undef = vs[t] := by
              rw [Array.getD_eq_getD_getElem?, Array.getElem?_append_left hlt, hv]; rfl
            simp only [Option.map_some, Option.getD_some]
            rw [e2]
            exact this.to (fun sh b hb => ⟨hb, rfl⟩) fun b j hb => absurd hb (hown b _ _ _)
        cell := fun t => by
          have ek : st0 args (ck t) = Slot.hole := by unfold st0 ck; rw [if_neg (by omega)]
          rw [ek]; exact trivial
        fresh := hfresh
        mine := fun b k i j e => absurd e (hown b _ _ _)
        uniq := fun b b' k i j e => absurd e (hown b _ _ _)
        elder := fun _ _ _ => rfl
        soft := fun b hb e => by
          rcases hb with hb | hb
          · rw [hfresh b hb] at e; cases e
          · exact hb.elim }
  · rintro e g' w' a' τ ⟨he, ps, hps, hidx, hlen, hR⟩ hr
    obtain ⟨vs', hvl, hrun, hrel⟩ := res_all (P := P) hr fn.results.toList fn.results.toList 0 ps hps (fun i t hi => by rw [Nat.zero_add]; exact hidx i t hi) hlen
    have hres := run_results (P := P) fn a' vs' hrun
    have post : a'.defers = [] ∧ ∃ v, (results fn a'.tmps).run P w' = .ok v w' ∧ ∃ v' g' s, Ending.returned v = .returned v' ∧ Below w.heap.size w w' ∧ R s ∧ SlotRel g' w' 0 v' s ∧ (∀ b, b < w.heap.size → g' b = g b) ∧
        (∀ b, w'.heap.size ≤ b → g' b = .none) ∧ (∀ b k i j, g' b = .own k i j → k = 0) ∧ (∀ b b' k i j, g' b = .own k i j → g' b' = .own k i j → b = b') ∧ (∀ b, w.heap.size ≤ b → g' b = .imm → Plain w' b) := by
      have hold : ∀ b, b < w.heap.size → g' b = g b := fun b hb => hr.elder b hb id
      refine ⟨hr.defers, _, hres, _, retag fn.results.toList g', slotOf ps, rfl, ⟨hr.os, hr.tape, hr.output, hr.size, fun b hb => hr.old b hb id⟩, hR, slotOf_rel hvl (fun i p v h1 h2 => by have := hrel i p v h1 h2; rwa [Nat.zero_add] at this), ?_, ?_, ?_, ?_, ?_⟩
      · intro b hb
        have := hold b hb
        unfold retag
        cases e : g' b with
        | own x y z => rw [e] at this; exact absurd this.symm (hown b _ _ _)
        | none => rw [← this, e]
        | imm => rw [← this, e]
        | lent => rw [← this, e]
      · intro b hb; unfold retag; rw [hr.fresh b hb]
      · intro b k i j e; exact (retag_own e).1
      · intro b b' k i j e e'
        obtain ⟨_, k1, h1, i1⟩ := retag_own e
        obtain ⟨_, k2, h2, i2⟩ := retag_own e'
        have := resIdx_inj _ _ _ i1 i2
        subst this
        exact hr.uniq b b' k1 0 j h1 h2
      · intro b hb e
        refine hr.soft b (.inl hb) ?_
        unfold retag at e
        cases eg : g' b with
        | imm => rfl
        | none => rw [eg] at e; cases e
        | lent => rw [eg] at e; cases e
        | own x y z =>
          rw [eg] at e
          cases y with
          | zero => simp only at e; split at e <;> cases e
          | succ y => cases e
    rcases he with rfl | rfl
    · exact post
    · exact post
end Go.Proofs.YtahciphhopiipaaGreatDoor.V
