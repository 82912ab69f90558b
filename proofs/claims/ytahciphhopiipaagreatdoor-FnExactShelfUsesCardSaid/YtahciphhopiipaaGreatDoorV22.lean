/- A builder of texts behind a pointer: functions that write on it. -/
import Derived.Test.YtahciphhopiipaaGreatDoorV21
set_option linter.unusedVariables false
set_option linter.unusedSimpArgs false
namespace Go.Proofs.YtahciphhopiipaaGreatDoor.V
open Go Go.RowKit

/-- What is owned is the builder's alone. -/
structure OneObj (g : Nat → Tag) (w : World) : Prop where
  own : ∀ b k i j, g b = .own k i j → k = 1
  uniq : ∀ b b' k i j, g b = .own k i j → g b' = .own k i j → b = b'
  fresh : ∀ b, w.heap.size ≤ b → g b = .none

/-- Called with a builder that holds a text and with such arguments a function leaves it with another text; all else in memory stays. -/
def CallB (P : Program) (f : FuncId) (T e : Nat) (args : List Part) (s s' : ByteArray) : Prop :=
  ∀ (g : Nat → Tag) (w : World) (b : Nat) (vs : Array Value),
    (∀ w' : World, (∀ b', b' < w.heap.size → (∀ i j, g b' ≠ .own 1 i j) → w'.heap[b']? = w.heap[b']?) → Lw w') → OneObj g w → vs.size = args.length + 1 →
    vs[0]? = some (.pointer (some ⟨b, 0, none⟩)) → (∀ (i : Nat) p v, args[i]? = some p → vs[i + 1]? = some v → PartRel g w 0 i v p) → ObjRel g w 1 b T e s →
    Calls P f vs w fun en w' => ∃ v g', en = .returned v ∧ w'.os = w.os ∧ w'.tape = w.tape ∧ w'.output = w.output ∧ w.heap.size ≤ w'.heap.size ∧
      (∀ b', b' < w.heap.size → (∀ i j, g b' ≠ .own 1 i j) → w'.heap[b']? = w.heap[b']? ∧ g' b' = g b') ∧ OneObj g' w' ∧ ObjRel g' w' 1 b T e s' ∧ (∀ b', g' b' = .imm → g b' ≠ .imm → Plain w' b')

/-- The tags that the callee is told. -/
def objTags (k : Nat) (g : Nat → Tag) : Nat → Tag := fun b => match g b with
  | .own k' i j => if k' = k then .own 1 i j else .none
  | t => t
def unTag (k : Nat) : Tag → Tag
  | .own _ i j => .own k i j
  | t => t
def backObj (n k : Nat) (g g1 : Nat → Tag) : Nat → Tag := fun b => if b < n then (match g b with
  | .own k' i j => if k' = k then unTag k (g1 b) else .own k' i j
  | t => t) else unTag k (g1 b)

theorem objTags_own {k : Nat} {g : Nat → Tag} {b k' i j : Nat} (h : objTags k g b = .own k' i j) : k' = 1 ∧ g b = .own k i j := by
  unfold objTags at h
  cases e : g b with
  | own x y z =>
    rw [e] at h
    by_cases hx : x = k
    · simp only [hx, if_true, Tag.own.injEq] at h
      obtain ⟨h1, h2, h3⟩ := h
      exact ⟨h1.symm, by rw [hx, h2, h3]⟩
    · simp only [hx, if_false] at h; cases h
  | none => rw [e] at h; cases h
  | imm => rw [e] at h; cases h
  | lent => rw [e] at h; cases h
theorem objTags_of {k : Nat} {g : Nat → Tag} {b i j : Nat} (h : g b = .own k i j) : objTags k g b = .own 1 i j := by
  unfold objTags; rw [h]; simp
theorem objTags_Imm {k : Nat} {g : Nat → Tag} {sh : Bool} {b : Nat} : Imm (objTags k g) sh b ↔ Imm g sh b := by
  unfold Imm objTags
  cases e : g b with
  | own x y z => by_cases hx : x = k <;> simp [hx]
  | none => simp
  | imm => simp
  | lent => simp

theorem PartRel.told {E : Env} {g : Nat → Tag} {w : World} {a : Act} {σ : St} {k : Nat} (h : Rel E g w a σ) : ∀ {xs : List Operand} {ps : List Part}, opParts σ xs = some ps →
    xs.length = ps.length ∧ ∀ (i : Nat) p v, ps[i]? = some p → (xs.map a.eval)[i]? = some v → PartRel (objTags k g) w 0 i v p
  | [], ps, e => by cases e; exact ⟨rfl, fun i p v h => by simp at h⟩
  | x :: xs, ps, e => by
    simp only [opParts] at e
    split at e
    · rename_i p ps' e1 e2
      split at e
      · rename_i hb
        cases e
        obtain ⟨hl, hg⟩ := PartRel.told (k := k) h e2
        refine ⟨by simp [hl], fun i q v h1 h2 => ?_⟩
        have hbare : q.bare = true ∧ PartRel (objTags k g) w 0 (i - 1) v q ∨ i = 0 ∧ q = p ∧ v = a.eval x := by
          cases i with
          | zero => simp at h1 h2; exact .inr ⟨rfl, h1.symm, h2.symm⟩
          | succ i =>
            have hq := hg i q v (by simpa using h1) (by simpa using h2)
            left
            refine ⟨?_, by simpa using hq⟩
            have hall : ∀ {xs : List Operand} {ps : List Part}, opParts σ xs = some ps → ∀ q ∈ ps, q.bare = true := by
              intro xs
              induction xs with
              | nil => intro ps e; cases e; intro q hq; cases hq
              | cons y ys ih =>
                intro ps e
                simp only [opParts] at e
                split at e
                · rename_i p0 ps0 e3 e4
                  split at e
                  · rename_i hb0
                    cases e
                    intro q hq
                    rcases List.mem_cons.1 hq with rfl | hq
                    · exact hb0
                    · exact ih e4 q hq
                  · cases e
                · cases e
            exact hall e2 q (List.mem_of_getElem? (by simpa using h1))
        rcases hbare with ⟨hq, hq2⟩ | ⟨rfl, rfl, rfl⟩
        · exact PartRel.bare hq2 hq fun sh b hh => hh
        · have := opd_rel h x
          rw [e1] at this
          exact PartRel.bare this hb fun sh b hh => objTags_Imm.2 hh
      · cases e
    · cases e

theorem step_callB {P : Program} {E : Env} {o : Oper} {σ : St} (d t : Nat) (f : FuncId) (x : Operand) (xs : List Operand) (axs : Array Operand) (ats : Array TypeId) (ps : List Part) (b T e : Nat) (s s' : ByteArray)
    (ho : o.op = .call { callee := .value (.func f), args := axs, argTypes := ats }) (hax : axs.toList = x :: xs) (hd : o.dst = some d) (hn : d < E.n) (hf : Text P f) (hx : opd σ x = .lf (.ptr b 0)) (hc : σ (ck t) = .obj b T e s)
    (hxs : opParts σ xs = some ps) (hcall : CallB P f T e ps s s') : Step P E o σ (· = upd (upd σ (ck t) (.obj b T e s')) (tk d) Slot.hole) := by
  intro g w a next Q hr hnext
  have hrun : (execOp a.eval o).run P w = .ok (.enter f (axs.map a.eval)) w := by
    have e : execOp a.eval o = callFunc f (axs.map a.eval) := by
      simp [execOp, ho, resolve, Deferred.ofValue, Act.eval, invoke]
    rw [e, run_callFunc hf]
  unfold Oper.wp
  rw [hrun, Oper.upon_enter]
  obtain ⟨hl, hargs⟩ := PartRel.told (k := ck t) hr hxs
  have hobj : ObjRel g w (ck t) b T e s := by have := hr.cell t; rw [hc] at this; exact this
  have hvs : (axs.map a.eval).toList = a.eval x :: xs.map a.eval := by rw [Array.toList_map, hax]; rfl
  have hget : ∀ i : Nat, (axs.map a.eval)[i]? = (a.eval x :: xs.map a.eval)[i]? := fun i => by rw [← hvs, Array.getElem?_toList]
  have hlt : ∀ b, g b ≠ .none → b < w.heap.size := fun b hn => Nat.lt_of_not_le fun hle => hn (hr.fresh b hle)
  refine (hcall (objTags (ck t) g) w b (axs.map a.eval) ?_ ⟨fun b k i j h => (objTags_own h).1, fun b b' k i j h h' => ?_, fun b hb => ?_⟩ ?_ ?_ ?_ ?_).mono ?_
  · intro w' hw'
    refine E.laid w' fun b0 hb0 hm0 => ?_
    rw [hw' b0 (Nat.lt_of_lt_of_le hb0 hr.size) fun i j h => ?_, hr.old b0 hb0 hm0]
    rcases hr.mine _ _ _ _ (objTags_own h).2 with h | h
    · omega
    · exact hm0 h
  · exact hr.uniq b b' (ck t) i j (objTags_own h).2 (objTags_own h').2
  · unfold objTags; rw [hr.fresh b hb]
  · rw [← Array.length_toList, hvs]; simp [hl]
  · rw [hget]; exact congrArg some (opd_ptr hr hx)
  · intro i p v h1 h2
    exact hargs i p v h1 (by rw [hget] at h2; simpa using h2)
  · exact hobj.to fun b i j hb => ⟨objTags_of hb, rfl⟩
  · rintro en w1 ⟨v, g1, rfl, hos, htp, hout, hsz, hfr, hone, hobj1, hpl1⟩
    rw [hd]
    have r1 := hr.forget (tk d)
    have hG : ∀ b i j, drop (tk d) g b = .own (ck t) i j ↔ g b = .own (ck t) i j := fun b i j => by
      rw [drop_own]; exact ⟨fun h => h.1, fun h => ⟨h, fun e => tk_ck d t e.symm⟩⟩
    have hsame : ∀ b', b' < w.heap.size → (∀ i j, g b' ≠ .own (ck t) i j) → w1.heap[b']? = w.heap[b']? :=
      fun b' hb' hno => (hfr b' hb' fun i j h => hno i j (objTags_own h).2).1
    have key : ∀ b0 k i j, backObj w.heap.size (ck t) (drop (tk d) g) g1 b0 = .own k i j → (drop (tk d) g b0 = .own k i j ∧ k ≠ ck t) ∨ (k = ck t ∧ g1 b0 = .own 1 i j ∧ ((∃ i j, g b0 = .own (ck t) i j) ∨ w.heap.size ≤ b0)) := by
      intro b0 k i j h
      have hun : ∀ {tg : Tag}, unTag (ck t) tg = .own k i j → tg = g1 b0 → k = ck t ∧ g1 b0 = .own 1 i j := by
        intro tg h1 h2
        cases tg with
        | own x y z =>
          simp only [unTag, Tag.own.injEq] at h1
          obtain ⟨e1, e2, e3⟩ := h1
          have := hone.own b0 x y z h2.symm
          exact ⟨e1.symm, by rw [← h2, this, e2, e3]⟩
        | none => cases h1
        | imm => cases h1
        | lent => cases h1
      unfold backObj at h
      split at h
      · rename_i hb0
        cases eg : drop (tk d) g b0 with
        | own x y z =>
          rw [eg] at h
          by_cases hx : x = ck t
          · simp only [hx, if_true] at h
            obtain ⟨k1, k2⟩ := hun h rfl
            exact .inr ⟨k1, k2, .inl ⟨y, z, (hG _ _ _).1 (by rw [eg, hx])⟩⟩
          · simp only [hx, if_false] at h
            cases h
            exact .inl ⟨rfl, hx⟩
        | none => rw [eg] at h; cases h
        | imm => rw [eg] at h; cases h
        | lent => rw [eg] at h; cases h
      · rename_i hb0
        obtain ⟨k1, k2⟩ := hun h rfl
        exact .inr ⟨k1, k2, .inr (by omega)⟩
    have r2 : Rel E (backObj w.heap.size (ck t) (drop (tk d) g) g1) w1 a (upd (upd σ (tk d) Slot.hole) (ck t) (.obj b T e s')) := by
      refine r1.turn (fun k => k = ck t) hr.defers hos htp hout hsz ?_ ?_ ?_ rfl (fun _ _ => rfl) ?_ ?_ ?_ ?_ ?_ ?_ ?_
      · intro b0 hb0 hno
        exact hsame b0 hb0 fun i j h => hno _ _ _ ((hG _ _ _).2 h) rfl
      · intro b0 hno hne
        have hb0 : b0 < w.heap.size := Nat.lt_of_not_le fun hle => hne (r1.fresh b0 hle)
        unfold backObj
        rw [if_pos hb0]
        cases eg : drop (tk d) g b0 with
        | own x y z => simp only; rw [if_neg (fun e0 => hno x y z eg e0)]
        | _ => rfl
      · intro k hk; exact upd_ne _ _ hk
      · intro t' h; exact absurd h (tk_ck _ _)
      · intro t' h
        rw [h, upd_same]
        show ObjRel _ _ _ _ _ _ _
        refine hobj1.to fun b0 i j h0 => ⟨?_, rfl⟩
        unfold backObj
        by_cases hb0 : b0 < w.heap.size
        · rw [if_pos hb0]
          have : ∃ i' j', g b0 = .own (ck t) i' j' := by
            refine Classical.byContradiction fun hno => ?_
            have h1 := (hfr b0 hb0 fun i' j' h => hno ⟨i', j', (objTags_own h).2⟩).2
            rw [h0] at h1
            exact hno ⟨_, _, (objTags_own h1.symm).2⟩
          obtain ⟨i', j', h1⟩ := this
          rw [(hG _ _ _).2 h1]
          simp only [if_true, h0, unTag]
        · rw [if_neg hb0, h0]; rfl
      · intro b0 hb0
        have : ¬ b0 < w.heap.size := by omega
        unfold backObj
        rw [if_neg this, hone.fresh b0 hb0]; rfl
      · intro b0 k i j h
        rcases key b0 k i j h with ⟨h1, _⟩ | ⟨_, _, ⟨i', j', h1⟩ | h1⟩
        · exact r1.mine _ _ _ _ h1
        · exact hr.mine _ _ _ _ h1
        · exact .inl (Nat.le_trans hr.size h1)
      · intro b0 b0' k i j h h'
        rcases key b0 k i j h with ⟨h1, h2⟩ | ⟨h1, h2, _⟩ <;> rcases key b0' k i j h' with ⟨h1', h2'⟩ | ⟨h1', h2', _⟩
        · exact r1.uniq _ _ _ _ _ h1 h1'
        · exact absurd h1' h2
        · exact absurd h1 h2'
        · exact hone.uniq _ _ _ _ _ h2 h2'
      · intro b0 hb0 hm0
        have hb1 : b0 < w.heap.size := Nat.lt_of_lt_of_le hb0 hr.size
        unfold backObj
        rw [if_pos hb1]
        cases eg : drop (tk d) g b0 with
        | own x y z =>
          rcases r1.mine _ _ _ _ eg with h | h
          · omega
          · exact absurd h hm0
        | _ => rfl
      · intro b0 hb0 e
        by_cases hb1 : b0 < w.heap.size
        · unfold backObj at e
          rw [if_pos hb1] at e
          cases eg : drop (tk d) g b0 with
          | own x y z =>
            rw [eg] at e
            by_cases hx : x = ck t
            · simp only [hx, if_true] at e
              cases e1 : g1 b0 with
              | imm =>
                have e2 := (hG b0 y z).1 (by rw [eg, hx])
                exact hpl1 b0 e1 (by rw [objTags_of e2]; intro e3; cases e3)
              | own _ _ _ => rw [e1] at e; cases e
              | none => rw [e1] at e; cases e
              | lent => rw [e1] at e; cases e
            · simp only [hx, if_false] at e; cases e
          | imm => exact (r1.soft b0 hb0 eg).to (hsame b0 hb1 fun i j h => by have := (hG _ _ _).2 h; rw [eg] at this; cases this)
          | none => rw [eg] at e; cases e
          | lent => rw [eg] at e; cases e
        · unfold backObj at e
          rw [if_neg hb1] at e
          cases e1 : g1 b0 with
          | imm => exact hpl1 b0 e1 (by unfold objTags; rw [hr.fresh b0 (by omega)]; intro e3; cases e3)
          | own _ _ _ => rw [e1] at e; cases e
          | none => rw [e1] at e; cases e
          | lent => rw [e1] at e; cases e
    have r3 := r2.act d v (by rw [upd_ne _ _ (tk_ck d t), upd_same])
    refine hnext _ w1 _ _ ?_ r3
    exact upd_comm σ _ _ (tk_ck d t)

/-- The state in which the body of a function that writes on a builder begins. -/
def stB (b T e : Nat) (s : ByteArray) (args : List Part) : St := upd (st0 (.lf (.ptr b 0) :: args)) 1 (.obj b T e s)

theorem CallB.body {P : Program} {f : FuncId} {fn : Func} {c : Code} {T e : Nat} {args : List Part} {s s' : ByteArray} (hf : P.funcs[f]? = some fn) (hb : fn.body = some c) (hn : args.length + 1 ≤ fn.ntmps) (hres : fn.results = #[])
    (h : ∀ (E : Env) (b : Nat), E.n = fn.ntmps → VW P E c (stB b T e s args) fun en τ => (en = .ret ∨ en = .normal) ∧ τ 1 = .obj b T e s') : CallB P f T e args s s' := by
  intro g w b vs hlaid hone hsz h0 hargs hobj
  refine calls_of_wp hf hb ?_
  refine h ⟨w, fn.ntmps, g, fun b' => ∃ i j, g b' = .own 1 i j, fun w1 h1 => hlaid w1 fun b' hb' hno => h1 b' hb' fun ⟨i, j, h2⟩ => hno i j h2⟩ b rfl g w _ _ ?_ ?_
  · exact
      { defers := rfl
        os := rfl
        tape := rfl
        output := rfl
        size := Nat.le_refl _
        old := fun _ _ _ => rfl
        many := by simp; omega
        slot := fun t => by
          have ek : stB b T e s args (tk t) = (((.lf (.ptr b 0) :: args : List Part)[t]?).map Slot.one).getD Slot.hole := by
            unfold stB; rw [upd_ne _ _ (by unfold tk; omega)]
            unfold st0 tk; rw [if_pos (by omega), show 2 * t / 2 = t from by omega]
          rw [ek]
          cases hp : (.lf (.ptr b 0) :: args : List Part)[t]? with
          | none => exact trivial
          | some p =>
            have hlt : t < vs.size := by rw [hsz]; exact (List.getElem?_eq_some_iff.1 hp).1
            have hv : vs[t]? = some vs[t] := Array.getElem?_eq_getElem hlt
            have e2 : (vs ++ Array.replicate (fn.ntmps - vs.size) undef).getD t undef = vs[t] := by
              rw [Array.getD_eq_getD_getElem?, Array.getElem?_append_left hlt, hv]; rfl
            simp only [Option.map_some, Option.getD_some]
            rw [e2]
            cases t with
            | zero =>
              simp only [List.getElem?_cons_zero, Option.some.injEq] at hp
              subst hp
              rw [h0] at hv
              exact (Option.some.inj hv).symm
            | succ t =>
              have := hargs t p _ (by simpa using hp) hv
              exact this.to (fun sh b hb => ⟨hb, rfl⟩) fun b j hb => by have := hone.own _ _ _ _ hb; omega
        cell := fun t => by
          by_cases ht : t = 0
          · subst ht; exact hobj
          · have ek : stB b T e s args (ck t) = Slot.hole := by
              unfold stB; rw [upd_ne _ _ (by unfold ck; omega)]
              unfold st0 ck; rw [if_neg (by omega)]
            rw [ek]; exact trivial
        fresh := hone.fresh
        mine := fun b k i j e => by have := hone.own _ _ _ _ e; subst this; exact .inr ⟨i, j, e⟩
        uniq := hone.uniq
        elder := fun _ _ _ => rfl
        soft := fun b hb e => by
          rcases hb with hb | ⟨i, j, hb⟩
          · rw [hone.fresh b hb] at e; cases e
          · rw [hb] at e; cases e }
  · rintro en g' w' a' τ ⟨he, hobj'⟩ hr
    have hrun : (results fn a'.tmps).run P w' = .ok (.tuple #[]) w' := run_results (P := P) fn a' [] (by rw [hres]; rfl)
    have ho : ObjRel g' w' 1 b T e s' := by have := hr.cell 0; rw [show ck 0 = 1 from rfl, hobj'] at this; exact this
    have post : a'.defers = [] ∧ ∃ v, (results fn a'.tmps).run P w' = .ok v w' ∧ ∃ v' g'', Ending.returned v = .returned v' ∧ w'.os = w.os ∧ w'.tape = w.tape ∧ w'.output = w.output ∧ w.heap.size ≤ w'.heap.size ∧
        (∀ b', b' < w.heap.size → (∀ i j, g b' ≠ .own 1 i j) → w'.heap[b']? = w.heap[b']? ∧ g'' b' = g b') ∧ OneObj g'' w' ∧ ObjRel g'' w' 1 b T e s' ∧ (∀ b', g'' b' = .imm → g b' ≠ .imm → Plain w' b') := by
      refine ⟨hr.defers, _, hrun, _, objTags 1 g', rfl, hr.os, hr.tape, hr.output, hr.size, ?_, ⟨fun b k i j h => (objTags_own h).1, fun b b' k i j h h' => hr.uniq _ _ _ _ _ (objTags_own h).2 (objTags_own h').2, fun b hb => by unfold objTags; rw [hr.fresh b hb]⟩, ho.to fun b i j hb => ⟨objTags_of hb, rfl⟩, fun b' e hne => ?_⟩
      rotate_left
      · have e1 : g' b' = .imm := by
          unfold objTags at e
          cases eg : g' b' with
          | imm => rfl
          | none => rw [eg] at e; cases e
          | lent => rw [eg] at e; cases e
          | own x y z => rw [eg] at e; simp only at e; split at e <;> cases e
        by_cases hb' : b' < w.heap.size
        · by_cases hm : ∃ i j, g b' = .own 1 i j
          · exact hr.soft b' (.inr hm) e1
          · have := hr.elder b' hb' hm
            rw [e1] at this
            exact absurd this.symm hne
        · exact hr.soft b' (.inl (by simp only; omega)) e1
      intro b' hb' hno
      have hm : ¬ ∃ i j, g b' = .own 1 i j := fun ⟨i, j, h⟩ => hno i j h
      refine ⟨hr.old b' hb' hm, ?_⟩
      have := hr.elder b' hb' hm
      simp only at this
      unfold objTags
      rw [this]
      cases eg : g b' with
      | own x y z => have := hone.own _ _ _ _ eg; subst this; exact absurd eg (hno _ _)
      | _ => rfl
    rcases he with rfl | rfl
    · exact post
    · exact post

/-- A builder's text, read. -/
def CallS (P : Program) (f : FuncId) (T e : Nat) : Prop :=
  ∀ (B b : Nat) (s : ByteArray) (p v : Value) (w : World), B ≤ b → B ≤ w.heap.size → (p = .pointer none ∨ p = .pointer (some ⟨b, 0, none⟩)) → w.heap[b]? = some (.cells #[p, v] T (0, 0)) →
    w.ownsRow B e 1 v s.size (s.data.toList.map fun c => .int .u8 c.toNat) → v.ownBlock ≠ some b → Calls P f #[.pointer (some ⟨b, 0, none⟩)] w fun en w' => en = .returned (.string s) ∧ Below B w w'

/-- Behind it nothing is known but the text. -/
theorem step_callS {P : Program} {E : Env} {o : Oper} {σ : St} (d t : Nat) (f : FuncId) (x : Operand) (ats : Array TypeId) (b T e : Nat) (s : ByteArray) (hmay : ∀ b, ¬ E.may b)
    (ho : o.op = .call { callee := .value (.func f), args := #[x], argTypes := ats }) (hd : o.dst = some d) (hn : d < E.n) (hf : Text P f) (hx : opd σ x = .lf (.ptr b 0)) (hc : σ (ck t) = .obj b T e s) (hcall : CallS P f T e) :
    Step P E o σ (· = upd (fun _ => Slot.hole) (tk d) (.im (.str s))) := by
  intro g w a next Q hr hnext
  have hrun : (execOp a.eval o).run P w = .ok (.enter f #[a.eval x]) w := by
    have e : execOp a.eval o = callFunc f #[a.eval x] := by
      simp [execOp, ho, resolve, Deferred.ofValue, Act.eval, invoke]
    rw [e, run_callFunc hf]
  unfold Oper.wp
  rw [hrun, Oper.upon_enter]
  have hobj : ObjRel g w (ck t) b T e s := by have := hr.cell t; rw [hc] at this; exact this
  obtain ⟨p, v, hp, hg, hh, hrow, hbb⟩ := hobj
  have hge : ∀ b i j, g b = .own (ck t) i j → E.w0.heap.size ≤ b := fun b i j h => by
    rcases hr.mine _ _ _ _ h with h | h
    · exact h
    · exact absurd h (hmay _)
  rw [opd_ptr hr hx]
  refine (hcall E.w0.heap.size b s p v w (hge _ _ _ hg) hr.size hp hh ⟨hrow.1, ?_⟩ (fun h => ?_)).mono ?_
  · rcases hrow.2 with h | ⟨b2, c, cur, hv, h0, hrest⟩
    · exact .inl h
    · exact .inr ⟨b2, c, cur, hv, hge _ _ _ (hbb b2 (by rw [hv]; rfl)), hrest⟩
  · have := hbb b h
    rw [hg] at this
    cases this
  · rintro en w1 ⟨rfl, hb⟩
    rw [hd]
    refine hnext (fun b0 => if b0 < E.w0.heap.size then g b0 else .none) w1 _ _ rfl ?_
    exact
      { defers := act_put_defers.trans hr.defers
        os := hb.os.trans hr.os
        tape := hb.tape.trans hr.tape
        output := hb.output.trans hr.output
        size := Nat.le_trans hr.size hb.size
        old := fun b0 hb0 hm0 => (hb.block b0 hb0).trans (hr.old b0 hb0 hm0)
        many := act_put_size.trans hr.many
        slot := fun t' => by
          by_cases e0 : tk t' = tk d
          · have := tk_inj e0
            subst this
            rw [upd_same, act_put_eq (by rw [hr.many]; exact hn)]
            exact SRep.str _
          · rw [upd_ne _ _ e0]; exact trivial
        cell := fun t' => by rw [upd_ne _ _ (fun e0 => tk_ck _ _ e0.symm)]; exact trivial
        fresh := fun b0 hb0 => by
          split
          · exact hr.fresh b0 (Nat.le_trans hb.size hb0)
          · rfl
        mine := fun b0 k i j h => by
          split at h
          · exact hr.mine _ _ _ _ h
          · cases h
        uniq := fun b0 b0' k i j h h' => by
          split at h
          · split at h'
            · exact hr.uniq _ _ _ _ _ h h'
            · cases h'
          · cases h
        elder := fun b0 hb0 hm0 => by rw [if_pos hb0]; exact hr.elder b0 hb0 hm0
        soft := fun b0 hb0 e => by
          rcases hb0 with hb0 | hb0
          · rw [if_neg (by omega)] at e; cases e
          · exact absurd hb0 (hmay _) }
end Go.Proofs.YtahciphhopiipaaGreatDoor.V
