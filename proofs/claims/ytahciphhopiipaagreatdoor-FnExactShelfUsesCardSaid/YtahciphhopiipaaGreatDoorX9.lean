/- Builders of texts: made, read. -/
import Derived.Test.YtahciphhopiipaaGreatDoorX8
set_option linter.unusedVariables false
set_option linter.unusedSimpArgs false
namespace Go.Proofs.YtahciphhopiipaaGreatDoor.V
open Go Go.RowKit

/-- 'b := strings.Builder{}'. -/
theorem vw_newObj {P : Program} {E : Env} {σ : St} {R : Exit → St → Prop} {id : Nat} {ops : Array Oper} {o0 o1 o2 : Oper} {T e d0 d1 : Nat} {pl : List (Nat × Nat)} (hops : ops = #[o0, o1, o2])
    (g0 : o0.guard = none) (g1 : o1.guard = none) (g2 : o2.guard = none) (h0 : o0.op = .build T #[]) (h1 : o1.op = .alloc T) (h2 : o2.op = .store T (.tmp d1) (.tmp d0)) (e0 : o0.dst = some d0) (e1 : o1.dst = some d1) (e2 : o2.dst = none)
    (hne : d0 ≠ d1) (hn0 : d0 < E.n) (hn1 : d1 < E.n) (hs : (P.info? T).map (·.size) = some 2)
    (hu : ∃ fs, P.underlying T = some (.struct fs) ∧ ∀ w, ((fs.mapM fun f => do pure (f.offset, ← sizeOf f.type)) : Sem (Array (Nat × Nat))).run P w = .ok pl.toArray w)
    (hz : ∀ w, (zeroValue T).run P w = .ok (.agg #[.pointer none, .slice none 0 0]) w)
    (h : ∀ b, R .normal (upd (upd (upd σ (tk d0) Slot.hole) (ck d1) (.obj b T e ⟨#[]⟩)) (tk d1) (.lf (.ptr b 0)))) : VW P E (.region id ops false) σ R := by
  subst hops
  intro g w a Q hr hq
  refine wp_region ?_
  obtain ⟨fs, hu, hpl⟩ := hu
  show wpOps P #[o0, o1, o2] (Q := _) [0, 1, 2] a w
  have q0 : (#[o0, o1, o2] : Array Oper)[0]? = some o0 := rfl
  have q1 : (#[o0, o1, o2] : Array Oper)[1]? = some o1 := rfl
  have q2 : (#[o0, o1, o2] : Array Oper)[2]? = some o2 := rfl
  have r0 : (execOp a.eval o0).run P w = .ok (.value (.agg #[.pointer none, .slice none 0 0])) w := by
    simp only [execOp, h0, Instr.build, Sem.run_bind, hz, Result.andThen_ok, run_underlying hu, hpl]
    rw [show (Array.map (fun x : Nat × Operand => (x.fst, a.eval x.snd)) #[]).toList = [] from by simp]
    rfl
  simp only [wpOps, q0]
  rw [if_pos (by simp [Region.wanted, g0])]
  left
  have k1 := hr.set d0 (.agg #[.pointer none, .slice none 0 0]) Slot.hole hn0 fun g' _ => trivial
  obtain ⟨g', k2⟩ := k1.newCell d1 T #[.pointer none, .slice none 0 0] [.hole, .nil] hn1 ⟨rfl, fun j l v hl hv => by
    match j with
    | 0 => cases hl; trivial
    | 1 => cases hl; cases hv; rfl
    | j + 2 => cases hl⟩ rfl
  generalize hw2 : ({ w with heap := w.heap.push (.cells #[.pointer none, .slice none 0 0] T (0, 0)) } : World) = w2 at k2
  generalize ha1 : a.put (some d0) (.agg #[.pointer none, .slice none 0 0]) = a1 at k1 k2
  have hcell := k2.cell d1
  rw [upd_ne _ _ (fun e0 => tk_ck _ _ e0.symm), upd_same] at hcell
  obtain ⟨cur, ee, hg, hh, -⟩ := hcell
  have hh2 : w2.heap[w.heap.size]? = some (.cells #[.pointer none, .slice none 0 0] T (0, 0)) := by rw [← hw2]; simp
  have r1 : (execOp a1.eval o1).run P w = .ok (.value (.pointer (some ⟨w.heap.size, 0, none⟩))) w2 := by
    rw [← hw2]
    simp only [execOp, h1, Instr.alloc, Sem.run_bind, hz, Result.andThen_ok, newVar, newRow, run_newObj]
    rfl
  unfold Oper.wp
  rw [r0]
  show wpOps P #[o0, o1, o2] _ [1, 2] (a.put o0.dst (.agg #[.pointer none, .slice none 0 0])) w
  rw [e0, ha1]
  simp only [wpOps, q1]
  rw [if_pos (by simp [Region.wanted, g1])]
  left
  unfold Oper.wp
  rw [r1]
  show wpOps P #[o0, o1, o2] _ [2] (a1.put o1.dst (.pointer (some ⟨w.heap.size, 0, none⟩))) w2
  rw [e1]
  generalize ha2 : a1.put (some d1) (.pointer (some ⟨w.heap.size, 0, none⟩)) = a2 at k2
  simp only [wpOps, q2]
  rw [if_pos (by simp [Region.wanted, g2])]
  left
  have ev1 : a2.eval (.tmp d1) = .pointer (some ⟨w.heap.size, 0, none⟩) := opd_ptr k2 (x := .tmp d1) (by show upd _ _ _ _ = _; rw [upd_same])
  have ev0 : a2.eval (.tmp d0) = .agg #[.pointer none, .slice none 0 0] := by
    show a2.tmps.getD d0 undef = _
    rw [← ha2, act_put d0 hne, ← ha1, act_put_eq (by rw [hr.many]; exact hn0)]
  have hrun := run_storeVar (P := P) (w := w2) hs w.heap.size 0 T #[.pointer none, .slice none 0 0] (.agg #[.pointer none, .slice none 0 0]) hh2 rfl (Nat.le_refl _) (by
    intro u hu0
    have : u ∈ ([.pointer none, .slice none 0 0] : List Value) := hu0
    rcases List.mem_cons.1 this with rfl | this
    · rfl
    · rcases List.mem_cons.1 this with rfl | this
      · rfl
      · cases this)
  have r2 : (execOp a2.eval o2).run P w2 = .ok .skip (w2.setRow w.heap.size #[.pointer none, .slice none 0 0]) := by
    simp only [execOp, h2, ev1, ev0, Instr.storeAt, Instr.sureAddr, Sem.run_bind, Sem.run_pure, Result.andThen_ok, hrun]
    rfl
  unfold Oper.wp
  rw [r2]
  show Q .normal (a2.put o2.dst undef) _
  rw [e2]
  show Q .normal a2 _
  have k3 : Rel E g' (w2.setRow w.heap.size #[.pointer none, .slice none 0 0]) a2 _ := k2.world rfl rfl rfl (by simp [World.setRow]) fun b hb => .inl (by
    by_cases eb : b = w.heap.size
    · subst eb; rw [setRow_heap w2 _ _ _ _ _ hh2, hh2]
    · exact setRow_other _ _ _ _ eb)
  have k4 := k3.putCell d1 (.obj w.heap.size T e ⟨#[]⟩) ⟨.pointer none, .slice none 0 0, .inl rfl, hg, setRow_heap w2 _ _ _ _ _ hh2, ⟨rfl, .inl ⟨rfl, rfl⟩⟩, fun b2 hb2 => by cases hb2⟩
  rw [upd_comm _ _ _ (tk_ck d1 d1), upd_upd] at k4
  exact hq _ _ _ _ _ (h _) k4

theorem vw_string {P : Program} {E : Env} {σ : St} {R : Exit → St → Prop} {id : Nat} {ops : Array Oper} {o0 o1 : Oper} {f : FuncId} {ats : Array TypeId} {T e d0 d1 t b : Nat} {s : ByteArray} (hops : ops = #[o0, o1]) (hmay : ∀ b, ¬ E.may b)
    (g0 : o0.guard = none) (g1 : o1.guard = none) (h0 : o0.op = .call { callee := .value (.func f), args := #[.tmp t], argTypes := ats }) (h1 : o1.op = .assign (.tmp d0)) (e0 : o0.dst = some d0) (e1 : o1.dst = some d1)
    (hn0 : d0 < E.n) (hn1 : d1 < E.n) (hf : Text P f) (hx : σ (tk t) = .lf (.ptr b 0)) (hc : σ (ck t) = .obj b T e s) (hcall : CallS P f T e)
    (h : R .normal (upd (upd (fun _ => Slot.hole) (tk d0) (.im (.str s))) (tk d1) (.im (.str s)))) : VW P E (.region id ops false) σ R := by
  subst hops
  refine vw_region ?_
  show OpsW P E #[o0, o1] [0, 1] σ _
  refine ops_one (o := o0) rfl g0 (step_callS d0 t f (.tmp t) ats b T e s hmay h0 e0 hn0 hf hx hc hcall) ?_
  refine ops_one (o := o1) rfl g1 (step_copy d1 (.tmp d0) (.im (.str s)) (.inr h1) e1 hn1 (by show upd (fun _ => Slot.hole) (tk d0) (.im (.str s)) (tk d0) = _; rw [upd_same]) rfl) ?_
  exact ops_nil h

theorem look_cleared {d0 d1 : Nat} : ∀ {L : SL}, (L.all fun p => !Nat.beq p.1 (tk d0) && (!Nat.beq p.1 (tk d1) && (!Nat.beq p.1 (ck d1) && !p.2.has d1))) = true →
    look L (tk d0) = .hole ∧ look L (tk d1) = .hole ∧ look L (ck d1) = .hole ∧ ∀ (ν : Nm) v k, renS (setN ν (some d1) v) (look L k) = renS ν (look L k)
  | [], _ => ⟨rfl, rfl, rfl, fun _ _ _ => rfl⟩
  | (k0, s) :: r, h => by
    rw [List.all_cons, Bool.and_eq_true, Bool.and_eq_true, Bool.and_eq_true, Bool.and_eq_true] at h
    obtain ⟨⟨h1, h2, h3, h4⟩, hr⟩ := h
    obtain ⟨i1, i2, i3, i4⟩ := look_cleared hr
    have ne : ∀ {x y : Nat}, (!Nat.beq x y) = true → ¬ y = x := fun h e => by subst e; simp at h
    refine ⟨?_, ?_, ?_, fun ν v k => ?_⟩
    · rw [look_cons, if_neg (ne h1)]; exact i1
    · rw [look_cons, if_neg (ne h2)]; exact i2
    · rw [look_cons, if_neg (ne h3)]; exact i3
    · rw [look_cons]
      split
      · exact renS_set (by simpa using h4)
      · exact i4 ν v k

theorem xw_newObj {P : Program} {E : Env} {T' : Tab} {n : Nat} {L : SL} {R : Exit → SL → Prop} {id : Nat} {ops : Array Oper} {y : Code} (o0 o1 o2 : Oper) (T e d0 d1 : Nat) (pl : List (Nat × Nat)) (c : Cx P T' n E) (hops : ops = #[o0, o1, o2])
    (g0 : o0.guard = none) (g1 : o1.guard = none) (g2 : o2.guard = none) (h0 : o0.op = .build T #[]) (h1 : o1.op = .alloc T) (h2 : o2.op = .store T (.tmp d1) (.tmp d0)) (e0 : o0.dst = some d0) (e1 : o1.dst = some d1) (e2 : o2.dst = none)
    (hn : (!Nat.beq d0 d1 && (Nat.blt d0 n && Nat.blt d1 n)) = true) (hs : (P.info? T).map (·.size) = some 2)
    (hu : ∃ fs, P.underlying T = some (.struct fs) ∧ ∀ w, ((fs.mapM fun f => do pure (f.offset, ← sizeOf f.type)) : Sem (Array (Nat × Nat))).run P w = .ok pl.toArray w)
    (hz : ∀ w, (zeroValue T).run P w = .ok (.agg #[.pointer none, .slice none 0 0]) w)
    (hL : (L.all fun p => !Nat.beq p.1 (tk d0) && (!Nat.beq p.1 (tk d1) && (!Nat.beq p.1 (ck d1) && !p.2.has d1))) = true)
    (h : XW P E y ((tk d1, .lf (.ptr d1 0)) :: (ck d1, .obj d1 T e ⟨#[]⟩) :: L) R) : XW P E (.seq (.region id ops false) y) L R := by
  refine xw_seq ⟨fun ν => ?_⟩
  rw [Bool.and_eq_true, Bool.and_eq_true] at hn
  obtain ⟨hn0, hn1, hn2⟩ := hn
  have b0 : d0 < E.n := by rw [c.n]; exact Nat.le_of_ble_eq_true hn1
  have b1 : d1 < E.n := by rw [c.n]; exact Nat.le_of_ble_eq_true hn2
  have hne : d0 ≠ d1 := fun e0 => by subst e0; simp at hn0
  obtain ⟨c1, c2, c3, c4⟩ := look_cleared hL
  refine vw_newObj (e := e) hops g0 g1 g2 h0 h1 h2 e0 e1 e2 hne b0 b1 hs hu hz fun b => ⟨setN ν (some d1) (some (b, 0)), _, h, fun k => .inl ?_⟩
  have hset : setN ν (some d1) (some (b, 0)) d1 = some (b, 0) := setN_self
  simp only [den, look_cons]
  by_cases k1 : k = tk d1
  · subst k1; rw [if_pos rfl, upd_same]; simp only [renS, renP, renL, hset]
  · rw [if_neg k1, upd_ne _ _ k1]
    by_cases k2 : k = ck d1
    · subst k2; rw [if_pos rfl, upd_same]; simp only [renS, hset]
    · rw [if_neg k2, upd_ne _ _ k2, c4]
      by_cases k3 : k = tk d0
      · subst k3; rw [upd_same, c1]; rfl
      · rw [upd_ne _ _ k3]; rfl

theorem xw_string {P : Program} {E : Env} {T' : Tab} {n : Nat} {L : SL} {R : Exit → SL → Prop} {id : Nat} {ops : Array Oper} {y : Code} (o0 o1 : Oper) (f : FuncId) (ats : Array TypeId) (T e d0 d1 t : Nat) (s : ByteArray) (c : Cx P T' n E) (hops : ops = #[o0, o1])
    (g0 : o0.guard = none) (g1 : o1.guard = none) (h0 : o0.op = .call { callee := .value (.func f), args := #[.tmp t], argTypes := ats }) (h1 : o1.op = .assign (.tmp d0)) (e0 : o0.dst = some d0) (e1 : o1.dst = some d1)
    (hn : (Nat.blt d0 n && Nat.blt d1 n) = true) (hf : Text P f) (hx : look L (tk t) = .lf (.ptr t 0)) (hc : look L (ck t) = .obj t T e s) (hcall : CallS P f T e)
    (h : XW P E y [(tk d1, .im (.str s)), (tk d0, .im (.str s))] R) : XW P E (.seq (.region id ops false) y) L R := by
  refine xw_seq ⟨fun ν => ?_⟩
  rw [Bool.and_eq_true] at hn
  obtain ⟨hn1, hn2⟩ := hn
  have b0 : d0 < E.n := by rw [c.n]; exact Nat.le_of_ble_eq_true hn1
  have b1 : d1 < E.n := by rw [c.n]; exact Nat.le_of_ble_eq_true hn2
  cases hν : ν t with
  | none =>
    intro g w a Q hr hq
    exact (bad_tmp (t := t) hr (by simp only [den, hx, renS, renP, renL, hν])).elim
  | some q =>
    refine vw_string (s := s) (T := T) (e := e) hops c.alone g0 g1 h0 h1 e0 e1 b0 b1 hf (b := q.1) (by simp only [den, hx, renS, renP, renL, hν]) (by simp only [den, hc, renS, hν]) hcall ⟨ν, _, h, fun k => .inl ?_⟩
    simp only [den, look_cons]
    by_cases k1 : k = tk d1
    · subst k1; rw [if_pos rfl, upd_same]; rfl
    · rw [if_neg k1, upd_ne _ _ k1]
      by_cases k2 : k = tk d0
      · subst k2; rw [if_pos rfl, upd_same]; rfl
      · rw [if_neg k2, upd_ne _ _ k2]; rfl
end Go.Proofs.YtahciphhopiipaaGreatDoor.V
