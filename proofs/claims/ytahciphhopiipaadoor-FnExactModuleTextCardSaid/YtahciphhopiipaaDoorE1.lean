/- (*strings.Builder).WriteString and impl.line by value. -/
import Derived.Test.YtahciphhopiipaaDoorE0
set_option linter.unusedVariables false
set_option linter.unusedSimpArgs false
namespace Go.Proofs.YtahciphhopiipaaDoor
open Go Go.RowKit V

/-- What an activation's places hold, some of them. -/
def Has (n : Nat) (a : Act) (l : List (Nat × Value)) : Prop := a.defers = [] ∧ a.tmps.size = n ∧ ∀ q ∈ l, a.tmps.getD q.1 undef = q.2
theorem Has.get {n : Nat} {a : Act} {l : List (Nat × Value)} (h : Has n a l) {t : Nat} {v : Value} (hm : (t, v) ∈ l) : a.eval (.tmp t) = v := h.2.2 _ hm
theorem Has.put {n : Nat} {a : Act} {l : List (Nat × Value)} (h : Has n a l) (d : Nat) (v : Value) (hd : d < n) (hne : ∀ q ∈ l, q.1 ≠ d) : Has n (a.put (some d) v) ((d, v) :: l) := by
  refine ⟨act_put_defers.trans h.1, act_put_size.trans h.2.1, fun q hq => ?_⟩
  rcases List.mem_cons.1 hq with rfl | hq
  · exact act_put_eq (by rw [h.2.1]; exact hd)
  · rw [act_put _ (hne q hq)]; exact h.2.2 q hq
theorem Has.other {n : Nat} {a : Act} {l : List (Nat × Value)} (h : Has n a l) (d : Nat) (v : Value) (hne : ∀ q ∈ l, q.1 ≠ d) : Has n (a.put (some d) v) l :=
  ⟨act_put_defers.trans h.1, act_put_size.trans h.2.1, fun q hq => by rw [act_put _ (hne q hq)]; exact h.2.2 q hq⟩

theorem Has.start {n : Nat} (args : Array Value) (h : args.size ≤ n) : ∃ a : Act, a = { tmps := args ++ Array.replicate (n - args.size) undef, defers := [] } ∧ Has n a (args.toList.zipIdx.map fun q => (q.2, q.1)) := by
  refine ⟨_, rfl, rfl, by simp; omega, fun q hq => ?_⟩
  obtain ⟨⟨v, i⟩, h1, rfl⟩ := List.mem_map.1 hq
  have h2 := List.mem_zipIdx_iff_getElem?.1 h1
  simp only [Array.getElem?_toList] at h2
  have hlt : i < args.size := (Array.getElem?_eq_some_iff.1 h2).1
  simp only
  rw [Array.getD_eq_getD_getElem?, Array.getElem?_append_left hlt, h2]; rfl

theorem raw {P : Program} {ops : Array Oper} {Q : Exit → Act → World → Prop} {i : Nat} {l : List Nat} {a : Act} {w w' : World} {o : Oper} {v : Value} {op : Op} {ty : TypeId} {dd : Option Nat} (ho : ops[i]? = some o) (hg : o.guard = none)
    (hop : o.op = op) (hty : o.type = ty) (hd : o.dst = dd) (hr : ∀ o : Oper, o.op = op → o.type = ty → (execOp a.eval o).run P w = .ok (.value v) w') (hn : wpOps P ops Q l (a.put dd v) w') : wpOps P ops Q (i :: l) a w := by
  subst hd
  simp only [wpOps, ho]
  rw [if_pos (by simp [Region.wanted, hg])]
  left
  unfold Oper.wp
  rw [hr o hop hty]
  exact hn
theorem rawSkip {P : Program} {ops : Array Oper} {Q : Exit → Act → World → Prop} {i : Nat} {l : List Nat} {a : Act} {w w' : World} {o : Oper} {op : Op} (ho : ops[i]? = some o) (hg : o.guard = none)
    (hop : o.op = op) (hr : ∀ o : Oper, o.op = op → (execOp a.eval o).run P w = .ok .skip w') (hd : o.dst = none) (hn : wpOps P ops Q l a w') : wpOps P ops Q (i :: l) a w := by
  simp only [wpOps, ho]
  rw [if_pos (by simp [Region.wanted, hg])]
  left
  unfold Oper.wp
  rw [hr o hop]
  show wpOps P ops Q l (a.put o.dst undef) w'
  rw [hd]
  exact hn
theorem rawCall {P : Program} {ops : Array Oper} {Q : Exit → Act → World → Prop} {i : Nat} {l : List Nat} {a : Act} {w : World} {o : Oper} {f : FuncId} {xs : Array Operand} {ats : Array TypeId} {R : Ending → World → Prop} (ho : ops[i]? = some o) (hg : o.guard = none)
    (hop : o.op = .call { callee := .value (.func f), args := xs, argTypes := ats }) (hf : Text P f) (hc : Calls P f (xs.map a.eval) w R)
    (hn : ∀ e w', R e w' → ∃ v, e = .returned v ∧ wpOps P ops Q l (a.put o.dst v) w') : wpOps P ops Q (i :: l) a w := by
  simp only [wpOps, ho]
  rw [if_pos (by simp [Region.wanted, hg])]
  left
  have hrun : (execOp a.eval o).run P w = .ok (.enter f (xs.map a.eval)) w := by
    have e : execOp a.eval o = callFunc f (xs.map a.eval) := by
      simp [execOp, hop, resolve, Deferred.ofValue, Act.eval, invoke]
    rw [e, run_callFunc hf]
  unfold Oper.wp
  rw [hrun, Oper.upon_enter]
  refine hc.mono fun e w' h => ?_
  obtain ⟨v, rfl, h2⟩ := hn e w' h
  exact h2

theorem rawEnd {P : Program} {ops : Array Oper} {Q : Exit → Act → World → Prop} {a : Act} {w : World} (h : Q .normal a w) : wpOps P ops Q [] a w := by simp only [wpOps]; exact h

def selfP (b : Nat) : Value := .pointer (some ⟨b, 0, none⟩)

theorem text80 : Text Tryd.prog 80 := Text.of Tryd.func80 rfl (by kernel_rfl)

theorem check_b (b : Nat) (p v : Value) (w : World) (hp : p = .pointer none ∨ p = selfP b) (hh : w.heap[b]? = some (.cells #[p, v] 71 (0, 0))) :
    Calls Tryd.prog 80 #[selfP b] w fun e w1 => e = .returned (.tuple #[]) ∧ w1.os = w.os ∧ w1.tape = w.tape ∧ w1.output = w.output ∧ w1.heap.size = w.heap.size ∧
      (∀ k, k ≠ b → w1.heap[k]? = w.heap[k]?) ∧ w1.heap[b]? = some (.cells #[selfP b, v] 71 (0, 0)) := by
  rcases hp with rfl | rfl
  · refine (Any.Builder_copyCheck_fresh Tryd.lays240 Tryd.Builder_Extra_156.toX72 b w ?_ ?_ ?_).mono fun e w1 ⟨he, hw⟩ => ⟨he, ?_⟩
    · unfold World.cell?; simp [hh]
    · unfold World.shape?; rw [hh]; rfl
    · unfold World.frozen?; rw [hh]; rfl
    · subst hw
      refine ⟨rfl, rfl, rfl, by simp [World.setCell], fun k hk => ?_, ?_⟩
      · simp only [World.setCell, Array.getElem?_modify]
        rw [if_neg (fun e => hk e.symm)]
      · simp only [World.setCell, Array.getElem?_modify, hh]
        rfl
  · refine (Any.Builder_copyCheck_used Tryd.lays240 Tryd.Builder_Extra_156.toX72 b w ?_).mono fun e w1 ⟨he, hw⟩ => ⟨he, ?_⟩
    · unfold World.cell?; simp [hh, selfP]
    · subst hw
      exact ⟨rfl, rfl, rfl, rfl, fun _ _ => rfl, hh⟩

theorem info5 : (Tryd.prog.info? 5).map (fun i => (i.zero, i.size, i.bytes)) = some (some (Value.int .u8 0), 1, 1) := by kernel_rfl
/-- Where the row of bytes is behind an 'append': where it was, or it is new. -/
theorem app_where {w w' : World} {v v' : Value} {n ty : Nat} {xs : List Value} {x : ByteArray} (hrow : w.ownsRow 0 5 1 v n xs) (hs : n + x.size ≤ 140737488355328)
    (hrun : (Builtin.append_ #[69, 9] ty #[v, .string x]).run Tryd.prog w = .ok v' w') : ∀ b2, v'.ownBlock = some b2 → v.ownBlock = some b2 ∨ w.heap.size ≤ b2 := by
  obtain ⟨i5, hi5, hz5, hs5, hb5⟩ := info_of info5
  intro b2 hb2
  rcases hrow.2 with ⟨rfl, rfl⟩ | ⟨b, c, cur, rfl, h0, hc, h1, h2, h3, h4⟩
  · obtain ⟨v2, w2, hrun2, hrow2, -, -⟩ := Lib.run_append_own_string (P := Tryd.prog) w w.heap.size 69 9 ty 5 i5 Tryd.underlying69 Tryd.underlying9 hi5 hz5 hs5 hb5 (.slice none 0 0) 0 xs ⟨hrow.1, .inl ⟨rfl, rfl⟩⟩ x (by unfold maxLen; omega) hs (Nat.le_refl _)
    rw [hrun] at hrun2
    cases hrun2
    rcases hrow2.2 with ⟨rfl, _⟩ | ⟨b, c, cur, rfl, h0, _⟩
    · cases hb2
    · right; cases hb2; exact h0
  · by_cases hfit : n + x.size ≤ c
    · have := Lib.run_append_room_string (P := Tryd.prog) w 69 9 ty 5 i5 Tryd.underlying69 Tryd.underlying9 hi5 hs5 b n c cur hc x hfit (by omega)
      rw [hrun] at this
      cases this
      left; exact hb2
    · have := Lib.run_append_grow_string (P := Tryd.prog) w 69 9 ty 5 i5 _ Tryd.underlying69 Tryd.underlying9 hi5 hz5 ⟨b, 0, none⟩ n c xs (by rw [hrow.1, hs5]) (fun j u hj => by
        rw [Addr.add_flat]
        unfold World.cell?
        simp only [hc, Nat.zero_add]
        rw [← h4, List.getElem?_take] at hj
        split at hj
        · simpa using hj
        · cases hj) x (by omega) (by omega) (by rw [hb5]; have := nextslicecap_le (need := n + x.size) (old := c) (by omega); omega)
      rw [hrun] at this
      cases this
      right; cases hb2; exact Nat.le_refl _

theorem size69 : (Tryd.prog.info? 69).map (·.size) = some 1 := by kernel_rfl
theorem size71 : (Tryd.prog.info? 71).map (·.size) = some 2 := by kernel_rfl
theorem fs71 : ∃ fs f, Tryd.prog.underlying 71 = some (.struct fs) ∧ fs[1]? = some f ∧ f.offset = 1 ∧ f.type = 69 := ⟨_, _, Tryd.underlying71, rfl, rfl, rfl⟩

theorem write_b (x s : ByteArray) (hs : s.size + x.size ≤ 140737488355328) : CallB Tryd.prog 59 71 5 [.lf (.im true (.str x))] s (s ++ x) := by
  intro g w b vs hlaid hone hsz h0 hargs hobj
  obtain ⟨y, rfl⟩ : ∃ y, vs = #[selfP b, y] := by
    have h2 : vs.size = 2 := hsz
    match vs, h2 with
    | ⟨[u, y]⟩, _ =>
      have : u = selfP b := Option.some.inj h0
      subst this
      exact ⟨y, rfl⟩
  have hv : SRep (Imm g true) w y (.str x) := hargs 0 _ y rfl rfl
  cases hv
  obtain ⟨p, v, hp, hg, hh, hrow, hbb⟩ := hobj
  obtain ⟨fs, f, u71, hf, hoff, hty⟩ := fs71
  refine calls_of_wp Tryd.func59 rfl ?_
  have n19 : Tryd.f59.ntmps = 19 := by kernel_rfl
  obtain ⟨a, A⟩ := Has.start (n := Tryd.f59.ntmps) #[selfP b, .string x] (by rw [n19]; exact Nat.le_of_ble_eq_true rfl)
  rw [← A.1]
  have A : Has 19 a [(0, selfP b), (1, .string x)] := by have := A.2; rw [n19] at this; exact this
  -- region 0
  refine wp_seq (wp_region ?_)
  show wpOps Tryd.prog _ _ [0, 1] a w
  refine raw (op := .assign (.const (.int .i64 0))) (v := .int .i64 0) (w' := w) rfl rfl rfl rfl rfl (fun o ho hty => by simp only [execOp, ho]; rfl) ?_
  refine raw (op := .assign (.const .nilIface)) (v := .nilIface) (w' := w) rfl rfl rfl rfl rfl (fun o ho hty => by simp only [execOp, ho]; rfl) ?_
  refine rawEnd ?_
  have A := (A.other 4 (.int .i64 0) (by simp)).other 5 .nilIface (by simp)
  show Code.wp Tryd.prog _ _ ((a.put (some 4) (.int .i64 0)).put (some 5) .nilIface) w
  generalize (a.put (some 4) (.int .i64 0)).put (some 5) .nilIface = a1 at A ⊢
  -- region 1: the look for a copy
  refine wp_seq (wp_region ?_)
  show wpOps Tryd.prog _ _ [0, 1] a1 w
  refine raw (op := .move (.tmp 0)) (v := selfP b) (w' := w) rfl rfl rfl rfl rfl (fun o ho hty => by simp only [execOp, ho, A.get (t := 0) (v := selfP b) (by simp)]; rfl) ?_
  have A := A.put 6 (selfP b) (by decide) (by simp)
  show wpOps Tryd.prog _ _ [1] (a1.put (some 6) (selfP b)) w
  generalize a1.put (some 6) (selfP b) = a2 at A ⊢
  refine rawCall (f := 80) rfl rfl rfl text80 (by
    rw [show (#[Operand.tmp 6] : Array Operand).map a2.eval = #[selfP b] from by simp [A.get (t := 6) (v := selfP b) (by simp)]]
    exact check_b b p v w hp hh) ?_
  rintro e w1 ⟨rfl, hos1, htp1, hou1, hsz1, hot1, hh1⟩
  refine ⟨_, rfl, rawEnd ?_⟩
  have A := A.other 7 (.tuple #[]) (by simp)
  show Code.wp Tryd.prog _ _ (a2.put (some 7) (.tuple #[])) w1
  generalize a2.put (some 7) (.tuple #[]) = a3 at A ⊢
  -- region 2
  refine wp_seq (wp_region ?_)
  show wpOps Tryd.prog _ _ [0, 1, 2, 3, 4, 5, 6, 7, 8, 9] a3 w1
  refine raw (op := .move (.tmp 0)) (v := selfP b) (w' := w1) rfl rfl rfl rfl rfl (fun o ho hty => by simp only [execOp, ho, A.get (t := 0) (v := selfP b) (by simp)]; rfl) ?_
  have A := A.put 8 (selfP b) (by decide) (by simp)
  show wpOps Tryd.prog _ _ [1, 2, 3, 4, 5, 6, 7, 8, 9] (a3.put (some 8) (selfP b)) w1
  generalize a3.put (some 8) (selfP b) = a4 at A ⊢
  refine raw (op := .move (.tmp 0)) (v := selfP b) (w' := w1) rfl rfl rfl rfl rfl (fun o ho hty => by simp only [execOp, ho, A.get (t := 0) (v := selfP b) (by simp)]; rfl) ?_
  have A := A.put 9 (selfP b) (by decide) (by simp)
  show wpOps Tryd.prog _ _ [2, 3, 4, 5, 6, 7, 8, 9] (a4.put (some 9) (selfP b)) w1
  generalize a4.put (some 9) (selfP b) = a5 at A ⊢
  refine raw (op := .nilCheck (.tmp 9)) (v := selfP b) (w' := w1) rfl rfl rfl rfl rfl (fun o ho hty => by simp only [execOp, ho, A.get (t := 9) (v := selfP b) (by simp)]; rfl) ?_
  have A := A.put 10 (selfP b) (by decide) (by simp)
  show wpOps Tryd.prog _ _ [3, 4, 5, 6, 7, 8, 9] (a5.put (some 10) (selfP b)) w1
  generalize a5.put (some 10) (selfP b) = a6 at A ⊢
  have hfield : ∀ w, (Instr.fieldAt 71 (selfP b) 1).run Tryd.prog w = .ok (.pointer (some ⟨b, 1, none⟩)) w := fun w => by
    simp [selfP, Instr.fieldAt, run_underlying u71, hf, Instr.sureAddr, fieldPlace, hty, V.run_sizeOf size69, hoff, Addr.add_flat]
  refine raw (op := .fieldAddr 71 (.tmp 10) 1) (v := .pointer (some ⟨b, 1, none⟩)) (w' := w1) rfl rfl rfl rfl rfl (fun o ho hty => by simp only [execOp, ho, A.get (t := 10) (v := selfP b) (by simp), Sem.run_bind, hfield]; rfl) ?_
  have A := A.put 11 (.pointer (some ⟨b, 1, none⟩)) (by decide) (by simp)
  show wpOps Tryd.prog _ _ [4, 5, 6, 7, 8, 9] (a6.put (some 11) (.pointer (some ⟨b, 1, none⟩))) w1
  generalize a6.put (some 11) (.pointer (some ⟨b, 1, none⟩)) = a7 at A ⊢
  have hload := run_loadVar (P := Tryd.prog) (w := w1) (Ty.one Tryd.underlying69 size69 (fun _ h => by cases h) (fun _ _ h => by cases h)) b 1 [v] rfl (fun _ => rfl) (fun j u hj => by
    cases j with
    | zero => simp at hj; subst hj; unfold World.cell?; simp [hh1]
    | succ j => simp at hj)
  refine raw (op := .load 69 (.tmp 11)) (v := v) (w' := w1) rfl rfl rfl rfl rfl (fun o ho hty => by simp only [execOp, ho, A.get (t := 11) (v := .pointer (some ⟨b, 1, none⟩)) (by simp), Instr.loadAt, Instr.sureAddr, Sem.run_bind, Sem.run_pure, Result.andThen_ok, hload]; rfl) ?_
  have A := A.put 12 v (by decide) (by simp)
  show wpOps Tryd.prog _ _ [5, 6, 7, 8, 9] (a7.put (some 12) v) w1
  generalize a7.put (some 12) v = a8 at A ⊢
  refine raw (op := .move (.tmp 1)) (v := .string x) (w' := w1) rfl rfl rfl rfl rfl (fun o ho hty => by simp only [execOp, ho, A.get (t := 1) (v := .string x) (by simp)]; rfl) ?_
  have A := A.put 13 (.string x) (by decide) (by simp)
  show wpOps Tryd.prog _ _ [6, 7, 8, 9] (a8.put (some 13) (.string x)) w1
  generalize a8.put (some 13) (.string x) = a9 at A ⊢
  -- 'append'
  have hbne : v.ownBlock ≠ some b := fun h => by have := hbb b h; rw [hg] at this; cases this
  have hrow1 : w1.ownsRow 0 5 1 v s.size (s.data.toList.map fun c => .int .u8 c.toNat) := by
    refine ⟨hrow.1, ?_⟩
    rcases hrow.2 with h | ⟨b2, c, cur, hv, h0, hc, hrest⟩
    · exact .inl h
    · refine .inr ⟨b2, c, cur, hv, h0, ?_, hrest⟩
      rw [hot1 b2 (fun e => hbne (by rw [hv, e]; rfl))]; exact hc
  obtain ⟨i5, hi5, hz5, hs5, hb5⟩ := info_of info5
  obtain ⟨v', w2, hrun, hrow2, hgrow, -⟩ := Lib.run_append_own_string (P := Tryd.prog) w1 0 69 9 69 5 i5 Tryd.underlying69 Tryd.underlying9 hi5 hz5 hs5 hb5 v s.size _ hrow1 x (by unfold maxLen; omega) hs (Nat.zero_le _)
  refine raw (op := .call { callee := .builtin .append, args := #[.tmp 12, .tmp 13], argTypes := #[69, 9] }) (ty := 69) (v := v') (w' := w2) rfl rfl rfl rfl rfl (fun o ho hty => by
    have e : execOp a9.eval o =
        (do pure (Next.value (← Builtin.append_ #[69, 9] 69 #[a9.eval (.tmp 12), a9.eval (.tmp 13)])) : Sem Next) := by
      simp [execOp, ho, hty, resolve, invoke, builtin]
    rw [e, A.get (t := 12) (v := v) (by simp), A.get (t := 13) (v := .string x) (by simp), Sem.run_bind, hrun]; rfl) ?_
  have A := A.put 14 v' (by decide) (by simp)
  show wpOps Tryd.prog _ _ [7, 8, 9] (a9.put (some 14) v') w2
  generalize a9.put (some 14) v' = a10 at A ⊢
  refine raw (op := .nilCheck (.tmp 8)) (v := selfP b) (w' := w2) rfl rfl rfl rfl rfl (fun o ho hty => by simp only [execOp, ho, A.get (t := 8) (v := selfP b) (by simp)]; rfl) ?_
  have A := A.put 15 (selfP b) (by decide) (by simp)
  show wpOps Tryd.prog _ _ [8, 9] (a10.put (some 15) (selfP b)) w2
  generalize a10.put (some 15) (selfP b) = a11 at A ⊢
  refine raw (op := .fieldAddr 71 (.tmp 15) 1) (v := .pointer (some ⟨b, 1, none⟩)) (w' := w2) rfl rfl rfl rfl rfl (fun o ho hty => by simp only [execOp, ho, A.get (t := 15) (v := selfP b) (by simp), Sem.run_bind, hfield]; rfl) ?_
  have A := A.put 16 (.pointer (some ⟨b, 1, none⟩)) (by decide) (by simp)
  show wpOps Tryd.prog _ _ [9] (a11.put (some 16) (.pointer (some ⟨b, 1, none⟩))) w2
  generalize a11.put (some 16) (.pointer (some ⟨b, 1, none⟩)) = a12 at A ⊢
  have hblt : b < w.heap.size := (Array.getElem?_eq_some_iff.1 hh).1
  have hh2 : w2.heap[b]? = some (.cells #[selfP b, v] 71 (0, 0)) := by
    rw [hgrow.block b (by rw [hsz1]; exact hblt) (fun e => hbne e.symm)]; exact hh1
  have hvform : (v' = .slice none 0 0) ∨ ∃ b2 n c, v' = .slice (some ⟨b2, 0, none⟩) n c := by
    rcases hrow2.2 with h | ⟨b2, c, cur, hv, _⟩
    · exact .inl h.1
    · exact .inr ⟨b2, _, c, hv⟩
  have hcells : v'.cells = #[v'] := by rcases hvform with rfl | ⟨b2, n, c, rfl⟩ <;> rfl
  have hone' : v'.oneCell' = true := by rcases hvform with rfl | ⟨b2, n, c, rfl⟩ <;> rfl
  have hstore := run_storeVar (P := Tryd.prog) (w := w2) size69 b 1 71 #[selfP b, v] v' hh2 (by rw [hcells]; rfl) (Nat.le_refl _) (fun u hu => by rw [hcells] at hu; simp at hu; rw [hu]; exact hone')
  have hnew : ((#[selfP b, v] : Array Value).toList.take 1 ++ v'.cells.toList ++ (#[selfP b, v] : Array Value).toList.drop (1 + 1)).toArray = #[selfP b, v'] := by rw [hcells]; rfl
  rw [hnew] at hstore
  refine rawSkip (op := .store 69 (.tmp 16) (.tmp 14)) (w' := w2.setRow b #[selfP b, v']) rfl rfl rfl (fun o ho => by simp only [execOp, ho, A.get (t := 16) (v := .pointer (some ⟨b, 1, none⟩)) (by simp), A.get (t := 14) (v := v') (by simp), Instr.storeAt, Instr.sureAddr, Sem.run_bind, Sem.run_pure, Result.andThen_ok, hstore]) rfl (rawEnd ?_)
  show Code.wp Tryd.prog _ _ a12 _
  generalize hw3 : w2.setRow b #[selfP b, v'] = w3
  -- region 3
  refine wp_seq (wp_region ?_)
  show wpOps Tryd.prog _ _ [0, 1, 2, 3] a12 w3
  refine raw (op := .move (.tmp 1)) (v := .string x) (w' := w3) rfl rfl rfl rfl rfl (fun o ho hty => by simp only [execOp, ho, A.get (t := 1) (v := .string x) (by simp)]; rfl) ?_
  have A := A.put 17 (.string x) (by decide) (by simp)
  show wpOps Tryd.prog _ _ [1, 2, 3] (a12.put (some 17) (.string x)) w3
  generalize a12.put (some 17) (.string x) = a13 at A ⊢
  refine raw (op := .call { callee := .builtin .len, args := #[.tmp 17], argTypes := #[9] }) (v := .int .i64 x.size) (w' := w3) rfl rfl rfl rfl rfl (fun o ho hty => by simp [execOp, ho, resolve, invoke, builtin, Builtin.len_, A.get (t := 17) (v := .string x) (by simp), run_underlying Tryd.underlying9, goInt]) ?_
  have A := A.put 18 (.int .i64 x.size) (by decide) (by simp)
  show wpOps Tryd.prog _ _ [2, 3] (a13.put (some 18) (.int .i64 x.size)) w3
  generalize a13.put (some 18) (.int .i64 x.size) = a14 at A ⊢
  refine raw (op := .assign (.tmp 18)) (v := .int .i64 x.size) (w' := w3) rfl rfl rfl rfl rfl (fun o ho hty => by simp only [execOp, ho, A.get (t := 18) (v := .int .i64 x.size) (by simp)]; rfl) ?_
  refine raw (op := .assign (.const .nilIface)) (v := .nilIface) (w' := w3) rfl rfl rfl rfl rfl (fun o ho hty => by simp only [execOp, ho]; rfl) (rawEnd ?_)
  have A := (A.other 4 (.int .i64 x.size) (by simp)).other 5 .nilIface (by simp)
  show Code.wp Tryd.prog _ _ ((a14.put (some 4) (.int .i64 x.size)).put (some 5) .nilIface) w3
  generalize (a14.put (some 4) (.int .i64 x.size)).put (some 5) .nilIface = a15 at A ⊢
  refine wp_ret ?_
  refine ⟨A.1, _, run_results (P := Tryd.prog) Tryd.f59 a15 [a15.tmps.getD 4 undef, a15.tmps.getD 5 undef] rfl, ?_⟩
  -- what is in memory in the end
  have hblk : ∀ k, k < w.heap.size → k ≠ b → some k ≠ v.ownBlock → w3.heap[k]? = w.heap[k]? := fun k hk hb hv => by
    rw [← hw3, setRow_other _ _ _ _ hb, hgrow.block k (by rw [hsz1]; exact hk) hv, hot1 k hb]
  have hsz3 : w3.heap.size = w2.heap.size := by rw [← hw3]; simp [World.setRow]
  have hle : w.heap.size ≤ w3.heap.size := by rw [hsz3, ← hsz1]; exact hgrow.size
  have hb2 : ∀ b2, v'.ownBlock = some b2 → v.ownBlock = some b2 ∨ w.heap.size ≤ b2 := by rw [← hsz1]; exact app_where hrow1 hs hrun
  have hbne' : v'.ownBlock ≠ some b := fun h => by
    rcases hb2 b h with h | h
    · exact hbne h
    · omega
  have hlt2 : ∀ b2, v'.ownBlock = some b2 → b2 < w3.heap.size := fun b2 h2 => by
    rw [hsz3]
    rcases hrow2.2 with ⟨rfl, _⟩ | ⟨b, c, cur, rfl, h0, hc, _⟩
    · cases h2
    · cases h2; exact (Array.getElem?_eq_some_iff.1 hc).1
  have hfree : ∀ k, (∀ i j, g k ≠ .own 1 i j) → k ≠ b ∧ some k ≠ v.ownBlock := fun k hk => ⟨fun e => by subst e; exact hk _ _ hg, fun e => hk _ _ (hbb k e.symm)⟩
  have hlend : ∀ k k' i j, lendTags g k ≠ .own k' i j := fun k k' i j h => by unfold lendTags at h; cases e : g k <;> rw [e] at h <;> cases h
  have htag : ∀ k k' i j, (if v'.ownBlock = some k then Tag.own 1 0 1 else if k = b then .own 1 1 0 else lendTags g k) = .own k' i j → (v'.ownBlock = some k ∧ k' = 1 ∧ i = 0 ∧ j = 1) ∨ (k = b ∧ k' = 1 ∧ i = 1 ∧ j = 0) := by
    intro k k' i j h
    split at h
    · rename_i e; cases h; exact .inl ⟨e, rfl, rfl, rfl⟩
    · split at h
      · rename_i e; cases h; exact .inr ⟨e, rfl, rfl, rfl⟩
      · exact absurd h (hlend _ _ _ _)
  refine ⟨_, fun k => if v'.ownBlock = some k then .own 1 0 1 else if k = b then .own 1 1 0 else lendTags g k, rfl, ?_, ?_, ?_, hle, ?_, ⟨?_, ?_, ?_⟩, ?_⟩
  · rw [← hw3]; exact hgrow.os.trans hos1
  · rw [← hw3]; exact hgrow.tape.trans htp1
  · rw [← hw3]; exact hgrow.output.trans hou1
  · intro k hk hno
    obtain ⟨h1, h2⟩ := hfree k hno
    refine ⟨hblk k hk h1 h2, ?_⟩
    have h3 : ¬ v'.ownBlock = some k := fun h => by
      rcases hb2 k h with h | h
      · exact h2 h.symm
      · omega
    simp only [if_neg h3, if_neg h1]
    unfold lendTags
    cases e : g k with
    | own x y z => have := hone.own _ _ _ _ e; subst this; exact absurd e (hno _ _)
    | _ => rfl
  · intro k k' i j h
    rcases htag k k' i j h with ⟨_, h, _⟩ | ⟨_, h, _⟩ <;> exact h
  · intro k k2 k' i j h h'
    rcases htag k k' i j h with ⟨h1, h2, h3, h4⟩ | ⟨h1, h2, h3, h4⟩ <;> rcases htag k2 k' i j h' with ⟨h1', h2', h3', h4'⟩ | ⟨h1', h2', h3', h4'⟩
    · rw [h1] at h1'; exact Option.some.inj h1'
    · omega
    · omega
    · rw [h1, h1']
  · intro k hk
    have h3 : ¬ v'.ownBlock = some k := fun h => by have := hlt2 k h; omega
    have h4 : ¬ k = b := by omega
    simp only [if_neg h3, if_neg h4]
    unfold lendTags
    rw [hone.fresh k (Nat.le_trans hle hk)]
  · have e3 : ((s ++ x).data.toList.map fun c => Value.int .u8 c.toNat) = (s.data.toList.map fun c => Value.int .u8 c.toNat) ++ Lib.strCells x := by
      unfold Lib.strCells
      rw [← List.map_append]
      congr 1
    refine ⟨selfP b, v', .inr rfl, ?_, ?_, ?_, fun b2 h2 => by simp only [if_pos h2]⟩
    · simp only [if_neg hbne', if_true]
    · rw [← hw3]; exact setRow_heap w2 _ _ _ _ _ hh2
    · rw [e3, ByteArray.size_append]
      refine ⟨hrow2.1, ?_⟩
      rcases hrow2.2 with h | ⟨b2, c, cur, hv, h0, hc, hrest⟩
      · exact .inl h
      · refine .inr ⟨b2, c, cur, hv, h0, ?_, hrest⟩
        rw [← hw3, setRow_other _ _ _ _ (fun e => hbne' (by rw [hv, e]; rfl))]; exact hc

set_option maxRecDepth 100000 in
theorem line_b (ws : List ByteArray) (s : ByteArray) (hN : ws.length ≤ 140737488355328) (hs : s.size + (joinB ws sp1).size + 1 ≤ 140737488355328) :
    CallB Tryd.prog 34 71 5 [.lf (.im true (.sl 1 (ws.map rS)))] s (s ++ (joinB ws sp1 ++ nl1)) := by
  have hnl : (joinB ws sp1 ++ nl1).size = (joinB ws sp1).size + 1 := by rw [ByteArray.size_append]; rfl
  refine CallB.body Tryd.func34 rfl (Nat.le_of_ble_eq_true (by kernel_rfl)) rfl fun E b hE => ?_
  have n9 : E.n = 9 := hE.trans (by kernel_rfl)
  refine vw_region ?_
  show OpsW Tryd.prog E _ [0, 1, 2, 3, 4] _ _
  refine ops_one rfl rfl (step_copy 4 (.tmp 0) (.lf (.ptr b 0)) (.inl rfl) rfl (by omega) rfl rfl) ?_
  refine ops_one rfl rfl (step_copy 5 (.tmp 1) (.lf (.im true (.sl 1 (ws.map rS)))) (.inl rfl) rfl (by omega) rfl rfl) ?_
  refine ops_one rfl rfl (step_call1 6 60 _ _ [.lf (.im true (.sl 1 (ws.map rS))), .lf (.im true (.str sp1))] rfl rfl (by omega) text60 rfl (join_v ws sp1 hN (by omega))) ?_
  refine ops_one rfl rfl (step_str 7 .add 9 9 (.tmp 6) (.const (.string nl1)) (joinB ws sp1) nl1 (.str (joinB ws sp1 ++ nl1)) (.str (joinB ws sp1 ++ nl1)) _ rfl rfl (by omega) rfl rfl ?_ rfl rfl) ?_
  · have hle : ¬ ((((joinB ws sp1).size + nl1.size : Nat) : Int) > IntKind.i64.max) := by
      rw [← ByteArray.size_append, hnl, show IntKind.i64.max = 9223372036854775807 from rfl]; omega
    simp only [strOp, if_neg hle]
  refine ops_one rfl rfl (step_callB 8 0 59 (.tmp 4) [.tmp 7] _ _ [.lf (.im true (.str (joinB ws sp1 ++ nl1)))] b 71 5 s (s ++ (joinB ws sp1 ++ nl1)) rfl rfl rfl (by omega) text59 rfl rfl rfl (write_b _ s (by omega))) ?_
  exact ops_nil ⟨.inr rfl, rfl⟩

theorem line_to {ws : List ByteArray} {s s' : ByteArray} (hN : ws.length ≤ 140737488355328) (he : s ++ (joinB ws sp1 ++ nl1) = s') (h : s'.size ≤ 1000000000) :
    CallB Tryd.prog 34 71 5 [.lf (.im true (.sl 1 (ws.map rS)))] s s' := by
  subst he
  rw [ByteArray.size_append, ByteArray.size_append] at h
  exact line_b ws s hN (by have : nl1.size = 1 := rfl; omega)
theorem clB {P : Program} {f : FuncId} {T e : Nat} {ps : List Part} {s s' : ByteArray} (h : Text P f) (hc : CallB P f T e ps s s') : AllP [Text P f, CallB P f T e ps s s'] := ⟨h, hc, trivial⟩
theorem text38 : Text Tryd.prog 38 := Text.of Tryd.func38 rfl (by kernel_rfl)
theorem st71 : ∃ fs, Tryd.prog.underlying 71 = some (.struct fs) ∧ ∀ w, ((fs.mapM fun f => do pure (f.offset, ← sizeOf f.type)) : Sem (Array (Nat × Nat))).run Tryd.prog w = .ok [(0, 1), (1, 1)].toArray w :=
  ⟨_, Tryd.underlying71, fun w => by simp [Tryd.sizeOf68, Tryd.sizeOf69]⟩
theorem zero71 : ∀ w, (zeroValue 71).run Tryd.prog w = .ok (.agg #[.pointer none, .slice none 0 0]) w := fun w => Tryd.zeroValue71 w
end Go.Proofs.YtahciphhopiipaaDoor
