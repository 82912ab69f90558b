/- Walking by hand: activations of which some places are known; memory in which whole numbers and texts turn. -/
import Derived.Test.YtahciphhopiipaaGreatDoorX9
set_option linter.unusedVariables false
set_option linter.unusedSimpArgs false
namespace Go.Proofs.YtahciphhopiipaaGreatDoor.V
open Go Go.RowKit

/-- What an activation's places hold, some of them. -/
def Knows (n : Nat) (a : Act) (l : List (Nat × Value)) : Prop := a.defers = [] ∧ a.tmps.size = n ∧ ∀ q ∈ l, a.tmps.getD q.1 undef = q.2
theorem Knows.get {n : Nat} {a : Act} {l : List (Nat × Value)} (h : Knows n a l) {t : Nat} {v : Value} (hm : (t, v) ∈ l) : a.eval (.tmp t) = v := h.2.2 _ hm
theorem Knows.put {n : Nat} {a : Act} {l : List (Nat × Value)} (h : Knows n a l) (d : Nat) (v : Value) (hd : d < n) (hne : ∀ q ∈ l, q.1 ≠ d) : Knows n (a.put (some d) v) ((d, v) :: l) := by
  refine ⟨act_put_defers.trans h.1, act_put_size.trans h.2.1, fun q hq => ?_⟩
  rcases List.mem_cons.1 hq with rfl | hq
  · exact act_put_eq (by rw [h.2.1]; exact hd)
  · rw [act_put _ (hne q hq)]; exact h.2.2 q hq
theorem Knows.keep {n : Nat} {a : Act} {l : List (Nat × Value)} (h : Knows n a l) (l' : List (Nat × Value)) (hl : ∀ q ∈ l', q ∈ l) : Knows n a l' := ⟨h.1, h.2.1, fun q hq => h.2.2 q (hl q hq)⟩
theorem Knows.set {n : Nat} {a : Act} {l : List (Nat × Value)} (h : Knows n a l) (d : Nat) (v : Value) (l' : List (Nat × Value)) (hd : d < n) (hl : ∀ q ∈ l', q = (d, v) ∨ q.1 ≠ d ∧ q ∈ l) : Knows n (a.put (some d) v) l' := by
  refine ⟨act_put_defers.trans h.1, act_put_size.trans h.2.1, fun q hq => ?_⟩
  rcases hl q hq with rfl | ⟨h1, h2⟩
  · exact act_put_eq (by rw [h.2.1]; exact hd)
  · rw [act_put _ h1]; exact h.2.2 q h2
theorem Knows.skip {n : Nat} {a : Act} {l : List (Nat × Value)} (h : Knows n a l) (v : Value) : Knows n (a.put none v) l := h
theorem Knows.start {n : Nat} (args : Array Value) (h : args.size ≤ n) : Knows n { tmps := args ++ Array.replicate (n - args.size) undef, defers := [] } (args.toList.zipIdx.map fun q => (q.2, q.1)) := by
  refine ⟨rfl, by simp; omega, fun q hq => ?_⟩
  obtain ⟨⟨v, i⟩, h1, rfl⟩ := List.mem_map.1 hq
  have h2 := List.mem_zipIdx_iff_getElem?.1 h1
  simp only [Array.getElem?_toList] at h2
  have hlt : i < args.size := (Array.getElem?_eq_some_iff.1 h2).1
  simp only
  rw [Array.getD_eq_getD_getElem?, Array.getElem?_append_left hlt, h2]; rfl

/-- What an operation is. -/
structure Is (o : Oper) (op : Op) (d : Option Nat) : Prop where
  g : o.guard = none
  op : o.op = op
  d : o.dst = d

theorem k_val {P : Program} {ops : Array Oper} {Q : Exit → Act → World → Prop} {i : Nat} {l : List Nat} {a : Act} {w w' : World} {o : Oper} {v : Value} {op : Op} {d : Option Nat} (ho : ops[i]? = some o) (h : Is o op d)
    (hr : (execOp a.eval o).run P w = .ok (.value v) w') (hn : wpOps P ops Q l (a.put d v) w') : wpOps P ops Q (i :: l) a w := by
  simp only [wpOps, ho]
  rw [if_pos (by simp [Region.wanted, h.g])]
  left
  unfold Oper.wp
  rw [hr]
  show wpOps P ops Q l (a.put o.dst v) w'
  rw [h.d]
  exact hn
theorem k_skip {P : Program} {ops : Array Oper} {Q : Exit → Act → World → Prop} {i : Nat} {l : List Nat} {a : Act} {w w' : World} {o : Oper} {op : Op} (ho : ops[i]? = some o) (h : Is o op none)
    (hr : (execOp a.eval o).run P w = .ok .skip w') (hn : wpOps P ops Q l a w') : wpOps P ops Q (i :: l) a w := by
  simp only [wpOps, ho]
  rw [if_pos (by simp [Region.wanted, h.g])]
  left
  unfold Oper.wp
  rw [hr]
  show wpOps P ops Q l (a.put o.dst undef) w'
  rw [h.d]
  exact hn
theorem k_call {P : Program} {ops : Array Oper} {Q : Exit → Act → World → Prop} {i : Nat} {l : List Nat} {a : Act} {w : World} {o : Oper} {f : FuncId} {xs : Array Operand} {ats : Array TypeId} {d : Nat} {R : Ending → World → Prop} {args : Array Value} (ho : ops[i]? = some o)
    (h : Is o (.call { callee := .value (.func f), args := xs, argTypes := ats }) (some d)) (hf : Text P f) (hx : xs.map a.eval = args) (hc : Calls P f args w R)
    (hn : ∀ e w', R e w' → ∃ v, e = .returned v ∧ wpOps P ops Q l (a.put (some d) v) w') : wpOps P ops Q (i :: l) a w := by
  subst hx
  simp only [wpOps, ho]
  rw [if_pos (by simp [Region.wanted, h.g])]
  left
  have hrun : (execOp a.eval o).run P w = .ok (.enter f (xs.map a.eval)) w := by
    have e : execOp a.eval o = callFunc f (xs.map a.eval) := by
      simp [execOp, h.op, resolve, Deferred.ofValue, Act.eval, invoke]
    rw [e, run_callFunc hf]
  unfold Oper.wp
  rw [hrun, Oper.upon_enter]
  refine hc.mono fun e w' h2 => ?_
  obtain ⟨v, rfl, h3⟩ := hn e w' h2
  show wpOps P ops Q l (a.put o.dst v) w'
  rw [h.d]
  exact h3
theorem k_end {P : Program} {ops : Array Oper} {Q : Exit → Act → World → Prop} {a : Act} {w : World} (h : Q .normal a w) : wpOps P ops Q [] a w := by simp only [wpOps]; exact h

theorem k_copy {P : Program} {ops : Array Oper} {Q : Exit → Act → World → Prop} {i : Nat} {l : List Nat} {a : Act} {w : World} {o : Oper} {x : Operand} {v : Value} {d : Option Nat} {op : Op} (ho : ops[i]? = some o) (h : Is o op d) (hop : op = .move x ∨ op = .assign x) (hx : a.eval x = v)
    (hn : wpOps P ops Q l (a.put d v) w) : wpOps P ops Q (i :: l) a w := by
  refine k_val ho h (v := v) (w' := w) ?_ hn
  subst hx
  rcases hop with rfl | rfl <;> simp only [execOp, h.op] <;> rfl
theorem k_len {P : Program} {ops : Array Oper} {Q : Exit → Act → World → Prop} {i : Nat} {l : List Nat} {a : Act} {w : World} {o : Oper} {x : Operand} {t e : TypeId} {ad : Option Addr} {n c : Nat} {d : Option Nat} (ho : ops[i]? = some o) (h : Is o (.call { callee := .builtin .len, args := #[x], argTypes := #[t] }) d)
    (ht : P.underlying t = some (.slice e)) (hx : a.eval x = .slice ad n c) (hn : wpOps P ops Q l (a.put d (.int .i64 (n : Int))) w) : wpOps P ops Q (i :: l) a w := by
  refine k_val ho h (v := .int .i64 (n : Int)) (w' := w) ?_ hn
  simp [execOp, h.op, resolve, invoke, builtin, Builtin.len_, hx, run_underlying ht, goInt]
theorem k_bin {P : Program} {ops : Array Oper} {Q : Exit → Act → World → Prop} {i : Nat} {l : List Nat} {a : Act} {w : World} {o : Oper} {x y : Operand} {t t' : TypeId} {op : BinOp} {k : IntKind} {m n : Int} {r : SV} {v : Value} {d : Option Nat} (ho : ops[i]? = some o) (h : Is o (.binOp op t x y t') d)
    (hx : a.eval x = .int k m) (hy : a.eval y = .int k n) (hr : intOp op k m n = some r) (hv : r.val = some v) (hn : wpOps P ops Q l (a.put d v) w) : wpOps P ops Q (i :: l) a w := by
  refine k_val ho h (v := v) (w' := w) ?_ hn
  simp only [execOp, h.op, hx, hy]
  have e1 := run_eqGuard_plain (P := P) (w := w) op t x y (.int k m) (.int k n) rfl
  have e2 := run_intOp (P := P) (w := w) t hr hv
  simp [e1, e2]
theorem k_not {P : Program} {ops : Array Oper} {Q : Exit → Act → World → Prop} {i : Nat} {l : List Nat} {a : Act} {w : World} {o : Oper} {x : Operand} {t : TypeId} {b : Bool} {d : Option Nat} (ho : ops[i]? = some o) (h : Is o (.unOp .not t x) d)
    (hx : a.eval x = .bool b) (hn : wpOps P ops Q l (a.put d (.bool !b)) w) : wpOps P ops Q (i :: l) a w := by
  refine k_val ho h (v := .bool !b) (w' := w) ?_ hn
  simp [execOp, h.op, hx, Op.unary]
theorem k_index {P : Program} {ops : Array Oper} {Q : Exit → Act → World → Prop} {i : Nat} {l : List Nat} {a : Act} {w : World} {o : Oper} {x y : Operand} {t e : TypeId} {sz b off n c j : Nat} {d : Option Nat} (ho : ops[i]? = some o) (h : Is o (.indexAddr t x y) d)
    (ht : P.underlying t = some (.slice e)) (hz : (P.info? e).map (·.size) = some sz) (hx : a.eval x = .slice (some ⟨b, off, none⟩) n c) (hy : a.eval y = .int .i64 ((j : Nat) : Int)) (hj : j < n)
    (hn : wpOps P ops Q l (a.put d (.pointer (some ⟨b, off + j * sz, none⟩))) w) : wpOps P ops Q (i :: l) a w := by
  refine k_val ho h (v := .pointer (some ⟨b, off + j * sz, none⟩)) (w' := w) ?_ hn
  have h0 : (0 : Int) ≤ ((j : Nat) : Int) := by omega
  have h1 : ((j : Nat) : Int) < (n : Int) := by omega
  simp only [execOp, h.op, hx, hy]
  simp [Instr.indexAt, asIntOf, run_underlying ht, h0, hj, run_sizeOf hz, Addr.add_flat]
/-- A field of a struct. -/
def FieldAt (P : Program) (t : TypeId) (j off : Nat) : Prop := ∃ fs f m, P.underlying t = some (.struct fs) ∧ fs[j]? = some f ∧ f.offset = off ∧ (P.info? f.type).map (·.size) = some m ∧ 0 < m
theorem k_field {P : Program} {ops : Array Oper} {Q : Exit → Act → World → Prop} {i : Nat} {l : List Nat} {a : Act} {w : World} {o : Oper} {x : Operand} {t j off b p : Nat} {d : Option Nat} (ho : ops[i]? = some o) (h : Is o (.fieldAddr t x j) d)
    (hf : FieldAt P t j off) (hx : a.eval x = .pointer (some ⟨b, p, none⟩)) (hn : wpOps P ops Q l (a.put d (.pointer (some ⟨b, p + off, none⟩))) w) : wpOps P ops Q (i :: l) a w := by
  obtain ⟨fs, f, m, h1, h2, rfl, h4, h5⟩ := hf
  refine k_val ho h (v := .pointer (some ⟨b, p + f.offset, none⟩)) (w' := w) ?_ hn
  simp only [execOp, h.op, hx]
  simp [Instr.fieldAt, run_underlying h1, h2, Instr.sureAddr, fieldPlace, run_sizeOf h4, Nat.ne_of_gt h5, Addr.add_flat]
theorem k_load {P : Program} {ops : Array Oper} {Q : Exit → Act → World → Prop} {i : Nat} {l : List Nat} {a : Act} {w : World} {o : Oper} {x : Operand} {t b p : Nat} {y : Value} {d : Option Nat} (ho : ops[i]? = some o) (h : Is o (.load t x) d)
    (ht : Ty P t 1 false) (hx : a.eval x = .pointer (some ⟨b, p, none⟩)) (hc : w.cell? ⟨b, p, none⟩ = some y) (hn : wpOps P ops Q l (a.put d y) w) : wpOps P ops Q (i :: l) a w := by
  refine k_val ho h (v := y) (w' := w) ?_ hn
  have hrun := run_loadVar (P := P) (w := w) ht b p [y] rfl (fun _ => rfl) (fun j x hj => by
    cases j with
    | zero => simp at hj; subst hj; exact hc
    | succ j => simp at hj)
  simp only [execOp, h.op, hx, Instr.loadAt, Instr.sureAddr, Sem.run_bind, Sem.run_pure, Result.andThen_ok, hrun]
  rfl
theorem k_store {P : Program} {ops : Array Oper} {Q : Exit → Act → World → Prop} {i : Nat} {l : List Nat} {a : Act} {w : World} {o : Oper} {x y : Operand} {t b p e : Nat} {cur : Array Value} {v : Value} (ho : ops[i]? = some o) (h : Is o (.store t x y) none)
    (hz : (P.info? t).map (·.size) = some 1) (hx : a.eval x = .pointer (some ⟨b, p, none⟩)) (hy : a.eval y = v) (hcells : v.cells = #[v]) (hone : v.oneCell' = true) (hh : w.heap[b]? = some (.cells cur e (0, 0))) (hp : p < cur.size)
    (hn : wpOps P ops Q l a (w.setRow b (cur.toList.take p ++ [v] ++ cur.toList.drop (p + 1)).toArray)) : wpOps P ops Q (i :: l) a w := by
  have hrun := run_storeVar (P := P) (w := w) hz b p e cur v hh (by rw [hcells]; rfl) (by omega) (fun u hu => by rw [hcells] at hu; simp at hu; rw [hu]; exact hone)
  rw [hcells] at hrun
  refine k_skip ho h (w' := w.setRow b (cur.toList.take p ++ [v] ++ cur.toList.drop (p + 1)).toArray) ?_ hn
  simp only [execOp, h.op, hx, hy, Instr.storeAt, Instr.sureAddr, Sem.run_bind, Sem.run_pure, Result.andThen_ok, hrun]

/-- Of one kind. -/
def Sim (v v' : Value) : Prop := v' = v ∨ (∃ k m n, v = .int k m ∧ v' = .int k n) ∨ ∃ s t, v = .string s ∧ v' = .string t
theorem Sim.refl (v : Value) : Sim v v := .inl rfl
theorem Sim.trans {a b c : Value} (h1 : Sim a b) (h2 : Sim b c) : Sim a c := by
  rcases h1 with rfl | ⟨k, m, n, rfl, rfl⟩ | ⟨s, t, rfl, rfl⟩
  · exact h2
  · rcases h2 with rfl | ⟨k', m', n', e, rfl⟩ | ⟨s, t, e, rfl⟩
    · exact .inr (.inl ⟨_, _, _, rfl, rfl⟩)
    · cases e; exact .inr (.inl ⟨_, _, _, rfl, rfl⟩)
    · cases e
  · rcases h2 with rfl | ⟨k', m', n', e, rfl⟩ | ⟨s', t', e, rfl⟩
    · exact .inr (.inr ⟨_, _, rfl, rfl⟩)
    · cases e
    · exact .inr (.inr ⟨_, _, rfl, rfl⟩)

/-- All of a set's blocks are plain cells. -/
def Soft (S : Nat → Prop) (w : World) : Prop := ∀ b, S b → Plain w b
theorem Soft.lt {S : Nat → Prop} {w : World} (h : Soft S w) {b : Nat} (hb : S b) : b < w.heap.size := by obtain ⟨c, e, hh⟩ := h b hb; exact (Array.getElem?_eq_some_iff.1 hh).1

/-- Memory turns at most in whole numbers and texts in a set of blocks. -/
structure Mk (S : Nat → Prop) (w w' : World) : Prop where
  os : w'.os = w.os
  tape : w'.tape = w.tape
  output : w'.output = w.output
  size : w.heap.size ≤ w'.heap.size
  off : ∀ b, b < w.heap.size → ¬ S b → w'.heap[b]? = w.heap[b]?
  on : ∀ b cur e, S b → w.heap[b]? = some (.cells cur e (0, 0)) → ∃ cur', w'.heap[b]? = some (.cells cur' e (0, 0)) ∧ cur'.size = cur.size ∧ ∀ (j : Nat) v, cur[j]? = some v → ∃ v', cur'[j]? = some v' ∧ Sim v v'
theorem Mk.refl (S : Nat → Prop) (w : World) : Mk S w w := ⟨rfl, rfl, rfl, Nat.le_refl _, fun _ _ _ => rfl, fun b cur e _ h => ⟨cur, h, rfl, fun j v hj => ⟨v, hj, Sim.refl v⟩⟩⟩
theorem Mk.trans {S : Nat → Prop} {a b c : World} (h1 : Mk S a b) (h2 : Mk S b c) : Mk S a c where
  os := h2.os.trans h1.os
  tape := h2.tape.trans h1.tape
  output := h2.output.trans h1.output
  size := Nat.le_trans h1.size h2.size
  off := fun x hx hs => (h2.off x (Nat.lt_of_lt_of_le hx h1.size) hs).trans (h1.off x hx hs)
  on := fun x cur e hs hh => by
    obtain ⟨c1, k1, k2, k3⟩ := h1.on x cur e hs hh
    obtain ⟨c2, l1, l2, l3⟩ := h2.on x c1 e hs k1
    refine ⟨c2, l1, l2.trans k2, fun j v hj => ?_⟩
    obtain ⟨v1, m1, m2⟩ := k3 j v hj
    obtain ⟨v2, n1, n2⟩ := l3 j v1 m1
    exact ⟨v2, n1, m2.trans n2⟩
theorem Mk.soft {S : Nat → Prop} {w w' : World} (h : Mk S w w') (hs : Soft S w) : Soft S w' := fun b hb => by
  obtain ⟨c, e, hh⟩ := hs b hb
  obtain ⟨c', h1, _⟩ := h.on b c e hb hh
  exact ⟨c', e, h1⟩
theorem Mk.below {S : Nat → Prop} {w w' : World} (h : Below w.heap.size w w') (hs : Soft S w) : Mk S w w' where
  os := h.os
  tape := h.tape
  output := h.output
  size := h.size
  off := fun b hb _ => h.block b hb
  on := fun b cur e hb hh => ⟨cur, (h.block b (hs.lt hb)).trans hh, rfl, fun j v hj => ⟨v, hj, Sim.refl v⟩⟩
theorem Mk.cell {S : Nat → Prop} {w w' : World} (h : Mk S w w') (hs : Soft S w) {b p : Nat} {y : Value} (hb : S b) (hc : w.cell? ⟨b, p, none⟩ = some y) : ∃ y', w'.cell? ⟨b, p, none⟩ = some y' ∧ Sim y y' := by
  obtain ⟨c, e, hh⟩ := hs b hb
  obtain ⟨c', h1, h2, h3⟩ := h.on b c e hb hh
  have hy : c[p]? = some y := by simpa [World.cell?, hh] using hc
  obtain ⟨y', k1, k2⟩ := h3 p y hy
  exact ⟨y', by simp [World.cell?, h1, k1], k2⟩
theorem get_splice1 {cur : Array Value} {v : Value} {p j : Nat} (hp : p < cur.size) : (cur.toList.take p ++ [v] ++ cur.toList.drop (p + 1)).toArray[j]? = if j = p then some v else cur[j]? := by
  have ht : (cur.toList.take p).length = p := by rw [List.length_take, Array.length_toList]; omega
  simp only [List.getElem?_toArray]
  by_cases h : j < p
  · rw [List.append_assoc, List.getElem?_append_left (by omega), List.getElem?_take, if_pos h, if_neg (by omega), Array.getElem?_toList]
  · by_cases e : j = p
    · subst e
      rw [if_pos rfl, List.append_assoc, List.getElem?_append_right (by omega), ht]; simp
    · rw [if_neg e, List.getElem?_append_right (by simp; omega), List.getElem?_drop]
      simp only [List.length_append, ht, List.length_cons, List.length_nil]
      rw [show p + 1 + (j - (p + (0 + 1))) = j from by omega, Array.getElem?_toList]
theorem Mk.store {S : Nat → Prop} {w : World} {b p e : Nat} {cur : Array Value} {y v : Value} (hb : S b) (hh : w.heap[b]? = some (.cells cur e (0, 0))) (hp : p < cur.size) (hy : cur[p]? = some y) (hs : Sim y v) :
    Mk S w (w.setRow b (cur.toList.take p ++ [v] ++ cur.toList.drop (p + 1)).toArray) where
  os := rfl
  tape := rfl
  output := rfl
  size := by simp [World.setRow]
  off := fun x hx hn => setRow_other _ _ _ _ fun e0 => hn (e0 ▸ hb)
  on := fun x cur2 e2 hx h2 => by
    by_cases e0 : x = b
    · subst e0
      rw [hh] at h2
      cases h2
      refine ⟨_, setRow_heap w x cur _ _ _ hh, ?_, fun j u hj => ?_⟩
      · simp; omega
      · by_cases e1 : j = p
        · subst e1
          rw [hy] at hj
          cases hj
          exact ⟨v, by rw [get_splice1 hp, if_pos rfl], hs⟩
        · exact ⟨u, by rw [get_splice1 hp, if_neg e1]; exact hj, Sim.refl u⟩
    · exact ⟨cur2, (setRow_other _ _ _ _ e0).trans h2, rfl, fun j u hj => ⟨u, hj, Sim.refl u⟩⟩

/-- A value is of the shape of data, all of it in blocks of a set: whole numbers and texts are any. -/
inductive ShRep (S : Nat → Prop) (w : World) : Value → SV → Prop
  | int (k : IntKind) (n m : Int) : ShRep S w (.int k n) (.int k m)
  | bool (b c : Bool) : ShRep S w (.bool b) (.bool c)
  | str (s t : ByteArray) : ShRep S w (.string s) (.str t)
  | fn (v : Value) (f : FuncId) (caps : List SV) : ShRep S w v (.fn f caps)
  | nil (sz : Nat) (a : Option Addr) (cap : Nat) : ShRep S w (.slice a 0 cap) (.sl sz [])
  | sl (b off n cap sz : Nat) (rows : List (List SV)) (cv : Nat → Value) (hn : n = rows.length) (hc : n ≤ cap)
      (hw : ∀ r ∈ rows, r.length = sz) (hS : S b)
      (hcell : ∀ i r j x, rows[i]? = some r → r[j]? = some x → w.cell? ⟨b, off + (i * sz + j), none⟩ = some (cv (i * sz + j)))
      (hrep : ∀ i r j x, rows[i]? = some r → r[j]? = some x → ShRep S w (cv (i * sz + j)) x) :
      ShRep S w (.slice (some ⟨b, off, none⟩) n cap) (.sl sz rows)
theorem SRep.sh {S : Nat → Prop} {w : World} {v : Value} {x : SV} (h : SRep S w v x) : ShRep S w v x := by
  induction h with
  | int k n => exact .int k n n
  | bool b => exact .bool b b
  | str s => exact .str s s
  | nil sz a cap => exact .nil sz a cap
  | sl b off n cap sz rows cv hn hc hw hS hcell _ ih => exact .sl b off n cap sz rows cv hn hc hw hS hcell ih
  | fn f vs caps bs os cv hl hv _ _ => exact .fn _ f caps
theorem ShRep.sim {S : Nat → Prop} {w : World} {v v' : Value} {x : SV} (h : ShRep S w v x) (hs : Sim v v') : ShRep S w v' x := by
  rcases hs with rfl | ⟨k, m, n, rfl, rfl⟩ | ⟨s, t, rfl, rfl⟩
  · exact h
  · cases h with
    | int _ _ m => exact .int _ _ m
    | fn _ f c => exact .fn _ f c
  · cases h with
    | str _ t => exact .str _ t
    | fn _ f c => exact .fn _ f c
theorem ShRep.mk {S : Nat → Prop} {w w' : World} {v : Value} {x : SV} (h : ShRep S w v x) (hs : Soft S w) (hm : Mk S w w') : ShRep S w' v x := by
  induction h with
  | int k n m => exact .int k n m
  | bool b c => exact .bool b c
  | str s t => exact .str s t
  | fn v f c => exact .fn v f c
  | nil sz a cap => exact .nil sz a cap
  | sl b off n cap sz rows cv hn hc hw hS hcell _ ih =>
    refine .sl b off n cap sz rows (fun q => (w'.cell? ⟨b, off + q, none⟩).getD undef) hn hc hw hS (fun i r j y h1 h2 => ?_) (fun i r j y h1 h2 => ?_)
    · obtain ⟨y', k1, k2⟩ := hm.cell hs hS (hcell i r j y h1 h2)
      rw [k1]; rfl
    · obtain ⟨y', k1, k2⟩ := hm.cell hs hS (hcell i r j y h1 h2)
      rw [k1]
      exact (ih i r j y h1 h2).sim k2
theorem ShRep.form {S : Nat → Prop} {w : World} {v : Value} {sz : Nat} {rows : List (List SV)} (h : ShRep S w v (.sl sz rows)) : ∃ a n cap, v = .slice a n cap ∧ n = rows.length := by
  generalize hx : SV.sl sz rows = x at h
  cases h with
  | nil sz' a cap => cases hx; exact ⟨a, 0, cap, rfl, rfl⟩
  | sl b off n cap sz' rows' cv hn hc hw hS hcell hrep => cases hx; exact ⟨_, n, cap, rfl, hn⟩
  | _ => cases hx
theorem ShRep.row {S : Nat → Prop} {w : World} {a : Option Addr} {n cap sz : Nat} {rows : List (List SV)} (h : ShRep S w (.slice a n cap) (.sl sz rows)) {i : Nat} {r : List SV} (hr : rows[i]? = some r) :
    ∃ b off, a = some ⟨b, off, none⟩ ∧ S b ∧ r.length = sz ∧ ∀ j x, r[j]? = some x → ∃ y, w.cell? ⟨b, off + i * sz + j, none⟩ = some y ∧ ShRep S w y x := by
  generalize hx : SV.sl sz rows = x at h
  cases h with
  | nil sz' a cap => cases hx; simp at hr
  | sl b off n cap sz' rows' cv hn hc hw hS hcell hrep =>
    cases hx
    refine ⟨b, off, rfl, hS, hw r (List.mem_of_getElem? hr), fun j x hj => ⟨_, ?_, hrep i r j x hr hj⟩⟩
    rw [Nat.add_assoc]; exact hcell i r j x hr hj
  | _ => cases hx

/-- A function marks data of a shape from a number on, so many places. -/
def MarkC (P : Program) (f : FuncId) (x : SV) (c : Nat) : Prop :=
  ∀ (n0 : Nat) (S : Nat → Prop) (w0 : World) (v : Value) (k : Int), ShRep S w0 v x → Soft S w0 → (∀ b, S b → n0 ≤ b) → n0 ≤ w0.heap.size → (∀ w', (∀ b, b < n0 → w'.heap[b]? = w0.heap[b]?) → Lw w') → 0 < k → k + c ≤ 4611686018427387904 →
    Calls P f #[v, .int .i64 k] w0 fun e w' => e = .returned (.int .i64 (k + c)) ∧ Mk S w0 w'
end Go.Proofs.YtahciphhopiipaaGreatDoor.V
