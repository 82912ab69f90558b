/- Owned slices: made, written out, indexed, stored into; nil; cuts; tuples. -/
import Derived.Test.YtahciphhopiipaaGreatDoorV16
set_option linter.unusedVariables false
set_option linter.unusedSimpArgs false
namespace Go.Proofs.YtahciphhopiipaaGreatDoor.V
open Go Go.RowKit

def LeafIs : Leaf → SV → Prop
  | .im true v, x => v = x
  | .nil, .sl _ [] => True
  | _, _ => False

def LeavesIs : List Leaf → List SV → Prop
  | [], [] => True
  | l :: ls, x :: xs => LeafIs l x ∧ LeavesIs ls xs
  | _, _ => False

theorem LeafIs.rel {g : Nat → Tag} {w : World} {k i j : Nat} {v : Value} {l : Leaf} {x : SV} (h : LeafRel g w k i j v l) (hx : LeafIs l x) : SRep (Imm g true) w v x := by
  cases l with
  | im sh y =>
    cases sh with
    | true => have e : y = x := hx; subst e; exact h
    | false => exact hx.elim
  | nil =>
    have e : v = .slice none 0 0 := h
    subst e
    cases x with
    | sl sz rows =>
      cases rows with
      | nil => exact .nil _ _ _
      | cons r rs => exact hx.elim
    | _ => exact hx.elim
  | _ => exact hx.elim

theorem LeavesIs.get : ∀ {ls : List Leaf} {xs : List SV}, LeavesIs ls xs → ls.length = xs.length ∧ ∀ {j : Nat} {x : SV}, xs[j]? = some x → ∃ l, ls[j]? = some l ∧ LeafIs l x
  | [], [], _ => ⟨rfl, fun h => by simp at h⟩
  | l :: ls, x :: xs, h => by
    obtain ⟨h1, h2⟩ := LeavesIs.get h.2
    refine ⟨by simp [h1], fun {j x'} hj => ?_⟩
    cases j with
    | zero => simp at hj; subst hj; exact ⟨l, rfl, h.1⟩
    | succ j => exact h2 (by simpa using hj)
  | [], _ :: _, h => h.elim
  | _ :: _, [], h => h.elim

theorem flatten_get {sz : Nat} : ∀ {rows : List (List SV)}, (∀ r ∈ rows, r.length = sz) → ∀ {i j : Nat} {r : List SV} {x : SV}, rows[i]? = some r → r[j]? = some x → rows.flatten[i * sz + j]? = some x
  | [], _, i, j, r, x, h, _ => by simp at h
  | r0 :: rows, hw, i, j, r, x, h1, h2 => by
    have h0 := hw r0 (by simp)
    cases i with
    | zero =>
      simp at h1; subst h1
      have hj := (List.getElem?_eq_some_iff.1 h2).1
      simp only [List.flatten_cons, Nat.zero_mul, Nat.zero_add]
      rw [List.getElem?_append_left hj]; exact h2
    | succ i =>
      have := flatten_get (rows := rows) (fun r hr => hw r (by simp [hr])) (by simpa using h1) h2
      simp only [List.flatten_cons]
      rw [List.getElem?_append_right (by rw [h0, Nat.succ_mul]; omega), h0, Nat.succ_mul, show i * sz + sz + j - sz = i * sz + j from by omega]
      exact this

theorem flatten_length {sz : Nat} : ∀ {rows : List (List SV)}, (∀ r ∈ rows, r.length = sz) → rows.flatten.length = rows.length * sz
  | [], _ => by simp
  | r :: rows, h => by
    have := flatten_length (rows := rows) (fun r hr => h r (by simp [hr]))
    simp only [List.flatten_cons, List.length_append, List.length_cons, this, h r (by simp), Nat.succ_mul]; omega

theorem RowsIn.of_flat {g : Nat → Tag} {w : World} {k i : Nat} {cur : Array Value} {ls : List Leaf} {sz : Nat} {rows : List (List SV)} (h : LeavesRel g w k i cur ls) (hw : ∀ r ∈ rows, r.length = sz) (hl : LeavesIs ls rows.flatten) : RowsIn g w cur sz rows := by
  refine ⟨hw, fun i r j x h1 h2 => ?_⟩
  obtain ⟨e1, e2⟩ := hl.get
  obtain ⟨l, hl1, hl2⟩ := e2 (flatten_get hw h1 h2)
  have hlt : i * sz + j < cur.size := by rw [h.1]; exact (List.getElem?_eq_some_iff.1 hl1).1
  exact ⟨_, Array.getElem?_eq_getElem hlt, (LeafIs.rel (h.2 _ l _ hl1 (Array.getElem?_eq_getElem hlt)) hl2)⟩

/-- A slice written out. -/
theorem step_buildSlice {P : Program} {E : Env} {o : Oper} {σ : St} (d : Nat) (t e sz bytes n : Nat) (parts : Array (Nat × Operand)) (ps : List (Nat × Part)) (ls : List Leaf) (rows : List (List SV))
    (ho : o.op = .buildSlice t n parts) (hd : o.dst = some d) (hn : d < E.n) (he : Elem P t e sz bytes) (hsmall : n * sz ≤ 2 ^ 24) (hp : litParts σ parts.toList = some ps)
    (hf : fillL (fun i => some (i * sz, sz)) (List.replicate (n * sz) .hole) ps = some ls) (hw : ∀ r ∈ rows, r.length = sz) (hr : LeavesIs ls rows.flatten) (hl : rows.length = n) :
    Step P E o σ fun τ => ∃ b, τ = upd σ (tk d) (.lf (.u b n e sz rows)) := by
  refine Step.of_run fun g w a h => ?_
  obtain ⟨i, z, hi, hz, hsz, hby, hzs⟩ := he.ok
  obtain ⟨hpl, hpr⟩ := litParts_rel h hp
  have hz2 : (zeroValue e).run P w = .ok z w := by simp [zeroValue, typeInfo, hi, hz]
  obtain ⟨zero, hzero⟩ : ∃ zero : Array Value, zero = if n * sz = 0 then #[] else z.cells := ⟨_, rfl⟩
  have hinit : LeavesRel g w 0 0 ((Array.range (n * sz)).map (zero[· % zero.size]!)) (List.replicate (n * sz) .hole) := by
    refine ⟨by simp, fun j l v h1 h2 => ?_⟩
    rw [List.getElem?_replicate] at h1
    split at h1
    · cases h1; trivial
    · cases h1
  obtain ⟨out, ho2, hro⟩ := fill_rel (k := 0) (i := 0) (fun i => some (i * sz, sz)) ps _ _ _ ls hinit hpl hpr hf
  have hflat := hro
  have hmax : n ≤ maxLen := by
    have hpos := he.pos
    have : n ≤ n * sz := Nat.le_mul_of_pos_right _ hpos
    unfold maxLen; omega
  have hosz : out.size = n * sz := by rw [hro.1, (LeavesIs.get hr).1, flatten_length hw, hl]
  obtain ⟨g', hrel⟩ := h.newU d n e sz rows out hn (by omega) hmax hosz (RowsIn.of_flat hro hw hr)
  rw [hl] at hrel
  refine ⟨_, _, g', _, .inl ?_, ⟨_, rfl⟩, by rw [hd]; exact hrel⟩
  have e2 : (parts.map fun q => (q.1, a.eval q.2)).toList = parts.toList.map fun q => (q.1, a.eval q.2) := by simp
  have hsz2 : (P.info? e).map (·.size) = some sz := by rw [hi]; simp [hsz]
  simp only [execOp, ho, Instr.buildSlice, Sem.run_bind, run_underlying he.und, Result.andThen_ok, run_sizeOf hsz2]
  rw [if_neg (by omega)]
  by_cases h0 : n * sz = 0
  · rw [if_pos h0] at hzero
    subst hzero
    rw [if_pos h0]
    simp only [Sem.run_bind, Sem.run_pure, Result.andThen_ok, e2, ho2, newRow, run_newObj]
  · rw [if_neg h0] at hzero
    subst hzero
    rw [if_neg h0]
    simp only [Sem.run_bind, Sem.run_pure, Result.andThen_ok, hz2, e2, ho2, newRow, run_newObj]

/-- 'make'. -/
theorem step_makeSlice {P : Program} {E : Env} {o : Oper} {σ : St} (d : Nat) (t e sz bytes : Nat) (x y : Operand) (n : Nat) (zs : List SV) {s1 s2 : Bool}
    (ho : o.op = .makeSlice t x y) (hd : o.dst = some d) (hn : d < E.n) (he : Elem P t e sz bytes) (hz : Zero P e sz zs) (hx : opd σ x = .lf (.im s1 (.int .i64 (n : Int)))) (hy : opd σ y = .lf (.im s2 (.int .i64 (n : Int))))
    (hbytes : bytes * n ≤ 281474976710656) (hmax : n ≤ maxLen) : Step P E o σ fun τ => ∃ b, τ = upd σ (tk d) (.lf (.u b n e sz (List.replicate n zs))) := by
  refine Step.of_run fun g w a h => ?_
  obtain ⟨i, z, hi, hzz, hsz, hby, hzs⟩ := he.ok
  obtain ⟨i', z', hi', hzz', hsz', hzs', hlen, hzero⟩ := hz.ok
  rw [hi] at hi'
  cases hi'
  rw [hzz] at hzz'
  cases hzz'
  obtain ⟨w', hrun, hown, hgrow⟩ := run_make_full w 0 t e i z sz he.und hi hzz hsz .i64 .i64 n (by rw [hby]; exact hbytes) hmax (Nat.zero_le _)
  obtain ⟨hl, hform⟩ := hown
  rcases hform with ⟨e1, _⟩ | ⟨b, c, cur, hv, _, hh, hc, hmx, hcs, htk⟩
  · cases e1
  · simp only [Value.slice.injEq, Option.some.injEq, Addr.mk.injEq, and_true] at hv
    obtain ⟨hb, hcn⟩ : b = w.heap.size ∧ c = n := by
      refine ⟨?_, ?_⟩
      · exact hv.1.symm
      · exact hv.2.symm.1.symm
    subst hb
    subst hcn
    have hfr : g w.heap.size = .none := h.fresh _ (Nat.le_refl _)
    have r1 := (h.forget (tk d)).world hgrow.os hgrow.tape hgrow.output hgrow.size fun b0 hb0 => .inl (hgrow.block b0 hb0 (by intro e; cases e))
    have hb0 : drop (tk d) g w.heap.size = .none := drop_of_none hfr
    have hlt' : w.heap.size < w'.heap.size := (Array.getElem?_eq_some_iff.1 hh).1
    have r2 := r1.tag1 w.heap.size (.own (tk d) 0 0) hb0 hlt' (.inl h.size) (fun b' k' i' j' e => by cases e; exact drop_free _ _ _ _ _)
    have hcurlen : cur.toList.take (c * sz) = cur.toList := List.take_of_length_le (by rw [Array.length_toList, hcs]; exact Nat.le_refl _)
    have hcur : cur.toList = (madeCells z.cells (c * sz)).toList := by rw [← hcurlen, htk]
    have hrows : RowsIn (tag1 (drop (tk d) g) w.heap.size (.own (tk d) 0 0)) w' cur sz (List.replicate c zs) := by
      refine ⟨fun r hr => by rw [List.eq_of_mem_replicate hr]; exact hlen, fun i0 r j x h1 h2 => ?_⟩
      have hi0 : i0 < c := by
        have := (List.getElem?_eq_some_iff.1 h1).1; simpa using this
      have hr : r = zs := by
        rw [List.getElem?_replicate] at h1
        rw [if_pos hi0] at h1
        exact (Option.some.inj h1).symm
      subst hr
      have hj : j < sz := by have := (List.getElem?_eq_some_iff.1 h2).1; omega
      have hlt := mul_add_lt hi0 hj
      have hmod : (i0 * sz + j) % sz = j := by rw [Nat.mul_add_mod', Nat.mod_eq_of_lt hj]
      have hzj : j < z.cells.size := by omega
      refine ⟨z.cells[j], ?_, zeroIs_rel (hzero j _ x (Array.getElem?_eq_getElem hzj) h2)⟩
      rw [← Array.getElem?_toList, hcur, Array.getElem?_toList]
      simp only [madeCells, Array.getElem?_map, Array.getElem?_range, hlt, if_true, Option.map_some, hzs, hmod]
      congr 1
      simp [getElem!_pos, hzj]
    have r3 := (r2.act d (.slice (some ⟨w.heap.size, 0, none⟩) c c) (upd_same ..)).putSlot d (.lf (.u w.heap.size c e sz (List.replicate c zs))) (by
      rw [act_put_eq (by rw [h.many]; exact hn)]
      refine ⟨by simp, tag1_self .., by simp, hmx, cur, hh, hcs, hrows⟩)
    rw [upd_upd] at r3
    refine ⟨_, w', _, _, .inl ?_, ⟨_, rfl⟩, by rw [hd]; exact r3⟩
    simp only [execOp, ho, opd_int h hx, opd_int h hy, Sem.run_bind, hrun]
    rfl

/-- The address of an element of an owned slice. -/
theorem step_indexAddr_u {P : Program} {E : Env} {o : Oper} {σ : St} (d : Nat) (t e sz : Nat) (x y : Operand) (b n c : Nat) (k : IntKind) (i : Int) {s2 : Bool}
    (ho : o.op = .indexAddr t x y) (hd : o.dst = some d) (hn : d < E.n) (ht : P.underlying t = some (.slice e)) (hz : (P.info? e).map (·.size) = some sz)
    (hx : opd σ x = .lf (.hd b n c)) (hy : opd σ y = .lf (.im s2 (.int k i))) (h0 : 0 ≤ i) (hlt : i < (n : Int)) : Step P E o σ (· = upd σ (tk d) (.lf (.ptr b (i.toNat * sz)))) := by
  refine Step.of_run fun g w a h => ⟨.pointer (some ⟨b, i.toNat * sz, none⟩), w, drop (tk d) g, _, .inl ?_, rfl, ?_⟩
  · simp only [execOp, ho, opd_hd h hx, opd_int h hy]
    simp [Instr.indexAt, asIntOf, run_underlying ht, h0, hlt, run_sizeOf hz, Addr.add_flat]
  · rw [hd]
    exact h.set d _ _ hn fun g' hg' => rfl

/-- A component of a tuple that owns nothing. -/
theorem step_extract {P : Program} {E : Env} {o : Oper} {σ : St} (d : Nat) (x : Operand) (i : Nat) (ps : List Part) (p : Part) (ho : o.op = .extract x i) (hd : o.dst = some d) (hn : d < E.n)
    (hx : opd σ x = .tup ps) (hp : ps[i]? = some p) (hb : p.bare = true) : Step P E o σ (· = upd σ (tk d) (.one p)) := by
  refine Step.of_run fun g w a h => ?_
  have hr := opd_rel h x
  rw [hx] at hr
  obtain ⟨vs, hv, hsz, hrel⟩ := hr
  have hlt : i < vs.size := by rw [hsz]; exact (List.getElem?_eq_some_iff.1 hp).1
  have hpi := hrel i p vs[i] hp (Array.getElem?_eq_getElem hlt)
  refine ⟨vs[i], w, drop (tk d) g, _, .inl ?_, rfl, ?_⟩
  · simp [execOp, ho, hv, Instr.extract, hlt]
  · rw [hd]
    exact h.set d _ _ hn fun g' hg' => hpi.bare hb hg'

theorem step_nilCheck_ptr {P : Program} {E : Env} {o : Oper} {σ : St} (d b off : Nat) (x : Operand) (ho : o.op = .nilCheck x) (hd : o.dst = some d) (hn : d < E.n) (hx : opd σ x = .lf (.ptr b off)) : Step P E o σ (· = upd σ (tk d) (.lf (.ptr b off))) := by
  refine Step.of_run fun g w a h => ⟨.pointer (some ⟨b, off, none⟩), w, drop (tk d) g, _, .inl ?_, rfl, ?_⟩
  · simp [execOp, ho, opd_ptr h hx]
  · rw [hd]
    exact h.set d _ _ hn fun g' hg' => rfl

theorem step_nilCheck_sref {P : Program} {E : Env} {o : Oper} {σ : St} (d : Nat) (sh : Bool) (r : List SV) (x : Operand) (ho : o.op = .nilCheck x) (hd : o.dst = some d) (hn : d < E.n) (hx : opd σ x = .lf (.sref sh r)) : Step P E o σ (· = upd σ (tk d) (.lf (.sref sh r))) := by
  refine Step.of_run fun g w a h => ?_
  have hr := opd_rel h x
  rw [hx] at hr
  have hr' : LeafRel g w (opk x) 0 0 (a.eval x) (.sref sh r) := hr
  refine ⟨a.eval x, w, drop (tk d) g, _, .inl ?_, rfl, ?_⟩
  · obtain ⟨b, off, e1, _⟩ := hr'
    simp [execOp, ho, e1]
  · rw [hd]
    exact h.set d _ _ hn fun g' hg' => LeafRel.bare (k' := tk d) (i' := 0) (j' := 0) hr' rfl hg'
end Go.Proofs.YtahciphhopiipaaGreatDoor.V
