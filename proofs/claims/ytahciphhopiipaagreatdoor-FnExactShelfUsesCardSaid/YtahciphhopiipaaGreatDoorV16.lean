/- Cells: built, made, boxed, loaded, stored. -/
import Derived.Test.YtahciphhopiipaaGreatDoorV15
set_option linter.unusedVariables false
set_option linter.unusedSimpArgs false
namespace Go.Proofs.YtahciphhopiipaaGreatDoor.V
open Go Go.RowKit

/-- What a struct type's table says: where its fields lie, and its zero value's leaves. -/
structure StructTy (P : Program) (t : TypeId) (pl : List (Nat × Nat)) (zl : List Leaf) : Prop where
  und : ∃ fs, P.underlying t = some (.struct fs) ∧ ∀ w, ((fs.mapM fun f => do pure (f.offset, ← sizeOf f.type)) : Sem (Array (Nat × Nat))).run P w = .ok pl.toArray w
  zero : ∃ z, (∀ w, (zeroValue t).run P w = .ok z w) ∧ z.cells.toList.map litLeaf = zl

/-- The parts of a literal. -/
def litParts (σ : St) : List (Nat × Operand) → Option (List (Nat × Part))
  | [] => some []
  | (i, x) :: xs => match opd σ x, litParts σ xs with
    | .one p, some ps => some ((i, p) :: ps)
    | _, _ => none

theorem litParts_rel {E : Env} {g : Nat → Tag} {w : World} {a : Act} {σ : St} (h : Rel E g w a σ) : ∀ {xs : List (Nat × Operand)} {ps : List (Nat × Part)}, litParts σ xs = some ps →
    (xs.map fun q => (q.1, a.eval q.2)).length = ps.length ∧
    ∀ (n : Nat) i p b v, ps[n]? = some (i, p) → (xs.map fun q => (q.1, a.eval q.2))[n]? = some (b, v) → i = b ∧ ∃ k' i', PartRel g w k' i' v p
  | [], ps, e => by cases e; exact ⟨rfl, fun n i p b v h => by simp at h⟩
  | (i, x) :: xs, ps, e => by
    simp only [litParts] at e
    split at e
    · rename_i p ps' e1 e2
      cases e
      obtain ⟨hl, hg⟩ := litParts_rel h e2
      refine ⟨by simpa using hl, fun n i' p' b v h1 h2 => ?_⟩
      cases n with
      | zero =>
        simp at h1 h2
        obtain ⟨rfl, rfl⟩ := h1
        obtain ⟨rfl, rfl⟩ := h2
        have := opd_rel h x
        rw [e1] at this
        exact ⟨rfl, opk x, 0, this⟩
      | succ n => exact hg n i' p' b v (by simpa using h1) (by simpa using h2)
    · cases e

theorem zero_leaves {P : Program} {t : TypeId} {z : Value} {zl : List Leaf} (hz : z.cells.toList.map litLeaf = zl) (g : Nat → Tag) (w : World) (k i : Nat) : LeavesRel g w k i z.cells zl := by
  subst hz
  refine ⟨by simp, fun j l v h1 h2 => ?_⟩
  simp only [List.getElem?_map, Option.map_eq_some_iff, Array.getElem?_toList] at h1
  obtain ⟨v', h3, rfl⟩ := h1
  rw [h2] at h3
  cases h3
  exact litLeaf_rel ..

theorem step_build {P : Program} {E : Env} {o : Oper} {σ : St} (d : Nat) (t : TypeId) (parts : Array (Nat × Operand)) (pl : List (Nat × Nat)) (zl : List Leaf) (ps : List (Nat × Part)) (ls : List Leaf)
    (ho : o.op = .build t parts) (hd : o.dst = some d) (hn : d < E.n) (ht : StructTy P t pl zl) (hp : litParts σ parts.toList = some ps) (hf : fillL (fun (i : Nat) => pl[i]?) zl ps = some ls) (hb : ls.all Leaf.bare = true) :
    Step P E o σ (· = upd σ (tk d) (.agg ls)) := by
  refine Step.of_run fun g w a h => ?_
  obtain ⟨fs, hu, hpl⟩ := ht.und
  obtain ⟨z, hz, hzl⟩ := ht.zero
  obtain ⟨hl, hr⟩ := litParts_rel h hp
  obtain ⟨out, ho2, hro⟩ := fill_rel (k := 0) (i := 0) (fun (i : Nat) => pl[i]?) ps _ z.cells zl ls (zero_leaves (P := P) (t := t) hzl g w 0 0) hl hr hf
  refine ⟨.agg out, w, drop (tk d) g, _, .inl ?_, rfl, ?_⟩
  · have e2 : (parts.map fun q => (q.1, a.eval q.2)).toList = parts.toList.map fun q => (q.1, a.eval q.2) := by simp
    simp only [execOp, ho, Instr.build, Sem.run_bind, hz, Result.andThen_ok, run_underlying hu, hpl]
    have e3 : (fun (i : Nat) => pl.toArray[i]?) = fun (i : Nat) => pl[i]? := by funext i; simp
    rw [e2, e3, ho2]
    rfl
  · rw [hd]
    exact h.set d _ _ hn fun g' hg' => ⟨out, rfl, hro.bare hb hg'⟩

/-- A new cell. -/
theorem Rel.newCell {E : Env} {g : Nat → Tag} {w : World} {a : Act} {σ : St} (h : Rel E g w a σ) (d e : Nat) (cur : Array Value) (ls : List Leaf) (hn : d < E.n) (hl : LeavesRel g w 0 0 cur ls) (hb : ls.all Leaf.bare = true) :
    ∃ g', Rel E g' { w with heap := w.heap.push (.cells cur e (0, 0)) } (a.put (some d) (.pointer (some ⟨w.heap.size, 0, none⟩))) (upd (upd σ (ck d) (.cell w.heap.size ls)) (tk d) (.lf (.ptr w.heap.size 0))) := by
  have hfr : g w.heap.size = .none := h.fresh _ (Nat.le_refl _)
  have r1 := ((h.forget (ck d)).forget (tk d)).alloc (.cells cur e (0, 0))
  have hb0 : drop (tk d) (drop (ck d) g) w.heap.size = .none := drop_of_none (drop_of_none hfr)
  have r2 := r1.tag1 w.heap.size (.own (ck d) 1 0) hb0 (by simp) (.inl h.size) (fun b' k' i' j' e => by
    cases e
    intro e
    exact drop_free (ck d) g _ _ _ (drop_own.1 e).1)
  have r3 := r2.putCell d (.cell w.heap.size ls) (by
    refine ⟨cur, e, tag1_self .., by simp, ?_⟩
    refine ⟨hl.1, fun j l v h1 h2 => ?_⟩
    have := hl.2 j l v h1 h2
    refine (this.bare (g' := V.tag1 (drop (tk d) (drop (ck d) g)) w.heap.size (.own (ck d) 1 0)) (k' := ck d) (i' := 0) (j' := j) (List.all_eq_true.1 hb l (List.mem_of_getElem? h1)) (fun sh b hI => Imm.tag1 hb0 (drop_Imm.2 (drop_Imm.2 hI)))).to (fun sh b hI => ⟨hI, ?_⟩) (fun b hO => ⟨hO, ?_⟩)
    · have : b < w.heap.size := by
        apply Classical.byContradiction; intro hge
        have e1 : V.tag1 (drop (tk d) (drop (ck d) g)) w.heap.size (.own (ck d) 1 0) b = .none ∨ b = w.heap.size := by
          by_cases e : b = w.heap.size
          · exact .inr e
          · left; rw [tag1_ne _ _ e]; exact drop_of_none (drop_of_none (h.fresh b (by omega)))
        rcases e1 with e1 | rfl
        · rcases hI with hI | ⟨_, hI⟩ <;> rw [e1] at hI <;> cases hI
        · rcases hI with hI | ⟨_, hI⟩ <;> rw [tag1_self] at hI <;> cases hI
      simp [Array.getElem?_push, Nat.ne_of_lt this]
    · by_cases e : b = w.heap.size
      · subst e; rw [tag1_self] at hO; cases hO
      · have : b < w.heap.size := by
          apply Classical.byContradiction; intro hge
          rw [tag1_ne _ _ e, drop_of_none (drop_of_none (h.fresh b (by omega)))] at hO; cases hO
        simp [Array.getElem?_push, Nat.ne_of_lt this])
  rw [upd_comm _ _ _ (tk_ck d d), upd_upd] at r3
  have r4 := (r3.act d (.pointer (some ⟨w.heap.size, 0, none⟩)) (upd_same ..)).putSlot d (.lf (.ptr w.heap.size 0)) (by
    rw [act_put_eq (by rw [h.many]; exact hn)]; rfl)
  rw [upd_upd] at r4
  exact ⟨_, r4⟩

theorem step_alloc {P : Program} {E : Env} {o : Oper} {σ : St} (d : Nat) (e : TypeId) (zl : List Leaf) (ho : o.op = .alloc e) (hd : o.dst = some d) (hn : d < E.n)
    (hz : ∃ z, (∀ w, (zeroValue e).run P w = .ok z w) ∧ z.cells.toList.map litLeaf = zl) (hb : zl.all Leaf.bare = true) :
    Step P E o σ fun τ => ∃ b, τ = upd (upd σ (ck d) (.cell b zl)) (tk d) (.lf (.ptr b 0)) := by
  refine Step.of_run fun g w a h => ?_
  obtain ⟨z, hz, hzl⟩ := hz
  obtain ⟨g', hr⟩ := h.newCell d e z.cells zl hn (zero_leaves (P := P) (t := e) hzl g w 0 0) hb
  refine ⟨_, _, g', _, .inl ?_, ⟨_, rfl⟩, by rw [hd]; exact hr⟩
  simp only [execOp, ho, Instr.alloc, Sem.run_bind, hz, Result.andThen_ok, newVar, newRow, run_newObj]
  rfl

theorem step_box {P : Program} {E : Env} {o : Oper} {σ : St} (d : Nat) (e : TypeId) (x : Operand) (p : Part) (ho : o.op = .box e x) (hd : o.dst = some d) (hn : d < E.n)
    (hx : opd σ x = .one p) (hb : p.leaves.all Leaf.bare = true) (ht : p.told = true) :
    Step P E o σ fun τ => ∃ b, τ = upd (upd σ (ck d) (.cell b p.leaves)) (tk d) (.lf (.ptr b 0)) := by
  refine Step.of_run fun g w a h => ?_
  have hr := opd_rel h x
  rw [hx] at hr
  have hp : PartRel g w (opk x) 0 (a.eval x) p := hr
  have hcells := hp.cells hb (fun l e => by subst e; exact LeafRel.oneCell (l := l) hp ht)
  obtain ⟨g', hr⟩ := h.newCell d e (a.eval x).cells p.leaves hn (hcells.bare hb fun _ _ h => h) hb
  refine ⟨_, _, g', _, .inl ?_, ⟨_, rfl⟩, by rw [hd]; exact hr⟩
  simp only [execOp, ho, Instr.box, Sem.run_bind, newVar, newRow, run_newObj]
  rfl

theorem step_field_ptr {P : Program} {E : Env} {o : Oper} {σ : St} (d : Nat) (t : TypeId) (fs : Array Field) (f : Field) (j sz b off : Nat) (x : Operand)
    (ho : o.op = .fieldAddr t x j) (hd : o.dst = some d) (hn : d < E.n) (ht : P.underlying t = some (.struct fs)) (hf : fs[j]? = some f) (hz : (P.info? f.type).map (·.size) = some sz) (hsz : 0 < sz)
    (hx : opd σ x = .lf (.ptr b off)) : Step P E o σ (· = upd σ (tk d) (.lf (.ptr b (off + f.offset)))) := by
  refine Step.of_run fun g w a h => ⟨.pointer (some ⟨b, off + f.offset, none⟩), w, drop (tk d) g, _, .inl ?_, rfl, ?_⟩
  · simp only [execOp, ho, opd_ptr h hx]
    simp [Instr.fieldAt, run_underlying ht, hf, Instr.sureAddr, fieldPlace, run_sizeOf hz, Nat.ne_of_gt hsz, Addr.add_flat]
  · rw [hd]
    exact h.set d _ _ hn fun g' hg' => rfl

/-- A cell's leaves are loaded. -/
theorem step_load_cell {P : Program} {E : Env} {o : Oper} {σ : St} (d c : Nat) (t : TypeId) (sz : Nat) (agg : Bool) (x : Operand) (b off : Nat) (ls : List Leaf)
    (ho : o.op = .load t x) (hd : o.dst = some d) (hn : d < E.n) (ht : Ty P t sz agg) (h1 : agg = false → sz = 1) (hx : opd σ x = .lf (.ptr b off)) (hc : σ (ck c) = .cell b ls) (hl : off + sz ≤ ls.length)
    (hb : ((ls.drop off).take sz).all Leaf.bare = true) : Step P E o σ (· = upd σ (tk d) (.one (partOf agg ((ls.drop off).take sz)))) := by
  refine Step.of_run fun g w a h => ?_
  have hcell := h.cell c
  rw [hc] at hcell
  obtain ⟨cur, e, hg, hh, hls⟩ := hcell
  have hvl : ((cur.toList.drop off).take sz).length = sz := by
    rw [List.length_take, List.length_drop, Array.length_toList, hls.1]; omega
  have hget : ∀ (j : Nat) y, ((cur.toList.drop off).take sz)[j]? = some y → j < sz ∧ cur[off + j]? = some y := by
    intro j y hj
    rw [List.getElem?_take] at hj
    split at hj
    · rename_i hlt
      rw [List.getElem?_drop, Array.getElem?_toList] at hj
      exact ⟨hlt, hj⟩
    · cases hj
  have hrun := run_loadVar (P := P) (w := w) ht b off ((cur.toList.drop off).take sz) hvl h1 (fun j y hj => by
    obtain ⟨_, hy⟩ := hget j y hj
    simp [World.cell?, hh, hy])
  have hrel : ∀ (j : Nat) l v, ((ls.drop off).take sz)[j]? = some l → ((cur.toList.drop off).take sz)[j]? = some v → LeafRel g w (ck c) 0 (off + j) v l := by
    intro j l v h2 h3
    obtain ⟨hlt, hv⟩ := hget j v h3
    rw [List.getElem?_take, if_pos hlt, List.getElem?_drop] at h2
    exact hls.2 _ l v h2 hv
  refine ⟨if agg then .agg ((cur.toList.drop off).take sz).toArray else ((cur.toList.drop off).take sz).headD undef, w, drop (tk d) g, _, .inl ?_, rfl, ?_⟩
  · simp only [execOp, ho, opd_ptr h hx, Instr.loadAt, Instr.sureAddr, Sem.run_bind, Sem.run_pure, Result.andThen_ok, hrun]
  · rw [hd]
    refine h.set d _ _ hn fun g' hg' => ?_
    cases agg with
    | true =>
      refine ⟨_, rfl, by rw [List.size_toArray, hvl]; simp; omega, fun j l v h2 h3 => ?_⟩
      exact (hrel j l v h2 (by simpa using h3)).bare (List.all_eq_true.1 hb l (List.mem_of_getElem? h2)) hg'
    | false =>
      have hsz := h1 rfl
      subst hsz
      have hll : ((ls.drop off).take 1).length = 1 := by rw [List.length_take, List.length_drop]; omega
      obtain ⟨l, e1⟩ := List.length_eq_one_iff.1 hll
      obtain ⟨v, e2⟩ := List.length_eq_one_iff.1 hvl
      have := hrel 0 l v (by rw [e1]; rfl) (by rw [e2]; rfl)
      rw [e1, e2]
      rw [e1] at hb
      exact this.bare (by simpa using hb) hg'

theorem run_storeVar {P : Program} {w : World} {t : TypeId} {sz : Nat} (ht : (P.info? t).map (·.size) = some sz) (b off e : Nat) (cur : Array Value) (v : Value) (hh : w.heap[b]? = some (.cells cur e (0, 0)))
    (hs : v.cells.size = sz) (hfit : off + sz ≤ cur.size) (h1 : ∀ u ∈ v.cells.toList, u.oneCell' = true) :
    (storeVar t ⟨b, off, none⟩ v).run P w = .ok () (w.setRow b (cur.toList.take off ++ v.cells.toList ++ cur.toList.drop (off + sz)).toArray) := by
  have hst := run_storeCells_at P b off e v.cells.toList 0 cur w hh (by rw [Array.length_toList, hs]; omega) h1
  simp only [Nat.add_zero, Array.length_toList, hs] at hst
  simp only [storeVar, Sem.run_bind, run_sizeOf ht, Result.andThen_ok]
  rw [if_neg (by omega)]
  simpa using hst

/-- The leaves of a row behind a store. -/
theorem LeavesRel.row {g : Nat → Tag} {w : World} {k i : Nat} {cur cs : Array Value} {ls new : List Leaf} {off : Nat} (h : LeavesRel g w k i cur ls) (hn : cs.size = new.length)
    (hr : ∀ (j : Nat) l v, new[j]? = some l → cs[j]? = some v → LeafRel g w k i (off + j) v l) (hfit : off + new.length ≤ ls.length) :
    LeavesRel g w k i (cur.toList.take off ++ cs.toList ++ cur.toList.drop (off + new.length)).toArray (V.splice ls off new) := by
  have hsz := h.1
  refine ⟨by rw [splice_length hfit]; simp; omega, fun j l v hl hv => ?_⟩
  rw [splice_get hfit] at hl
  rw [List.getElem?_toArray] at hv
  have ht : (cur.toList.take off).length = off := by rw [List.length_take, Array.length_toList]; omega
  by_cases h3 : j < off
  · rw [if_pos h3] at hl
    rw [List.append_assoc, List.getElem?_append_left (by omega), List.getElem?_take, if_pos h3, Array.getElem?_toList] at hv
    exact h.2 j l v hl hv
  · rw [if_neg h3] at hl
    by_cases h4 : j < off + new.length
    · rw [if_pos h4] at hl
      rw [List.append_assoc, List.getElem?_append_right (by omega), List.getElem?_append_left (by rw [ht, Array.length_toList]; omega), ht, Array.getElem?_toList] at hv
      have := hr (j - off) l v hl hv
      rwa [show off + (j - off) = j from by omega] at this
    · rw [if_neg h4] at hl
      rw [List.getElem?_append_right (by rw [List.length_append, ht, Array.length_toList]; omega), List.getElem?_drop, List.length_append, ht, Array.length_toList (xs := cs), hn, show off + new.length + (j - (off + new.length)) = j from by omega, Array.getElem?_toList] at hv
      exact h.2 j l v hl hv

/-- A cell's leaves are stored. -/
theorem step_store_cell {P : Program} {E : Env} {o : Oper} {σ : St} (c : Nat) (t : TypeId) (sz : Nat) (x y : Operand) (b off : Nat) (ls : List Leaf) (p : Part)
    (ho : o.op = .store t x y) (hd : o.dst = none) (ht : (P.info? t).map (·.size) = some sz) (hx : opd σ x = .lf (.ptr b off)) (hc : σ (ck c) = .cell b ls) (hy : opd σ y = .one p)
    (hp : p.leaves.length = sz) (hb : p.leaves.all Leaf.bare = true) (htold : p.told = true) (hl : off + sz ≤ ls.length) : Step P E o σ (· = upd σ (ck c) (.cell b (splice ls off p.leaves))) := by
  refine Step.of_run fun g w a h => ?_
  have hcell := h.cell c
  rw [hc] at hcell
  obtain ⟨cur, e, hg, hh, hls⟩ := hcell
  have hr := opd_rel h y
  rw [hy] at hr
  have hpr : PartRel g w (opk y) 0 (a.eval y) p := hr
  have hcells := hpr.cells hb (fun l e => by subst e; exact LeafRel.oneCell (l := l) hpr htold)
  have hone : ∀ u ∈ (a.eval y).cells.toList, u.oneCell' = true := by
    intro u hu
    obtain ⟨j, hj⟩ := List.mem_iff_getElem?.1 hu
    have hj' : (a.eval y).cells[j]? = some u := by simpa using hj
    have hlt : j < p.leaves.length := by rw [← hcells.1]; exact (Array.getElem?_eq_some_iff.1 hj').1
    have hl' := hcells.2 j p.leaves[j] u (List.getElem?_eq_getElem hlt) hj'
    refine hl'.oneCell ?_
    cases p with
    | lf l =>
      have : j = 0 := by simp [Part.leaves] at hlt; exact hlt
      subst this; exact htold
    | agg ls' => exact List.all_eq_true.1 htold _ (List.getElem_mem hlt)
  have hsz : (a.eval y).cells.size = sz := hcells.1.trans hp
  have hrun := run_storeVar (P := P) (w := w) ht b off e cur (a.eval y) hh hsz (by rw [hls.1]; exact hl) hone
  have hnew := hls.row (off := off) (cs := (a.eval y).cells) (new := p.leaves) hcells.1 (fun j l v h1 h2 => (hcells.2 j l v h1 h2).bare (List.all_eq_true.1 hb l (List.mem_of_getElem? h1)) fun _ _ h => h) (by omega)
  rw [hp] at hnew
  -- memory turns at the cell's own block alone
  have hlt : b < w.heap.size := (Array.getElem?_eq_some_iff.1 hh).1
  have himm : ∀ sh q, Imm g sh q → Imm g sh q ∧ (w.setRow b (cur.toList.take off ++ (a.eval y).cells.toList ++ cur.toList.drop (off + sz)).toArray).heap[q]? = w.heap[q]? := fun sh q hq =>
    ⟨hq, setRow_other _ _ _ _ fun e0 => by subst e0; rcases hq with e1 | ⟨_, e1⟩ <;> rw [hg] at e1 <;> cases e1⟩
  have hown : ∀ k i j q, g q = .own k i j → (k, i, j) ≠ (ck c, 1, 0) → g q = .own k i j ∧ (w.setRow b (cur.toList.take off ++ (a.eval y).cells.toList ++ cur.toList.drop (off + sz)).toArray).heap[q]? = w.heap[q]? := fun k i j q hq hne =>
    ⟨hq, setRow_other _ _ _ _ fun e0 => by subst e0; rw [hg] at hq; cases hq; exact hne rfl⟩
  refine ⟨undef, w.setRow b (cur.toList.take off ++ (a.eval y).cells.toList ++ cur.toList.drop (off + sz)).toArray, g, _, .inr ⟨?_, rfl⟩, rfl, ?_⟩
  · simp only [execOp, ho, opd_ptr h hx, Instr.storeAt, Instr.sureAddr, Sem.run_bind, Sem.run_pure, Result.andThen_ok, hrun]
  · rw [hd]
    have hsame : ∀ x, x ≠ b → (w.setRow b (cur.toList.take off ++ (a.eval y).cells.toList ++ cur.toList.drop (off + sz)).toArray).heap[x]? = w.heap[x]? := fun x hx => setRow_other _ _ _ _ hx
    exact
      { defers := h.defers
        os := h.os
        tape := h.tape
        output := h.output
        size := by simpa [World.setRow] using h.size
        old := fun x hx hm => by
          rw [hsame x ?_]
          · exact h.old x hx hm
          · intro e; subst e
            rcases h.mine x _ _ _ hg with e | e
            · omega
            · exact hm e
        many := h.many
        slot := fun t' => by
          simp only [upd]; rw [if_neg (tk_ck _ _)]
          refine (h.slot t').to (himm) fun x i j hx => hown _ i j x hx ?_
          intro e
          exact tk_ck _ _ (congrArg Prod.fst e)
        cell := fun t' => by
          by_cases e : ck t' = ck c
          · simp only [upd]; rw [if_pos e]
            have e' := ck_inj e
            subst e'
            refine ⟨_, _, hg, setRow_heap w b cur _ _ _ hh, ?_⟩
            exact hnew.to himm fun x j hx => hown _ 0 j x hx (by intro e; cases e)
          · simp only [upd]; rw [if_neg e]
            refine (h.cell t').to himm fun x i j hx => hown _ i j x hx ?_
            intro e2
            exact e (congrArg Prod.fst e2)
        fresh := fun x hx => h.fresh x (by simpa [World.setRow] using hx)
        mine := h.mine
        uniq := h.uniq
        elder := h.elder
        soft := fun x hx e => (h.soft x hx e).to (hsame x (fun e0 => by subst e0; rw [hg] at e; cases e)) }
end Go.Proofs.YtahciphhopiipaaGreatDoor.V
