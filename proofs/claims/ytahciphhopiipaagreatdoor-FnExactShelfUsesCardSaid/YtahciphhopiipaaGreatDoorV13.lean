/- Owned slices: aliases, moves, making, storing. Cells: making, fields, loads, stores. -/
import Derived.Test.YtahciphhopiipaaGreatDoorV12
import Derived.Laws.Rows
set_option linter.unusedVariables false
set_option linter.unusedSimpArgs false
namespace Go.Proofs.YtahciphhopiipaaGreatDoor.V
open Go Go.RowKit

theorem opd_hd {E : Env} {g : Nat → Tag} {w : World} {a : Act} {σ : St} (h : Rel E g w a σ) {x : Operand} {b n c : Nat} (hx : opd σ x = .lf (.hd b n c)) : a.eval x = .slice (some ⟨b, 0, none⟩) n c := by
  have := opd_rel h x; rw [hx] at this; exact this
theorem opd_ptr {E : Env} {g : Nat → Tag} {w : World} {a : Act} {σ : St} (h : Rel E g w a σ) {x : Operand} {b off : Nat} (hx : opd σ x = .lf (.ptr b off)) : a.eval x = .pointer (some ⟨b, off, none⟩) := by
  have := opd_rel h x; rw [hx] at this; exact this
theorem opd_nil {E : Env} {g : Nat → Tag} {w : World} {a : Act} {σ : St} (h : Rel E g w a σ) {x : Operand} (hx : opd σ x = .lf .nil) : a.eval x = .slice none 0 0 := by
  have := opd_rel h x; rw [hx] at this; exact this

/-- A variable that owns a slice is read: a header. -/
theorem step_alias {P : Program} {E : Env} {o : Oper} {σ : St} (d t b c e sz : Nat) (rows : List (List SV)) (ho : o.op = .move (.tmp t) ∨ o.op = .assign (.tmp t)) (hd : o.dst = some d) (hn : d < E.n) (hx : σ (tk t) = .lf (.u b c e sz rows)) :
    Step P E o σ (· = upd σ (tk d) (.lf (.hd b rows.length c))) := by
  refine Step.of_run fun g w a h => ⟨a.eval (.tmp t), w, drop (tk d) g, _, .inl ?_, rfl, ?_⟩
  · rcases ho with ho | ho <;> simp [execOp, ho]
  · rw [hd]
    refine h.set d _ _ hn fun g' hg' => ?_
    have := h.slot t
    rw [hx] at this
    exact this.1

/-- The owned slice of one place goes to a temporary. -/
theorem Rel.moveU {E : Env} {g : Nat → Tag} {w : World} {a : Act} {σ : St} (h : Rel E g w a σ) (d k i j b c e sz : Nat) (rows : List (List SV)) (v : Value) (hn : d < E.n) (hk : σ k ≠ Slot.hole ∨ True)
    (hl : LeafRel g w k i j v (.u b c e sz rows)) : ∃ g', Rel E g' w (a.put (some d) v) (upd (upd σ k Slot.hole) (tk d) (.lf (.u b c e sz rows))) := by
  obtain ⟨hv, hg, hc, hm, cur, hh, hs, hr⟩ := hl
  have hlt : b < w.heap.size := (Array.getElem?_eq_some_iff.1 hh).1
  have r1 := (h.forget k).forget (tk d)
  have hb1 : drop k g b = .none := drop_none hg
  have hb2 : drop (tk d) (drop k g) b = .none := drop_of_none hb1
  have r2 := r1.tag1 b (.own (tk d) 0 0) hb2 hlt (h.mine b k i j hg) (fun b' k' i' j' e => by cases e; exact drop_free _ _ _ _ _)
  have r3 := (r2.act d v (upd_same ..)).putSlot d (.lf (.u b c e sz rows)) (by
    rw [act_put_eq (by rw [h.many]; exact hn)]
    refine ⟨hv, tag1_self .., hc, hm, cur, hh, hs, hr.to fun sh b' hb' => ⟨?_, rfl⟩⟩
    exact Imm.tag1 hb2 (drop_Imm.2 (drop_Imm.2 hb')))
  rw [upd_upd] at r3
  exact ⟨_, r3⟩

/-- 'assign' of a temporary that owns a slice. -/
theorem step_move {P : Program} {E : Env} {o : Oper} {σ : St} (d t b c e sz : Nat) (rows : List (List SV)) (ho : o.op = .move (.tmp t) ∨ o.op = .assign (.tmp t)) (hd : o.dst = some d) (hn : d < E.n) (hx : σ (tk t) = .lf (.u b c e sz rows)) :
    Step P E o σ (· = upd (upd σ (tk t) Slot.hole) (tk d) (.lf (.u b c e sz rows))) := by
  refine Step.of_run fun g w a h => ?_
  have hs := h.slot t
  rw [hx] at hs
  obtain ⟨g', hr⟩ := h.moveU d (tk t) 0 0 b c e sz rows (a.tmps.getD t undef) hn (.inr trivial) hs
  refine ⟨a.tmps.getD t undef, w, g', _, .inl ?_, rfl, by rw [hd]; exact hr⟩
  rcases ho with ho | ho <;> simp [execOp, ho, Act.eval]

/-- 'assign' of a header onto a variable's slice: the slice goes with it. -/
theorem step_take {P : Program} {E : Env} {o : Oper} {σ : St} (d : Nat) (x : Operand) (t b n c e sz : Nat) (rows : List (List SV)) (ho : o.op = .move x ∨ o.op = .assign x) (hd : o.dst = some d) (hn : d < E.n)
    (hx : opd σ x = .lf (.hd b n c)) (ht : σ (tk t) = .lf (.u b c e sz rows)) (hl : n = rows.length) : Step P E o σ (· = upd (upd σ (tk t) Slot.hole) (tk d) (.lf (.u b c e sz rows))) := by
  refine Step.of_run fun g w a h => ?_
  have hs := h.slot t
  rw [ht] at hs
  have hv := opd_hd h hx
  have hvt : a.tmps.getD t undef = .slice (some ⟨b, 0, none⟩) rows.length c := hs.1
  obtain ⟨g', hr⟩ := h.moveU d (tk t) 0 0 b c e sz rows (a.eval x) hn (.inr trivial) ⟨by rw [hv, hl], hs.2⟩
  refine ⟨a.eval x, w, g', _, .inl ?_, rfl, by rw [hd]; exact hr⟩
  rcases ho with ho | ho <;> simp [execOp, ho]

/-- A new block of cells that a temporary owns. -/
theorem Rel.newU {E : Env} {g : Nat → Tag} {w : World} {a : Act} {σ : St} (h : Rel E g w a σ) (d c e sz : Nat) (rows : List (List SV)) (cur : Array Value) (hn : d < E.n) (hc : rows.length ≤ c) (hm : c ≤ maxLen) (hs : cur.size = c * sz) (hr : RowsIn g w cur sz rows) :
    ∃ g', Rel E g' { w with heap := w.heap.push (.cells cur e (0, 0)) } (a.put (some d) (.slice (some ⟨w.heap.size, 0, none⟩) rows.length c)) (upd σ (tk d) (.lf (.u w.heap.size c e sz rows))) := by
  have hfr : g w.heap.size = .none := h.fresh _ (Nat.le_refl _)
  have r1 := (h.forget (tk d)).alloc (.cells cur e (0, 0))
  have hb : drop (tk d) g w.heap.size = .none := drop_of_none hfr
  have r2 := r1.tag1 w.heap.size (.own (tk d) 0 0) hb (by simp) (.inl h.size) (fun b' k' i' j' e => by cases e; exact drop_free _ _ _ _ _)
  have r3 := (r2.act d (.slice (some ⟨w.heap.size, 0, none⟩) rows.length c) (upd_same ..)).putSlot d (.lf (.u w.heap.size c e sz rows)) (by
    rw [act_put_eq (by rw [h.many]; exact hn)]
    refine ⟨rfl, tag1_self .., hc, hm, cur, by simp, hs, hr.to fun sh b' hb' => ⟨Imm.tag1 hb (drop_Imm.2 hb'), ?_⟩⟩
    have : b' < w.heap.size := Nat.lt_of_not_le fun hle => by rcases hb' with e | ⟨_, e⟩ <;> rw [h.fresh b' hle] at e <;> cases e
    simp [Array.getElem?_push, Nat.ne_of_lt this])
  rw [upd_upd] at r3
  exact ⟨_, r3⟩

/-- A zero value as data. -/
def zeroIs : Value → SV → Bool
  | .int k n, .int k' n' => k == k' && n == n'
  | .bool b, .bool b' => b == b'
  | .string s, .str s' => s.data == s'.data
  | .slice Option.none 0 0, .sl _ [] => true
  | _, _ => false

theorem zeroIs_rel {S : Nat → Prop} {w : World} {v : Value} {x : SV} (h : zeroIs v x = true) : SRep S w v x := by
  unfold zeroIs at h
  split at h
  · simp only [Bool.and_eq_true, beq_iff_eq] at h; obtain ⟨rfl, rfl⟩ := h; exact .int _ _
  · simp only [beq_iff_eq] at h; subst h; exact .bool _
  · rename_i s s'
    have e : s.data = s'.data := by simpa using h
    have : s = s' := by cases s; cases s'; cases e; rfl
    subst this; exact .str _
  · exact .nil _ _ _
  · cases h

/-- The zero value of a type, cell by cell. -/
structure Zero (P : Program) (t : TypeId) (sz : Nat) (zs : List SV) : Prop where
  ok : ∃ (i : TypeInfo) (z : Value), P.info? t = some i ∧ i.zero = some z ∧ i.size = sz ∧ z.cells.size = sz ∧ zs.length = sz ∧ ∀ (j : Nat) v x, z.cells[j]? = some v → zs[j]? = some x → zeroIs v x = true
end Go.Proofs.YtahciphhopiipaaGreatDoor.V
