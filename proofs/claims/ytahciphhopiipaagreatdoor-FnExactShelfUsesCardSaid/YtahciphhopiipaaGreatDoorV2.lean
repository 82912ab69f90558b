/- One operation at a time: what reads. -/
import Derived.Test.YtahciphhopiipaaGreatDoorV1
set_option linter.unusedVariables false
set_option linter.unusedSimpArgs false
namespace Go.Proofs.YtahciphhopiipaaGreatDoor.V
open Go

/-- An operation takes a state to one of some states. -/
def Step (P : Program) (E : Env) (o : Oper) (σ : St) (post : St → Prop) : Prop :=
  ∀ (g : Nat → Tag) (w : World) (a : Act) (next : Act → World → Prop) (Q : Exit → Act → World → Prop), Rel E g w a σ →
    (∀ g' w' a' σ', post σ' → Rel E g' w' a' σ' → next a' w') → o.wp P a w next Q

theorem Step.of_run {P : Program} {E : Env} {o : Oper} {σ : St} {post : St → Prop}
    (h : ∀ g w a, Rel E g w a σ → ∃ v w' g' σ', ((execOp a.eval o).run P w = .ok (.value v) w' ∨ ((execOp a.eval o).run P w = .ok .skip w' ∧ v = undef)) ∧ post σ' ∧ Rel E g' w' (a.put o.dst v) σ') :
    Step P E o σ post := by
  intro g w a next Q hr hn
  obtain ⟨v, w', g', σ', hrun, hp, hr'⟩ := h g w a hr
  unfold Oper.wp
  rcases hrun with hrun | ⟨hrun, rfl⟩
  · rw [hrun]; exact hn g' w' _ σ' hp hr'
  · rw [hrun]; exact hn g' w' _ σ' hp hr'

theorem Step.mono {P : Program} {E : Env} {o : Oper} {σ : St} {post post' : St → Prop} (h : Step P E o σ post) (hp : ∀ τ, post τ → post' τ) : Step P E o σ post' :=
  fun g w a next Q hr hn => h g w a next Q hr fun g' w' a' σ' hpost => hn g' w' a' σ' (hp _ hpost)

/-- A temporary takes a value that owns nothing. -/
theorem Rel.set {E : Env} {g : Nat → Tag} {w : World} {a : Act} {σ : St} (h : Rel E g w a σ) (d : Nat) (v : Value) (s : Slot) (hd : d < E.n)
    (hs : ∀ g', (∀ sh b, Imm g sh b → Imm g' sh b) → SlotRel g' w (tk d) v s) : Rel E (drop (tk d) g) w (a.put (some d) v) (upd σ (tk d) s) := by
  refine (h.forget (tk d)).turn (fun k => k = tk d) (act_put_defers.trans h.defers) rfl rfl rfl (Nat.le_refl _) (fun _ _ _ => rfl) (fun _ _ _ => rfl) ?_ act_put_size ?_ ?_ ?_ ?_ ?_ ?_ (fun _ _ _ => rfl) (h.forget (tk d)).soft
  · intro k hk; simp only [upd]; rw [if_neg hk, if_neg hk]
  · intro t ht; exact act_put t fun e => ht (by rw [e])
  · intro t ht
    have e := tk_inj ht
    subst e
    rw [act_put_eq (by rw [h.many]; exact hd)]
    simp only [upd, if_true]
    exact hs _ fun sh b hb => drop_Imm.2 hb
  · intro t ht; exact absurd ht.symm (tk_ck _ _)
  · exact (h.forget (tk d)).fresh
  · exact (h.forget (tk d)).mine
  · exact (h.forget (tk d)).uniq

/-- The leaf of a constant. -/
def litLeaf : Value → Leaf
  | .int k n => .im true (.int k n)
  | .bool b => .im true (.bool b)
  | .string s => .im true (.str s)
  | .slice Option.none 0 0 => .nil
  | _ => .hole

/-- What is known of an operand. -/
def opd (σ : St) : Operand → Slot
  | .tmp t => σ (tk t)
  | .const (.agg cs) => .agg (cs.toList.map litLeaf)
  | .const v => .lf (litLeaf v)
  | .func f => .lf (.im true (.fn f []))
  | _ => .hole

theorem litLeaf_rel (g : Nat → Tag) (w : World) (k i j : Nat) (v : Value) : LeafRel g w k i j v (litLeaf v) := by
  unfold litLeaf
  split
  · exact .int _ _
  · exact .bool _
  · exact .str _
  · rfl
  · trivial

/-- The key that an operand's places go by. -/
def opk : Operand → Nat
  | .tmp t => tk t
  | _ => 0

theorem opd_rel {E : Env} {g : Nat → Tag} {w : World} {a : Act} {σ : St} (h : Rel E g w a σ) (x : Operand) : SlotRel g w (opk x) (a.eval x) (opd σ x) := by
  cases x with
  | tmp t => exact h.slot t
  | const v =>
    unfold opd
    split
    · rename_i heq; cases heq
    · rename_i cs heq
      cases heq
      refine ⟨cs, rfl, by simp, fun j l v hl hv => ?_⟩
      simp only [List.getElem?_map, Array.getElem?_toList] at hl
      rw [hv] at hl
      cases hl
      exact litLeaf_rel ..
    · rename_i heq; cases heq; exact litLeaf_rel ..
    · rename_i heq; cases heq
    · trivial
  | global g => exact trivial
  | func f => exact SRep.fn f #[] [] (fun _ => 0) (fun _ => 0) (fun _ => undef) rfl (fun i x h => by simp at h) (fun i x h => by simp at h)

theorem opd_im {E : Env} {g : Nat → Tag} {w : World} {a : Act} {σ : St} (h : Rel E g w a σ) {x : Operand} {sh : Bool} {v : SV} (hx : opd σ x = .lf (.im sh v)) : SRep (Imm g sh) w (a.eval x) v := by
  have := opd_rel h x; rw [hx] at this; exact this

theorem opd_int {E : Env} {g : Nat → Tag} {w : World} {a : Act} {σ : St} (h : Rel E g w a σ) {x : Operand} {sh : Bool} {k : IntKind} {n : Int} (hx : opd σ x = .lf (.im sh (.int k n))) : a.eval x = .int k n := by
  have := opd_im h hx; generalize a.eval x = v at this; cases this; rfl
theorem opd_bool {E : Env} {g : Nat → Tag} {w : World} {a : Act} {σ : St} (h : Rel E g w a σ) {x : Operand} {sh : Bool} {b : Bool} (hx : opd σ x = .lf (.im sh (.bool b))) : a.eval x = .bool b := by
  have := opd_im h hx; generalize a.eval x = v at this; cases this; rfl
theorem opd_str {E : Env} {g : Nat → Tag} {w : World} {a : Act} {σ : St} (h : Rel E g w a σ) {x : Operand} {sh : Bool} {s : ByteArray} (hx : opd σ x = .lf (.im sh (.str s))) : a.eval x = .string s := by
  have := opd_im h hx; generalize a.eval x = v at this; cases this; rfl

/-- A leaf, part or slot that owns nothing. -/
def Leaf.bare : Leaf → Bool
  | .u .. => false
  | _ => true
def Part.bare : Part → Bool
  | .lf l => l.bare
  | .agg ls => ls.all Leaf.bare
def Slot.bare : Slot → Bool
  | .one p => p.bare
  | .tup ps => ps.all Part.bare
  | .cell .. => false
  | .obj .. => false

theorem LeafRel.bare {g g' : Nat → Tag} {w : World} {k i j k' i' j' : Nat} {v : Value} {l : Leaf} (h : LeafRel g w k i j v l) (hb : l.bare = true)
    (hS : ∀ sh b, Imm g sh b → Imm g' sh b) : LeafRel g' w k' i' j' v l := by
  cases l with
  | u b c e sz rows => cases hb
  | im sh x => exact SRep.mono h (fun _ _ => rfl) (fun b hb => hS _ b hb)
  | sref sh row =>
    obtain ⟨b, off, hv, hb, hr⟩ := h
    exact ⟨b, off, hv, fun hne => hS _ b (hb hne), fun j x hx => let ⟨y, hy, hry⟩ := hr j x hx; ⟨y, hy, hry.mono (fun _ _ => rfl) (fun b hb => hS _ b hb)⟩⟩
  | hd b n c => exact h
  | ptr b off => exact h
  | nil => exact h
  | hole => trivial

theorem PartRel.bare {g g' : Nat → Tag} {w : World} {k i k' i' : Nat} {v : Value} {p : Part} (h : PartRel g w k i v p) (hb : p.bare = true)
    (hS : ∀ sh b, Imm g sh b → Imm g' sh b) : PartRel g' w k' i' v p := by
  cases p with
  | lf l => exact LeafRel.bare h hb hS
  | agg ls =>
    obtain ⟨cs, hv, hsz, hl⟩ := h
    refine ⟨cs, hv, hsz, fun j l v h1 h2 => (hl j l v h1 h2).bare ?_ hS⟩
    exact List.all_eq_true.1 hb l (List.mem_of_getElem? h1)

theorem SlotRel.bare {g g' : Nat → Tag} {w : World} {k k' : Nat} {v : Value} {s : Slot} (h : SlotRel g w k v s) (hb : s.bare = true)
    (hS : ∀ sh b, Imm g sh b → Imm g' sh b) : SlotRel g' w k' v s := by
  cases s with
  | one p => exact PartRel.bare h hb hS
  | tup ps =>
    obtain ⟨vs, hv, hsz, hl⟩ := h
    refine ⟨vs, hv, hsz, fun i p x h1 h2 => (hl i p x h1 h2).bare ?_ hS⟩
    exact List.all_eq_true.1 hb p (List.mem_of_getElem? h1)
  | cell b ls => cases hb
  | obj b T e s => cases hb

/-- 'move', 'assign' of what owns nothing. -/
theorem step_copy {P : Program} {E : Env} {o : Oper} {σ : St} (d : Nat) (x : Operand) (s : Slot) (ho : o.op = .move x ∨ o.op = .assign x) (hd : o.dst = some d)
    (hn : d < E.n) (hx : opd σ x = s) (hb : s.bare = true) : Step P E o σ (· = upd σ (tk d) s) := by
  refine Step.of_run fun g w a h => ⟨a.eval x, w, drop (tk d) g, _, .inl ?_, rfl, ?_⟩
  · rcases ho with ho | ho <;> simp [execOp, ho]
  · rw [hd]
    refine h.set d _ _ hn fun g' hg' => ?_
    have := opd_rel h x
    rw [hx] at this
    exact this.bare hb hg'

/-- A test's choice. -/
theorem step_pick {P : Program} {E : Env} {o : Oper} {σ : St} (d : Nat) (c x y : Operand) (b : Bool) (s : Slot) (ho : o.op = .pick c x y) (hd : o.dst = some d)
    (hn : d < E.n) (hc : opd σ c = .bool b) (hx : opd σ (if b then x else y) = s) (hb : s.bare = true) : Step P E o σ (· = upd σ (tk d) s) := by
  refine Step.of_run fun g w a h => ⟨a.eval (if b then x else y), w, drop (tk d) g, _, .inl ?_, rfl, ?_⟩
  · have hc' := opd_bool h hc
    cases b <;> simp [execOp, ho, hc', asBool]
  · rw [hd]
    refine h.set d _ _ hn fun g' hg' => ?_
    have := opd_rel h (if b then x else y)
    rw [hx] at this
    exact this.bare hb hg'
end Go.Proofs.YtahciphhopiipaaGreatDoor.V
