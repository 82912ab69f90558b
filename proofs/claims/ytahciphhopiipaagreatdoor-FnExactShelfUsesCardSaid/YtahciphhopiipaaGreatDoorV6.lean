/- What an operation that writes or makes memory is put together from. -/
import Derived.Test.YtahciphhopiipaaGreatDoorV5
set_option linter.unusedVariables false
set_option linter.unusedSimpArgs false
namespace Go.Proofs.YtahciphhopiipaaGreatDoor.V
open Go

/-- Memory turns where no tag lies. -/
theorem Rel.world {E : Env} {g : Nat → Tag} {w w' : World} {a : Act} {σ : St} (h : Rel E g w a σ)
    (hos : w'.os = w.os) (htp : w'.tape = w.tape) (hout : w'.output = w.output) (hsz : w.heap.size ≤ w'.heap.size)
    (hold : ∀ b, b < w.heap.size → w'.heap[b]? = w.heap[b]? ∨ (g b = .none ∧ (E.w0.heap.size ≤ b ∨ E.may b))) : Rel E g w' a σ := by
  have hn : ∀ b, g b ≠ .none → w'.heap[b]? = w.heap[b]? := fun b hb => by
    have hlt : b < w.heap.size := Nat.lt_of_not_le fun hle => hb (h.fresh b hle)
    rcases hold b hlt with e | ⟨e, _⟩
    · exact e
    · exact absurd e hb
  have hS : ∀ sh b, Imm g sh b → Imm g sh b ∧ w'.heap[b]? = w.heap[b]? := fun sh b hb => ⟨hb, hn b (by rcases hb with hb | ⟨_, hb⟩ <;> rw [hb] <;> intro e <;> cases e)⟩
  have hO : ∀ k b i j, g b = .own k i j → g b = .own k i j ∧ w'.heap[b]? = w.heap[b]? := fun k b i j hb => ⟨hb, hn b (by rw [hb]; intro e; cases e)⟩
  exact
    { defers := h.defers
      os := hos.trans h.os
      tape := htp.trans h.tape
      output := hout.trans h.output
      size := Nat.le_trans h.size hsz
      old := fun b hb hm => by
        rcases hold b (Nat.lt_of_lt_of_le hb h.size) with e | ⟨_, e | e⟩
        · exact e.trans (h.old b hb hm)
        · omega
        · exact absurd e hm
      many := h.many
      slot := fun t => (h.slot t).to hS (hO _)
      cell := fun t => (h.cell t).to hS (hO _)
      fresh := fun b hb => h.fresh b (Nat.le_trans hsz hb)
      mine := h.mine
      uniq := h.uniq
      elder := h.elder
      soft := fun b hb e => (h.soft b hb e).to (hn b (by rw [e]; intro e0; cases e0)) }

/-- Tags are laid where none lies. -/
theorem Rel.tags {E : Env} {g g' : Nat → Tag} {w : World} {a : Act} {σ : St} (h : Rel E g w a σ)
    (hk : ∀ b, g b ≠ .none → g' b = g b) (hf : ∀ b, w.heap.size ≤ b → g' b = .none)
    (hm : ∀ b, g b = .none → g' b ≠ .none → E.w0.heap.size ≤ b ∨ E.may b)
    (hu : ∀ b b' k i j, g' b = .own k i j → g' b' = .own k i j → b = b')
    (hs : ∀ b, g b = .none → g' b = .imm → E.w0.heap.size ≤ b ∨ E.may b → Plain w b) : Rel E g' w a σ := by
  have hS : ∀ sh b, Imm g sh b → Imm g' sh b ∧ w.heap[b]? = w.heap[b]? := fun sh b hb => by
    refine ⟨?_, rfl⟩
    unfold Imm
    rw [hk b (by rcases hb with hb | ⟨_, hb⟩ <;> rw [hb] <;> intro e <;> cases e)]
    exact hb
  have hO : ∀ k b i j, g b = .own k i j → g' b = .own k i j ∧ w.heap[b]? = w.heap[b]? := fun k b i j hb => ⟨(hk b (by rw [hb]; intro e; cases e)).trans hb, rfl⟩
  exact
    { defers := h.defers
      os := h.os
      tape := h.tape
      output := h.output
      size := h.size
      old := h.old
      many := h.many
      slot := fun t => (h.slot t).to hS (hO _)
      cell := fun t => (h.cell t).to hS (hO _)
      fresh := hf
      mine := fun b k i j e => by
        by_cases hn : g b = .none
        · exact hm b hn (by rw [e]; intro e; cases e)
        · rw [hk b hn] at e; exact h.mine b k i j e
      uniq := hu
      elder := fun b hb hmm => by
        by_cases hn : g b = .none
        · by_cases hn' : g' b = .none
          · rw [hn', ← hn]; exact h.elder b hb hmm
          · rcases hm b hn hn' with e | e
            · omega
            · exact absurd e hmm
        · rw [hk b hn]; exact h.elder b hb hmm
      soft := fun b hb e => by
        by_cases hn : g b = .none
        · exact hs b hn e hb
        · rw [hk b hn] at e; exact h.soft b hb e }

/-- One tag. -/
def tag1 (g : Nat → Tag) (b : Nat) (t : Tag) : Nat → Tag := fun b' => if b' = b then t else g b'

theorem tag1_self (g : Nat → Tag) (b : Nat) (t : Tag) : tag1 g b t b = t := by simp [tag1]
theorem tag1_ne (g : Nat → Tag) {b b' : Nat} (t : Tag) (h : b' ≠ b) : tag1 g b t b' = g b' := by simp [tag1, h]

theorem Rel.tag1 {E : Env} {g : Nat → Tag} {w : World} {a : Act} {σ : St} (h : Rel E g w a σ) (b : Nat) (t : Tag) (hn : g b = .none) (hlt : b < w.heap.size)
    (hm : E.w0.heap.size ≤ b ∨ E.may b) (hu : ∀ b' k i j, t = .own k i j → g b' ≠ .own k i j) (hs : t = .imm → Plain w b := by intro e; cases e) : Rel E (tag1 g b t) w a σ := by
  refine h.tags ?_ ?_ ?_ ?_ ?_
  · intro b' hb'; rw [tag1_ne]; intro e; subst e; exact hb' hn
  · intro b' hb'; rw [tag1_ne _ _ (by omega)]; exact h.fresh b' hb'
  · intro b' hb' e
    by_cases eb : b' = b
    · subst eb; exact hm
    · rw [tag1_ne _ _ eb] at e; exact absurd hb' e
  · intro b1 b2 k i j e1 e2
    by_cases h1 : b1 = b
    · subst h1
      rw [tag1_self] at e1
      by_cases h2 : b2 = b1
      · exact h2.symm
      · rw [tag1_ne _ _ h2] at e2; exact absurd e2 (hu b2 k i j e1)
    · rw [tag1_ne _ _ h1] at e1
      by_cases h2 : b2 = b
      · subst h2; rw [tag1_self] at e2; exact absurd e1 (hu b1 k i j e2)
      · rw [tag1_ne _ _ h2] at e2; exact h.uniq b1 b2 k i j e1 e2
  · intro b' hb' e he
    by_cases eb : b' = b
    · subst eb; rw [tag1_self] at e; exact hs e
    · rw [tag1_ne _ _ eb, hb'] at e; cases e

theorem Imm.tag1 {g : Nat → Tag} {b : Nat} {t : Tag} (hn : g b = .none) {sh : Bool} {b' : Nat} (h : Imm g sh b') : Imm (tag1 g b t) sh b' := by
  have hne : b' ≠ b := by
    intro e; subst e
    rcases h with h | ⟨_, h⟩ <;> rw [hn] at h <;> cases h
  unfold Imm; rw [tag1_ne _ _ hne]; exact h

/-- A temporary that nothing is known of is written. -/
theorem Rel.act {E : Env} {g : Nat → Tag} {w : World} {a : Act} {σ : St} (h : Rel E g w a σ) (d : Nat) (v : Value) (hh : σ (tk d) = Slot.hole) : Rel E g w (a.put (some d) v) σ where
  defers := act_put_defers.trans h.defers
  os := h.os
  tape := h.tape
  output := h.output
  size := h.size
  old := h.old
  many := act_put_size.trans h.many
  slot t := by
    by_cases e : t = d
    · subst e; rw [hh]; trivial
    · rw [act_put t e]; exact h.slot t
  cell := h.cell
  fresh := h.fresh
  mine := h.mine
  uniq := h.uniq
  elder := h.elder
  soft := h.soft

theorem Rel.putSlot {E : Env} {g : Nat → Tag} {w : World} {a : Act} {σ : St} (h : Rel E g w a σ) (t : Nat) (s : Slot) (hs : SlotRel g w (tk t) (a.tmps.getD t undef) s) : Rel E g w a (upd σ (tk t) s) where
  defers := h.defers
  os := h.os
  tape := h.tape
  output := h.output
  size := h.size
  old := h.old
  many := h.many
  slot t' := by
    by_cases e : tk t' = tk t
    · simp only [upd]; rw [if_pos e, tk_inj e]; exact hs
    · simp only [upd]; rw [if_neg e]; exact h.slot t'
  cell t' := by simp only [upd]; rw [if_neg (tk_ck _ _).symm]; exact h.cell t'
  fresh := h.fresh
  mine := h.mine
  uniq := h.uniq
  elder := h.elder
  soft := h.soft

theorem Rel.putCell {E : Env} {g : Nat → Tag} {w : World} {a : Act} {σ : St} (h : Rel E g w a σ) (t : Nat) (s : Slot) (hs : CellRel g w (ck t) s) : Rel E g w a (upd σ (ck t) s) where
  defers := h.defers
  os := h.os
  tape := h.tape
  output := h.output
  size := h.size
  old := h.old
  many := h.many
  slot t' := by simp only [upd]; rw [if_neg (tk_ck _ _)]; exact h.slot t'
  cell t' := by
    by_cases e : ck t' = ck t
    · simp only [upd]; rw [if_pos e, ck_inj e]; exact hs
    · simp only [upd]; rw [if_neg e]; exact h.cell t'
  fresh := h.fresh
  mine := h.mine
  uniq := h.uniq
  elder := h.elder
  soft := h.soft

theorem upd_upd (σ : St) (k : Nat) (s s' : Slot) : upd (upd σ k s) k s' = upd σ k s' := by
  funext k'; simp only [upd]; split <;> rfl
theorem upd_comm (σ : St) {k k' : Nat} (s s' : Slot) (h : k ≠ k') : upd (upd σ k s) k' s' = upd (upd σ k' s') k s := by
  funext x; simp only [upd]; split <;> split <;> first | rfl | (subst_vars; exact absurd rfl h)
theorem upd_same (σ : St) (k : Nat) (s : Slot) : upd σ k s k = s := by simp [upd]
theorem upd_ne (σ : St) {k k' : Nat} (s : Slot) (h : k' ≠ k) : upd σ k s k' = σ k' := by simp [upd, h]

/-- A new block, unknown to the tags. -/
theorem Rel.alloc {E : Env} {g : Nat → Tag} {w : World} {a : Act} {σ : St} (h : Rel E g w a σ) (o : Obj) : Rel E g { w with heap := w.heap.push o } a σ :=
  h.world rfl rfl rfl (by simp) fun b hb => .inl (by simp [Array.getElem?_push, Nat.ne_of_lt hb])

theorem Rel.base_le {E : Env} {g : Nat → Tag} {w : World} {a : Act} {σ : St} (h : Rel E g w a σ) : E.w0.heap.size ≤ w.heap.size := h.size

/-- The names of blocks that a value owns are no longer any key's, once its key is forgotten. -/
theorem drop_none {k : Nat} {g : Nat → Tag} {b i j : Nat} (h : g b = .own k i j) : drop k g b = .none := by
  unfold drop; rw [h]; simp
theorem drop_ne {k : Nat} {g : Nat → Tag} {b : Nat} (h : ∀ i j, g b ≠ .own k i j) : drop k g b = g b := by
  unfold drop
  cases e : g b with
  | own x y z =>
    by_cases hx : x = k
    · subst hx; exact absurd e (h y z)
    · simp [hx]
  | _ => rfl
theorem drop_of_none {k : Nat} {g : Nat → Tag} {b : Nat} (h : g b = .none) : drop k g b = .none := by
  rw [drop_ne (by rw [h]; intro i j e; cases e), h]
end Go.Proofs.YtahciphhopiipaaGreatDoor.V
