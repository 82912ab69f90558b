/- How the state of a frame stands through what happens to memory. -/
import Derived.Test.YtahciphhopiipaaGreatDoorV0
import Derived.Deep.LoopGhost
set_option linter.unusedVariables false
set_option linter.unusedSimpArgs false
namespace Go.Proofs.YtahciphhopiipaaGreatDoor.V
open Go

theorem Imm.sh {g : Nat → Tag} {b : Nat} (h : Imm g true b) : g b = .imm := by
  rcases h with h | ⟨h, _⟩
  · exact h
  · cases h

theorem RowsIn.to {g g' : Nat → Tag} {w w' : World} {cur : Array Value} {sz : Nat} {rows : List (List SV)} (h : RowsIn g w cur sz rows)
    (hS : ∀ sh b, Imm g sh b → Imm g' sh b ∧ w'.heap[b]? = w.heap[b]?) : RowsIn g' w' cur sz rows :=
  ⟨h.1, fun i r j x h1 h2 => let ⟨y, hy, hr⟩ := h.2 i r j x h1 h2; ⟨y, hy, hr.mono (fun b hb => (hS _ b hb).2) (fun b hb => (hS _ b hb).1)⟩⟩

theorem LeafRel.to {g g' : Nat → Tag} {w w' : World} {k i j k' i' j' : Nat} {v : Value} {l : Leaf} (h : LeafRel g w k i j v l)
    (hS : ∀ sh b, Imm g sh b → Imm g' sh b ∧ w'.heap[b]? = w.heap[b]?)
    (hO : ∀ b, g b = .own k i j → g' b = .own k' i' j' ∧ w'.heap[b]? = w.heap[b]?) : LeafRel g' w' k' i' j' v l := by
  cases l with
  | im sh x => exact SRep.mono h (fun b hb => (hS _ b hb).2) (fun b hb => (hS _ b hb).1)
  | u b c e sz rows =>
    obtain ⟨hv, hg, hc, hm, cur, hh, hs, hr⟩ := h
    exact ⟨hv, (hO b hg).1, hc, hm, cur, (hO b hg).2.trans hh, hs, hr.to hS⟩
  | hd b n c => exact h
  | ptr b off => exact h
  | sref sh row =>
    obtain ⟨b, off, hv, hb, hr⟩ := h
    refine ⟨b, off, hv, fun hne => (hS _ b (hb hne)).1, fun j x hx => ?_⟩
    have hne : row ≠ [] := by intro e; rw [e] at hx; simp at hx
    obtain ⟨y, hy, hry⟩ := hr j x hx
    exact ⟨y, by rw [World.cell?_of_block (w := w) (hS _ b (hb hne)).2]; exact hy, hry.mono (fun b hb => (hS _ b hb).2) (fun b hb => (hS _ b hb).1)⟩
  | nil => exact h
  | hole => trivial

theorem LeavesRel.to {g g' : Nat → Tag} {w w' : World} {k i k' i' : Nat} {cs : Array Value} {ls : List Leaf} (h : LeavesRel g w k i cs ls)
    (hS : ∀ sh b, Imm g sh b → Imm g' sh b ∧ w'.heap[b]? = w.heap[b]?)
    (hO : ∀ b j, g b = .own k i j → g' b = .own k' i' j ∧ w'.heap[b]? = w.heap[b]?) : LeavesRel g' w' k' i' cs ls :=
  ⟨h.1, fun j l v hl hv => (h.2 j l v hl hv).to hS fun b hb => hO b j hb⟩

theorem PartRel.to {g g' : Nat → Tag} {w w' : World} {k i k' i' : Nat} {v : Value} {p : Part} (h : PartRel g w k i v p)
    (hS : ∀ sh b, Imm g sh b → Imm g' sh b ∧ w'.heap[b]? = w.heap[b]?)
    (hO : ∀ b j, g b = .own k i j → g' b = .own k' i' j ∧ w'.heap[b]? = w.heap[b]?) : PartRel g' w' k' i' v p := by
  cases p with
  | lf l => exact LeafRel.to h hS fun b hb => hO b 0 hb
  | agg ls => obtain ⟨cs, hv, h⟩ := h; exact ⟨cs, hv, h.to hS hO⟩

theorem SlotRel.to {g g' : Nat → Tag} {w w' : World} {k k' : Nat} {v : Value} {s : Slot} (h : SlotRel g w k v s)
    (hS : ∀ sh b, Imm g sh b → Imm g' sh b ∧ w'.heap[b]? = w.heap[b]?)
    (hO : ∀ b i j, g b = .own k i j → g' b = .own k' i j ∧ w'.heap[b]? = w.heap[b]?) : SlotRel g' w' k' v s := by
  cases s with
  | one p => exact PartRel.to h hS fun b j hb => hO b 0 j hb
  | tup ps =>
    obtain ⟨vs, hv, hs, hp⟩ := h
    exact ⟨vs, hv, hs, fun i p x h1 h2 => (hp i p x h1 h2).to hS fun b j hb => hO b i j hb⟩
  | cell b ls => exact h.elim
  | obj b T e s => exact h.elim

theorem CellRel.to {g g' : Nat → Tag} {w w' : World} {k : Nat} {s : Slot} (h : CellRel g w k s)
    (hS : ∀ sh b, Imm g sh b → Imm g' sh b ∧ w'.heap[b]? = w.heap[b]?)
    (hO : ∀ b i j, g b = .own k i j → g' b = .own k i j ∧ w'.heap[b]? = w.heap[b]?) : CellRel g' w' k s := by
  match s with
  | .one (.lf .hole) => trivial
  | .cell b ls =>
    obtain ⟨cur, e, hg, hh, hl⟩ := h
    exact ⟨cur, e, (hO b 1 0 hg).1, (hO b 1 0 hg).2.trans hh, hl.to hS fun b j hb => hO b 0 j hb⟩
  | .obj b T e s => exact ObjRel.to h hO
  | .one (.lf (.im ..)) | .one (.lf (.u ..)) | .one (.lf (.hd ..)) | .one (.lf (.ptr ..)) | .one (.lf (.sref ..)) | .one (.lf .nil) | .one (.agg _) | .tup _ => exact h.elim

/-- The general step: some keys turn; blocks whose tags are no key's among these stay. -/
theorem Rel.turn {E : Env} {g g' : Nat → Tag} {w w' : World} {a a' : Act} {σ σ' : St} (h : Rel E g w a σ) (K : Nat → Prop)
    (hd : a'.defers = []) (hos : w'.os = w.os) (htp : w'.tape = w.tape) (hout : w'.output = w.output) (hsz : w.heap.size ≤ w'.heap.size)
    (hold : ∀ b, b < w.heap.size → (∀ k i j, g b = .own k i j → ¬ K k) → w'.heap[b]? = w.heap[b]?)
    (htag : ∀ b, (∀ k i j, g b = .own k i j → ¬ K k) → g b ≠ .none → g' b = g b)
    (hσ : ∀ k, ¬ K k → σ' k = σ k)
    (hmany : a'.tmps.size = a.tmps.size)
    (htm : ∀ t, ¬ K (tk t) → a'.tmps.getD t undef = a.tmps.getD t undef)
    (hslot : ∀ t, K (tk t) → SlotRel g' w' (tk t) (a'.tmps.getD t undef) (σ' (tk t)))
    (hcell : ∀ t, K (ck t) → CellRel g' w' (ck t) (σ' (ck t)))
    (hfresh : ∀ b, w'.heap.size ≤ b → g' b = .none)
    (hmine : ∀ b k i j, g' b = .own k i j → E.w0.heap.size ≤ b ∨ E.may b)
    (huniq : ∀ b b' k i j, g' b = .own k i j → g' b' = .own k i j → b = b')
    (helder : ∀ b, b < E.w0.heap.size → ¬ E.may b → g' b = g b)
    (hsoft : ∀ b, E.w0.heap.size ≤ b ∨ E.may b → g' b = .imm → Plain w' b) : Rel E g' w' a' σ' := by
  have lt : ∀ b, g b ≠ .none → b < w.heap.size := fun b hb => Nat.lt_of_not_le fun hle => hb (h.fresh b hle)
  have hS : ∀ sh b, Imm g sh b → Imm g' sh b ∧ w'.heap[b]? = w.heap[b]? := by
    intro sh b hb
    have hn : ∀ k i j, g b = .own k i j → ¬ K k := by
      intro k i j e
      rcases hb with hb | ⟨_, hb⟩ <;> rw [hb] at e <;> cases e
    have hn' : g b ≠ .none := by
      rcases hb with hb | ⟨_, hb⟩ <;> rw [hb] <;> intro e <;> cases e
    refine ⟨?_, hold b (lt b hn') hn⟩
    unfold Imm
    rw [htag b hn hn']
    exact hb
  have hO : ∀ k, ¬ K k → ∀ b i j, g b = .own k i j → g' b = .own k i j ∧ w'.heap[b]? = w.heap[b]? := by
    intro k hk b i j hb
    have hn : ∀ k' i' j', g b = .own k' i' j' → ¬ K k' := by
      intro k' i' j' e; rw [hb] at e; cases e; exact hk
    have hn' : g b ≠ .none := by rw [hb]; intro e; cases e
    exact ⟨(htag b hn hn').trans hb, hold b (lt b hn') hn⟩
  exact
    { defers := hd
      os := hos.trans h.os
      tape := htp.trans h.tape
      output := hout.trans h.output
      size := Nat.le_trans h.size hsz
      old := fun b hb hm => by
        rw [hold b (Nat.lt_of_lt_of_le hb h.size) ?_, h.old b hb hm]
        intro k i j e
        rcases h.mine b k i j e with hle | hmay
        · exact absurd hb (Nat.not_lt.2 hle)
        · exact absurd hmay hm
      many := hmany.trans h.many
      slot := fun t => by
        by_cases hk : K (tk t)
        · exact hslot t hk
        · rw [htm t hk, hσ _ hk]
          exact (h.slot t).to hS (hO _ hk)
      cell := fun t => by
        by_cases hk : K (ck t)
        · exact hcell t hk
        · rw [hσ _ hk]
          exact (h.cell t).to hS (hO _ hk)
      fresh := hfresh
      mine := hmine
      uniq := huniq
      elder := fun b hb hm => (helder b hb hm).trans (h.elder b hb hm)
      soft := hsoft }

/-- Less may be known. -/
theorem Rel.weaken {E : Env} {g : Nat → Tag} {w : World} {a : Act} {σ σ' : St} (h : Rel E g w a σ) (hσ : ∀ k, σ' k = σ k ∨ σ' k = Slot.hole) : Rel E g w a σ' where
  defers := h.defers
  os := h.os
  tape := h.tape
  output := h.output
  size := h.size
  old := h.old
  many := h.many
  slot := fun t => by
    rcases hσ (tk t) with e | e
    · rw [e]; exact h.slot t
    · rw [e]; exact trivial
  cell := fun t => by
    rcases hσ (ck t) with e | e
    · rw [e]; exact h.cell t
    · rw [e]; exact trivial
  fresh := h.fresh
  mine := h.mine
  uniq := h.uniq
  elder := h.elder
  soft := h.soft

theorem act_put {a : Act} {d : Nat} {v : Value} (t : Nat) (h : t ≠ d) : (a.put (some d) v).tmps.getD t undef = a.tmps.getD t undef := by
  simp only [Act.put, Array.getD_eq_getD_getElem?]
  rw [Array.getElem?_setIfInBounds_ne]
  exact fun e => h e.symm

theorem act_put_eq {a : Act} {d : Nat} {v : Value} (h : d < a.tmps.size) : (a.put (some d) v).tmps.getD d undef = v := by
  simp only [Act.put, Array.getD_eq_getD_getElem?]
  rw [Array.getElem?_setIfInBounds]
  simp [h]

theorem act_put_size {a : Act} {d : Option Nat} {v : Value} : (a.put d v).tmps.size = a.tmps.size := by
  cases d <;> simp [Act.put]

theorem act_put_defers {a : Act} {d : Option Nat} {v : Value} : (a.put d v).defers = a.defers := by
  cases d <;> rfl

theorem tk_inj {t t' : Nat} (h : tk t = tk t') : t = t' := by unfold tk at h; omega
theorem tk_ck (t t' : Nat) : tk t ≠ ck t' := by unfold tk ck; omega
theorem ck_inj {t t' : Nat} (h : ck t = ck t') : t = t' := by unfold ck at h; omega

/-- No block is owned by a key's places. -/
def Free (g : Nat → Tag) (k : Nat) : Prop := ∀ b i j, g b ≠ .own k i j

/-- What a key owned is no one's. -/
def drop (k : Nat) (g : Nat → Tag) : Nat → Tag := fun b => match g b with
  | .own k' i j => if k' = k then .none else .own k' i j
  | t => t

theorem drop_own {k : Nat} {g : Nat → Tag} {b k' i j : Nat} : drop k g b = .own k' i j ↔ g b = .own k' i j ∧ k' ≠ k := by
  unfold drop
  cases h : g b with
  | none => simp
  | imm => simp
  | lent => simp
  | own x y z =>
    by_cases e : x = k
    · simp only [e, if_true]
      constructor
      · intro h; cases h
      · rintro ⟨h, hn⟩; cases h; exact absurd rfl hn
    · simp only [e, if_false]
      constructor
      · intro h; cases h; exact ⟨rfl, e⟩
      · rintro ⟨h, hn⟩; exact h

theorem drop_free (k : Nat) (g : Nat → Tag) : Free (drop k g) k := fun b i j h => (drop_own.1 h).2 rfl

theorem drop_imm {k : Nat} {g : Nat → Tag} {b : Nat} : drop k g b = .imm ↔ g b = .imm := by
  unfold drop; cases h : g b <;> simp; split <;> simp
theorem drop_lent {k : Nat} {g : Nat → Tag} {b : Nat} : drop k g b = .lent ↔ g b = .lent := by
  unfold drop; cases h : g b <;> simp; split <;> simp
theorem drop_Imm {k : Nat} {g : Nat → Tag} {sh : Bool} {b : Nat} : Imm (drop k g) sh b ↔ Imm g sh b := by
  unfold Imm; rw [drop_imm, drop_lent]

/-- A key is forgotten. -/
theorem Rel.forget {E : Env} {g : Nat → Tag} {w : World} {a : Act} {σ : St} (h : Rel E g w a σ) (k : Nat) : Rel E (drop k g) w a (upd σ k Slot.hole) := by
  refine h.turn (fun k' => k' = k) h.defers rfl rfl rfl (Nat.le_refl _) (fun _ _ _ => rfl) ?_ ?_ rfl (fun _ _ => rfl) ?_ ?_ ?_ ?_ ?_ ?_ (fun b hb e => h.soft b hb (drop_imm.1 e))
  · intro b hn hne
    unfold drop
    cases e : g b with
    | own x y z => simp only; rw [if_neg (hn x y z e)]
    | _ => rfl
  · intro k' hk'; simp [upd, hk']
  · intro t hk; simp only [upd]; rw [if_pos hk]; trivial
  · intro t hk; simp only [upd]; rw [if_pos hk]; trivial
  · intro b hb; unfold drop; rw [h.fresh b hb]
  · intro b k' i j e; exact h.mine b k' i j (drop_own.1 e).1
  · intro b b' k' i j e e'; exact h.uniq b b' k' i j (drop_own.1 e).1 (drop_own.1 e').1
  · intro b hb hm
    unfold drop
    cases e : g b with
    | own x y z =>
      rcases h.mine b x y z e with hle | hmay
      · omega
      · exact absurd hmay hm
    | _ => rfl
end Go.Proofs.YtahciphhopiipaaGreatDoor.V
