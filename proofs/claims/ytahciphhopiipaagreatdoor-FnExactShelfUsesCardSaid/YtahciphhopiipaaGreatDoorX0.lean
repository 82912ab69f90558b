/- States written as lists, with names in place of blocks; what an operation of the text does to them is computed. -/
import Derived.Test.YtahciphhopiipaaGreatDoorV22
set_option linter.unusedVariables false
set_option linter.unusedSimpArgs false
namespace Go.Proofs.YtahciphhopiipaaGreatDoor.V
open Go Go.RowKit

/-- A name stands for a block and a capacity, or for no block. -/
abbrev Nm := Nat → Option (Nat × Nat)

/-- A leaf that nothing is. -/
def badLeaf : Leaf := .im true (.sl 1 [[]])

def renL (ν : Nm) : Leaf → Leaf
  | .u b _ e sz rows => match ν b with
    | some p => .u p.1 p.2 e sz rows
    | none => if rows.isEmpty then .nil else badLeaf
  | .hd b n _ => match ν b with
    | some p => .hd p.1 n p.2
    | none => if n = 0 then .nil else badLeaf
  | .ptr b off => match ν b with
    | some p => .ptr p.1 off
    | none => badLeaf
  | l => l
def renP (ν : Nm) : Part → Part
  | .lf l => .lf (renL ν l)
  | .agg ls => .agg (ls.map (renL ν))
def renS (ν : Nm) : Slot → Slot
  | .one p => .one (renP ν p)
  | .tup ps => .tup (ps.map (renP ν))
  | .cell b ls => match ν b with
    | some p => .cell p.1 (ls.map (renL ν))
    | none => .lf badLeaf
  | .obj b T e s => match ν b with
    | some p => .obj p.1 T e s
    | none => .lf badLeaf

abbrev SL := List (Nat × Slot)
def look : SL → Nat → Slot
  | [], _ => .hole
  | (k, s) :: r, k' => bif Nat.beq k' k then s else look r k'
def den (ν : Nm) (L : SL) : St := fun k => renS ν (look L k)

theorem look_cons (k : Nat) (s : Slot) (r : SL) (k' : Nat) : look ((k, s) :: r) k' = if k' = k then s else look r k' := by
  simp only [look]
  cases h : Nat.beq k' k with
  | true => rw [if_pos (Nat.eq_of_beq_eq_true h)]; rfl
  | false => rw [if_neg (Nat.ne_of_beq_eq_false h)]; rfl

theorem badLeaf_rel {g : Nat → Tag} {w : World} {k i j : Nat} {v : Value} (h : LeafRel g w k i j v badLeaf) : False := by
  have h1 : SRep (Imm g true) w v (.sl 1 [[]]) := h
  have := h1.width [] (by simp)
  simp at this

theorem Step.absurd {P : Program} {E : Env} {o : Oper} {σ : St} {post : St → Prop} (h : ∀ g w a, Rel E g w a σ → False) : Step P E o σ post := fun g w a _ _ hr _ => (h g w a hr).elim

theorem bad_opd {E : Env} {g : Nat → Tag} {w : World} {a : Act} {σ : St} {x : Operand} (h : Rel E g w a σ) (hx : opd σ x = .lf badLeaf) : False := by
  have := opd_rel h x
  rw [hx] at this
  exact badLeaf_rel (k := 0) (i := 0) (j := 0) this

theorem bad_tmp {E : Env} {g : Nat → Tag} {w : World} {a : Act} {σ : St} {t : Nat} (h : Rel E g w a σ) (hx : σ (tk t) = .lf badLeaf) : False := by
  have := h.slot t
  rw [hx] at this
  exact badLeaf_rel (k := 0) (i := 0) (j := 0) this

theorem bad_cell {E : Env} {g : Nat → Tag} {w : World} {a : Act} {σ : St} {t : Nat} (h : Rel E g w a σ) (hx : σ (ck t) = .lf badLeaf) : False := by
  have := h.cell t
  rw [hx] at this
  exact this

/-- Names that a leaf bears. -/
def Leaf.has (b : Nat) : Leaf → Bool
  | .u b' _ _ _ _ => Nat.beq b' b
  | .hd b' _ _ => Nat.beq b' b
  | .ptr b' _ => Nat.beq b' b
  | _ => false
def Part.has (b : Nat) : Part → Bool
  | .lf l => l.has b
  | .agg ls => ls.any (Leaf.has b)
def Slot.has (b : Nat) : Slot → Bool
  | .one p => p.has b
  | .tup ps => ps.any (Part.has b)
  | .cell b' ls => Nat.beq b' b || ls.any (Leaf.has b)
  | .obj b' _ _ _ => Nat.beq b' b

def setN (ν : Nm) : Option Nat → Option (Nat × Nat) → Nm
  | none, _ => ν
  | some b, v => fun b' => if b' = b then v else ν b'

theorem renL_set {ν : Nm} {b : Nat} {v : Option (Nat × Nat)} {l : Leaf} (h : l.has b = false) : renL (setN ν (some b) v) l = renL ν l := by
  have key : ∀ b', Nat.beq b' b = false → setN ν (some b) v b' = ν b' := by
    intro b' hb
    have : b' ≠ b := by intro e; subst e; simp at hb
    simp [setN, this]
  cases l <;> simp only [Leaf.has] at h <;> simp only [renL]
  all_goals first | rfl | rw [key _ h]

theorem renP_set {ν : Nm} {b : Nat} {v : Option (Nat × Nat)} {p : Part} (h : p.has b = false) : renP (setN ν (some b) v) p = renP ν p := by
  cases p with
  | lf l => simp only [renP]; rw [renL_set h]
  | agg ls =>
    simp only [renP]; congr 1
    simp only [Part.has, List.any_eq_false] at h
    exact List.map_congr_left fun l hl => renL_set (by simpa using h l hl)

theorem renS_set {ν : Nm} {b : Nat} {v : Option (Nat × Nat)} {s : Slot} (h : s.has b = false) : renS (setN ν (some b) v) s = renS ν s := by
  cases s with
  | one p => simp only [renS]; rw [renP_set h]
  | tup ps =>
    simp only [renS]; congr 1
    simp only [Slot.has, List.any_eq_false] at h
    exact List.map_congr_left fun l hl => renP_set (by simpa using h l hl)
  | cell b' ls =>
    simp only [Slot.has, Bool.or_eq_false_iff, List.any_eq_false] at h
    have : b' ≠ b := by intro e; subst e; simp at h
    simp only [renS, setN, this, if_false]
    have e : ls.map (renL (setN ν (some b) v)) = ls.map (renL ν) := List.map_congr_left fun l hl => renL_set (by simpa using h.2 l hl)
    cases ν b' <;> simp only
    rw [← e]
    rfl
  | obj b' T e s =>
    simp only [Slot.has] at h
    have : b' ≠ b := by intro e; subst e; simp at h
    simp only [renS, setN, this, if_false]

/-- One state knows no more than another. -/
def Weak (τ τ2 : St) : Prop := ∀ k, τ2 k = τ k ∨ τ2 k = Slot.hole

theorem Weak.refl (τ : St) : Weak τ τ := fun _ => .inl rfl
theorem Weak.trans {a b c : St} (h1 : Weak a b) (h2 : Weak b c) : Weak a c := fun k => by
  rcases h2 k with h | h
  · rcases h1 k with h' | h'
    · exact .inl (h.trans h')
    · exact .inr (h.trans h')
  · exact .inr h

def AllP : List Prop → Prop
  | [] => True
  | p :: ps => p ∧ AllP ps

theorem AllP.cons {p : Prop} {ps : List Prop} (h : p) (hs : AllP ps) : AllP (p :: ps) := ⟨h, hs⟩
theorem AllP.nil : AllP [] := trivial

theorem AllP.app {ps qs : List Prop} (h : AllP (ps ++ qs)) : AllP ps ∧ AllP qs := by
  induction ps with
  | nil => exact ⟨trivial, h⟩
  | cons p ps ih => exact ⟨⟨h.1, (ih h.2).1⟩, (ih h.2).2⟩

def renW (ν : Nm) (ws : SL) : SL := ws.map fun p => (p.1, renS ν p.2)

/-- What an operation does: the keys that it reads, what they turn to, the name that it gives, what it asks. -/
structure Ex where
  R : List Nat
  ws : SL
  nm : Option Nat
  c : List Prop

def SoundOp (P : Program) (E : Env) (o : Oper) (L : SL) (ex : Ex) : Prop :=
  AllP ex.c → ∀ (ν : Nm) (τ : St), (∀ k ∈ ex.R, τ k = den ν L k) → Step P E o τ fun τ' => ∃ v, Weak τ' (updL τ (renW (setN ν ex.nm v) ex.ws))

/-- Without a new name. -/
theorem SoundOp.plain {P : Program} {E : Env} {o : Oper} {L : SL} {R : List Nat} {ws : SL} {c : List Prop}
    (h : AllP c → ∀ (ν : Nm) (τ : St), (∀ k ∈ R, τ k = den ν L k) → Step P E o τ (· = updL τ (renW ν ws))) : SoundOp P E o L ⟨R, ws, none, c⟩ :=
  fun hc ν τ hτ => (h hc ν τ hτ).mono fun τ' e => ⟨none, by rw [e]; exact Weak.refl _⟩

/-- What is known of an operand. -/
abbrev ox (L : SL) (x : Operand) : Slot := opd (look L) x
def ok (x : Operand) : List Nat := match x with
  | .tmp t => [tk t]
  | _ => []

theorem litLeaf_ren (ν : Nm) (v : Value) : renL ν (litLeaf v) = litLeaf v := by
  unfold litLeaf
  split <;> rfl

theorem opd_den {ν : Nm} {L : SL} {τ : St} {x : Operand} {R : List Nat} (h : ∀ k ∈ R, τ k = den ν L k) (hx : ∀ k ∈ ok x, k ∈ R) : opd τ x = renS ν (ox L x) := by
  cases x with
  | tmp t => exact h _ (hx _ (by simp [ok]))
  | const v =>
    unfold ox opd
    split
    · rename_i heq; cases heq
    · rename_i cs heq; cases heq
      simp only [renS, renP, Slot.agg, List.map_map]
      congr 2
      exact List.map_congr_left fun v _ => (litLeaf_ren ν v).symm
    · rename_i heq; cases heq; simp only [renS, renP, Slot.lf, litLeaf_ren]
    · rename_i heq; cases heq
    · rename_i heq; rfl
  | global g => rfl
  | func f => rfl

theorem opd_is {ν : Nm} {L : SL} {τ : St} {x : Operand} {R : List Nat} {s : Slot} (h : ∀ k ∈ R, τ k = den ν L k) (hx : ∀ k ∈ ok x, k ∈ R) (hs : ox L x = s) : opd τ x = renS ν s := by
  rw [opd_den h hx, hs]

/-- A bare slot's names are none of an owner's. -/
theorem renL_bare {ν : Nm} {l : Leaf} (h : l.bare = true) : (renL ν l).bare = true := by
  cases l <;> simp only [Leaf.bare] at h <;> simp only [renL] <;> first | rfl | (cases h) | skip
  · split
    · rfl
    · split <;> rfl
  · split <;> rfl
theorem renP_bare {ν : Nm} {p : Part} (h : p.bare = true) : (renP ν p).bare = true := by
  cases p with
  | lf l => exact renL_bare h
  | agg ls =>
    simp only [Part.bare, renP, List.all_map] at h ⊢
    exact List.all_eq_true.2 fun l hl => renL_bare (List.all_eq_true.1 h l hl)
theorem renS_bare {ν : Nm} {s : Slot} (h : s.bare = true) : (renS ν s).bare = true := by
  cases s with
  | one p => exact renP_bare h
  | tup ps =>
    simp only [Slot.bare, renS, List.all_map] at h ⊢
    exact List.all_eq_true.2 fun l hl => renP_bare (List.all_eq_true.1 h l hl)
  | cell b ls => cases h
  | obj b T e s => cases h
end Go.Proofs.YtahciphhopiipaaGreatDoor.V
