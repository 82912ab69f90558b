/- Struct values and literals, put together from parts. -/
import Derived.Test.YtahciphhopiipaaGreatDoorV14
set_option linter.unusedVariables false
set_option linter.unusedSimpArgs false
namespace Go.Proofs.YtahciphhopiipaaGreatDoor.V
open Go Go.RowKit

def Part.leaves : Part → List Leaf
  | .lf l => [l]
  | .agg ls => ls

/-- Cells of a value and leaves of its part. -/
theorem PartRel.cells {g : Nat → Tag} {w : World} {k i : Nat} {v : Value} {p : Part} (h : PartRel g w k i v p) (hv : p.leaves.all Leaf.bare = true) (hone : ∀ l, p = .lf l → v.oneCell' = true) : LeavesRel g w k i v.cells p.leaves := by
  cases p with
  | lf l =>
    have e : v.cells = #[v] := by
      have := hone l rfl
      cases v <;> first | rfl | cases this
    rw [e]
    refine ⟨rfl, fun j l' v' h1 h2 => ?_⟩
    cases j with
    | zero => simp [Part.leaves] at h1 h2; subst h1; subst h2; exact h
    | succ j => simp [Part.leaves] at h1
  | agg ls =>
    obtain ⟨cs, rfl, hl⟩ := h
    exact hl

/-- A leaf that a cell's value has. -/
def Leaf.told : Leaf → Bool
  | .hole => false
  | _ => true

theorem LeafRel.oneCell {g : Nat → Tag} {w : World} {k i j : Nat} {v : Value} {l : Leaf} (h : LeafRel g w k i j v l) (ht : l.told = true) : v.oneCell' = true := by
  cases l with
  | im sh x => exact SRep.oneCell h
  | u b c e sz rows => rw [h.1]; rfl
  | hd b n c => have e : v = _ := h; rw [e]; rfl
  | ptr b off => have e : v = _ := h; rw [e]; rfl
  | sref sh row => obtain ⟨b, off, e, _⟩ := h; rw [e]; rfl
  | nil => have e : v = _ := h; rw [e]; rfl
  | hole => cases ht

def Part.told : Part → Bool
  | .lf l => l.told
  | .agg ls => ls.all Leaf.told

/-- Leaves in place of others. -/
def splice (ls : List Leaf) (off : Nat) (new : List Leaf) : List Leaf := ls.take off ++ new ++ ls.drop (off + new.length)

theorem splice_length {ls : List Leaf} {off : Nat} {new : List Leaf} (h : off + new.length ≤ ls.length) : (splice ls off new).length = ls.length := by
  simp [splice]; omega

theorem splice_get {ls : List Leaf} {off : Nat} {new : List Leaf} (h : off + new.length ≤ ls.length) (j : Nat) :
    (splice ls off new)[j]? = if j < off then ls[j]? else if j < off + new.length then new[j - off]? else ls[j]? := by
  unfold splice
  have ht : (ls.take off).length = off := by rw [List.length_take]; omega
  by_cases h1 : j < off
  · rw [if_pos h1, List.append_assoc, List.getElem?_append_left (by omega), List.getElem?_take, if_pos h1]
  · rw [if_neg h1]
    by_cases h2 : j < off + new.length
    · rw [if_pos h2, List.append_assoc, List.getElem?_append_right (by omega), List.getElem?_append_left (by omega), ht]
    · rw [if_neg h2, List.getElem?_append_right (by simp; omega), List.getElem?_drop]
      congr 1
      simp; omega

/-- Cells written one behind the other. -/
theorem foldl_cells (off : Nat) : ∀ (cs : List Value) (k : Nat) (arr : Array Value), ((cs.zipIdx k).foldl (fun a (p : Value × Nat) => a.setIfInBounds (off + p.2) p.1) arr).size = arr.size ∧
    ∀ j, ((cs.zipIdx k).foldl (fun a (p : Value × Nat) => a.setIfInBounds (off + p.2) p.1) arr)[j]? = if off + k ≤ j ∧ j < off + k + cs.length ∧ j < arr.size then cs[j - (off + k)]? else arr[j]?
  | [], k, arr => ⟨rfl, fun j => by rw [if_neg (by simp; omega)]; rfl⟩
  | c :: cs, k, arr => by
    obtain ⟨h1, h2⟩ := foldl_cells off cs (k + 1) (arr.setIfInBounds (off + k) c)
    simp only [List.zipIdx_cons, List.foldl_cons]
    refine ⟨by rw [h1]; simp, fun j => ?_⟩
    rw [h2 j]
    simp only [Array.size_setIfInBounds, List.length_cons]
    by_cases e : j = off + k
    · subst e
      rw [if_neg (by omega), Array.getElem?_setIfInBounds]
      simp only [if_true]
      by_cases hlt : off + k < arr.size
      · rw [if_pos hlt, if_pos ⟨Nat.le_refl _, by omega, hlt⟩, Nat.sub_self]; rfl
      · rw [if_neg hlt, if_neg (by omega), Array.getElem?_eq_none (by omega)]
    · by_cases hin : off + (k + 1) ≤ j ∧ j < off + (k + 1) + cs.length ∧ j < arr.size
      · rw [if_pos hin, if_pos (by omega)]
        have : j - (off + k) = j - (off + (k + 1)) + 1 := by omega
        rw [this]; rfl
      · rw [if_neg hin, Array.getElem?_setIfInBounds_ne (fun h => e h.symm), if_neg (by omega)]

theorem LeavesRel.splice {g : Nat → Tag} {w : World} {k i : Nat} {arr cs : Array Value} {ls new : List Leaf} {off : Nat} (h : LeavesRel g w k i arr ls) (hn : cs.size = new.length)
    (hr : ∀ (j : Nat) l v, new[j]? = some l → cs[j]? = some v → LeafRel g w k i (off + j) v l) (hfit : off + new.length ≤ ls.length) :
    LeavesRel g w k i (cs.zipIdx.foldl (fun a (p : Value × Nat) => a.setIfInBounds (off + p.2) p.1) arr) (V.splice ls off new) := by
  have e : cs.zipIdx.foldl (fun a (p : Value × Nat) => a.setIfInBounds (off + p.2) p.1) arr = (cs.toList.zipIdx 0).foldl (fun a (p : Value × Nat) => a.setIfInBounds (off + p.2) p.1) arr := by
    rw [← Array.foldl_toList, Array.toList_zipIdx]
  rw [e]
  obtain ⟨h1, h2⟩ := foldl_cells off cs.toList 0 arr
  refine ⟨by rw [h1, splice_length hfit]; exact h.1, fun j l v hl hv => ?_⟩
  rw [h2 j] at hv
  rw [splice_get hfit] at hl
  have hsz := h.1
  simp only [Nat.add_zero, Array.length_toList, hn] at hv
  by_cases h3 : j < off
  · rw [if_pos h3] at hl
    rw [if_neg (by omega)] at hv
    exact h.2 j l v hl hv
  · rw [if_neg h3] at hl
    by_cases h4 : j < off + new.length
    · rw [if_pos h4] at hl
      rw [if_pos (by omega)] at hv
      have := hr (j - off) l v hl (by simpa using hv)
      rwa [show off + (j - off) = j from by omega] at this
    · rw [if_neg h4] at hl
      rw [if_neg (by omega)] at hv
      exact h.2 j l v hl hv

def fillL (place : Nat → Option (Nat × Nat)) (ls : List Leaf) : List (Nat × Part) → Option (List Leaf)
  | [] => some ls
  | (i, p) :: rest => match place i with
    | none => none
    | some (off, size) => if p.leaves.length = size ∧ off + size ≤ ls.length ∧ p.leaves.all Leaf.bare = true ∧ p.told = true then fillL place (splice ls off p.leaves) rest else none

/-- Leaf by leaf, whatever the places are called, for what owns nothing. -/
theorem LeavesRel.bare {g g' : Nat → Tag} {w : World} {k i k' i' : Nat} {cs : Array Value} {ls : List Leaf} (h : LeavesRel g w k i cs ls) (hb : ls.all Leaf.bare = true) (hS : ∀ sh b, Imm g sh b → Imm g' sh b) :
    LeavesRel g' w k' i' cs ls := ⟨h.1, fun j l v h1 h2 => (h.2 j l v h1 h2).bare (List.all_eq_true.1 hb l (List.mem_of_getElem? h1)) hS⟩

theorem fill_rel {g : Nat → Tag} {w : World} {k i : Nat} (place : Nat → Option (Nat × Nat)) : ∀ (ps : List (Nat × Part)) (vs : List (Nat × Value)) (arr : Array Value) (ls ls' : List Leaf), LeavesRel g w k i arr ls →
    vs.length = ps.length → (∀ (n : Nat) a p b v, ps[n]? = some (a, p) → vs[n]? = some (b, v) → a = b ∧ ∃ k' i', PartRel g w k' i' v p) → fillL place ls ps = some ls' →
    ∃ out, Instr.fill place arr vs = some out ∧ LeavesRel g w k i out ls'
  | [], [], arr, ls, ls', h, _, _, hf => by cases hf; exact ⟨arr, rfl, h⟩
  | (a, p) :: ps, (b, v) :: vs, arr, ls, ls', h, hl, hr, hf => by
    obtain ⟨rfl, k', i', hp⟩ := hr 0 a p b v rfl rfl
    simp only [fillL] at hf
    cases hpl : place a with
    | none => rw [hpl] at hf; cases hf
    | some os =>
      obtain ⟨off, size⟩ := os
      rw [hpl] at hf
      simp only at hf
      split at hf
      · rename_i hc
        obtain ⟨c1, c2, c3, c4⟩ := hc
        have hone : ∀ l, p = .lf l → v.oneCell' = true := by
          intro l e; subst e
          exact LeafRel.oneCell (l := l) hp c4
        have hcells := hp.cells c3 hone
        have hsz : v.cells.size = p.leaves.length := hcells.1
        have hsp := h.splice (cs := v.cells) (new := p.leaves) (off := off) hsz (fun j l x h1 h2 => (hcells.2 j l x h1 h2).bare (List.all_eq_true.1 c3 l (List.mem_of_getElem? h1)) fun _ _ hb => hb) (by omega)
        obtain ⟨out, ho, hro⟩ := fill_rel place ps vs _ _ ls' hsp (by simpa using hl) (fun n a' p' b' v' h1 h2 => hr (n + 1) a' p' b' v' (by simpa using h1) (by simpa using h2)) hf
        refine ⟨out, ?_, hro⟩
        simp only [Instr.fill, hpl]
        have hszarr : arr.size = ls.length := h.1
        rw [if_neg (by simp only [Bool.or_eq_true, bne_iff_ne, ne_eq, decide_eq_true_eq, not_or, Decidable.not_not]; omega)]
        exact ho
      · cases hf
  | [], _ :: _, _, _, _, _, h, _, _ => by cases h
  | _ :: _, [], _, _, _, _, h, _, _ => by cases h
end Go.Proofs.YtahciphhopiipaaGreatDoor.V
