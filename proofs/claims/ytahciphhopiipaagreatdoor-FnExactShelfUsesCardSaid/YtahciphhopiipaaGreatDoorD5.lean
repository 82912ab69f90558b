/- Which modules use a module. -/
import Derived.Test.YtahciphhopiipaaGreatDoorD2
set_option linter.unusedVariables false
set_option linter.unusedSimpArgs false
namespace Go.Proofs.YtahciphhopiipaaGreatDoor
open Go Go.RowKit V

theorem scal_rS (l : List ByteArray) : ScalarRows (l.map rS) := by
  intro r hr x hx
  obtain ⟨s, -, rfl⟩ := List.mem_map.1 hr
  simp [rS] at hx; subst hx; rfl
theorem scal_rI (l : List Int) : ScalarRows (l.map rI) := by
  intro r hr x hx
  obtain ⟨s, -, rfl⟩ := List.mem_map.1 hr
  simp [rI] at hx; subst hx; rfl

/-- A type that is of a record of a module. -/
def nmB (at' : Int) (t : ByteArray) : Bool := isKind (pl t) && decide (((kM (pl t) : Nat) : Int) = at')
def idxF (q : ByteArray → Bool) (l : List ByteArray) : Int := if l.any q then ((l.findIdx q : Nat) : Int) else -1
theorem any_nth {α : Type} [Inhabited α] {q : α → Bool} {l : List α} {i : Nat} (hi : i < l.length) (h : q (nth l i) = true) : l.any q = true := List.any_eq_true.2 ⟨_, nth_mem hi, h⟩
theorem any_no {α : Type} [Inhabited α] {q : α → Bool} {l : List α} {n : Nat} (h : ∀ j, j < n → q (nth l j) = false) (hn : l.length ≤ n) : l.any q = false := by
  rw [List.any_eq_false]
  intro x hx
  obtain ⟨j, hj, rfl⟩ := List.mem_iff_getElem.1 hx
  have h2 := h j (by omega)
  have h3 := nth_at (l := l) (i := j) hj
  rw [List.getElem?_eq_getElem hj] at h3
  rw [Option.some.inj h3, h2]; simp
theorem idx_at {q : ByteArray → Bool} {l : List ByteArray} {i : Nat} (hi : i < l.length) (hno : ∀ j, j < i → q (nth l j) = false) (h : q (nth l i) = true) : ((i : Nat) : Int) = idxF q l := by
  unfold idxF
  rw [if_pos (any_nth hi h)]
  congr 1
  have e : ∀ j, (hj : j < l.length) → l[j] = nth l j := fun j hj => by
    have h3 := nth_at (l := l) (i := j) hj
    rw [List.getElem?_eq_getElem hj] at h3
    exact Option.some.inj h3
  symm
  rw [List.findIdx_eq hi]
  exact ⟨by rw [e i hi]; exact h, fun j hj => by rw [e j (by omega)]; exact hno j hj⟩
theorem idx_none {q : ByteArray → Bool} {l : List ByteArray} {n : Nat} (h : ∀ j, j < n → q (nth l j) = false) (hn : l.length ≤ n) : (-1 : Int) = idxF q l := by
  unfold idxF; rw [any_no h hn]; rfl
theorem idx_ge (q : ByteArray → Bool) (l : List ByteArray) : decide (idxF q l ≥ 0) = l.any q := by
  unfold idxF
  cases h : l.any q with
  | true => simp
  | false => simp

def recUse (at' : Int) (r : Rec) : Bool := r.fields.any (nmB at')
def insUse (at' : Int) (i : Ins) : Bool := (i.op.toList == (⟨#[99, 97, 108, 108]⟩ : ByteArray).toList) && decide (i.a = at')
def fnHead (at' : Int) (f : Fn) : Bool := f.args.any (nmB at') || f.rets.any (nmB at') || f.locals.any (nmB at')
def fnUse (at' : Int) (f : Fn) : Bool := fnHead at' f || f.code.any (insUse at')
def modUse (at' : Int) (m : Mod) : Bool := m.records.any (recUse at') || m.funcs.any (fnUse at')
def usQ (a : List Mod) (at' : Int) (i : Nat) : Bool := decide (((i : Nat) : Int) ≠ at') && modUse at' (nth a i)
def usTo (a : List Mod) (at' : Int) (n : Nat) : List Int := ((List.range n).filter (usQ a at')).map fun i => ((i : Nat) : Int)
def inRg (a : List Mod) (at' : Int) : Prop := Shape a ∧ 0 ≤ at' ∧ at' ≤ ((a.length : Nat) : Int) - 1
noncomputable def usL (a : List Mod) (at' : Int) : List Int := if B (inRg a at') then usTo a at' a.length else []
theorem usTo_yes {a : List Mod} {at' : Int} {i : Nat} (h : usQ a at' i = true) : (usTo a at' i).map rI ++ [[.int .i64 ((i : Nat) : Int)]] = (usTo a at' (i + 1)).map rI := by
  unfold usTo
  rw [List.range_succ, List.filter_append, List.map_append, List.map_append]
  simp [List.filter, h, rI]
theorem usTo_no {a : List Mod} {at' : Int} {i : Nat} (h : usQ a at' i = false) : usTo a at' i = usTo a at' (i + 1) := by
  unfold usTo
  rw [List.range_succ, List.filter_append, List.map_append]
  simp [List.filter, h]
theorem usTo_len (a : List Mod) (at' : Int) (n : Nat) : (usTo a at' n).length ≤ n := by
  unfold usTo
  rw [List.length_map]
  have := List.length_filter_le (usQ a at') (List.range n)
  simpa using this
theorem usL_yes {a : List Mod} {at' : Int} {n : Nat} (h : inRg a at') (hn : a.length = n) : usTo a at' n = usL a at' := by unfold usL; rw [B_true h, hn]; rfl
theorem usL_no {a : List Mod} {at' : Int} (h : ¬ inRg a at') : [] = usL a at' := by unfold usL; rw [B_false h]; rfl
theorem usL_len (a : List Mod) (at' : Int) : (usL a at').length ≤ a.length := by
  unfold usL
  split
  · exact usTo_len a at' a.length
  · simp
theorem mod_rec {m : Mod} {at' : Int} {i : Nat} (hi : i < m.records.length) (h : (nth m.records i).fields.any (nmB at') = true) : true = modUse at' m := by
  unfold modUse; rw [any_nth (q := recUse at') hi h]; rfl
theorem mod_fn {m : Mod} {at' : Int} {k : Nat} (hk : k < m.funcs.length) (h : fnUse at' (nth m.funcs k) = true) : true = modUse at' m := by
  unfold modUse; rw [any_nth (q := fnUse at') hk h, Bool.or_true]
theorem fn_ins {f : Fn} {at' : Int} {q : Nat} (hq : q < f.code.length) (h : insUse at' (nth f.code q) = true) : fnUse at' f = true := by
  unfold fnUse; rw [any_nth (q := insUse at') hq h, Bool.or_true]
theorem fn_head {f : Fn} {at' : Int} (h : fnHead at' f = true) : fnUse at' f = true := by unfold fnUse; rw [h]; rfl
theorem fn_no {f : Fn} {at' : Int} {n : Nat} (h : fnHead at' f = false) (hc : ∀ j, j < n → insUse at' (nth f.code j) = false) (hn : f.code.length ≤ n) : fnUse at' f = false := by
  unfold fnUse; rw [h, any_no hc hn]; rfl
theorem mod_no {m : Mod} {at' : Int} {n k : Nat} (h : ∀ j, j < n → recUse at' (nth m.records j) = false) (hn : m.records.length ≤ n) (hf : ∀ j, j < k → fnUse at' (nth m.funcs j) = false) (hk : m.funcs.length ≤ k) : false = modUse at' m := by
  unfold modUse; rw [any_no h hn, any_no hf hk]; rfl
theorem spec_end {a : List Mod} {at' : Int} {i : Nat} (h : i ≤ a.length ∧ (i = 0 ∨ inRg a at')) (hc : ¬ (i < a.length ∧ inRg a at')) : usTo a at' i = usL a at' := by
  by_cases hin : inRg a at'
  · exact usL_yes hin (by have : ¬ i < a.length := fun h2 => hc ⟨h2, hin⟩; omega)
  · rcases h.2 with rfl | h2
    · exact usL_no hin
    · exact absurd h2 hin
end Go.Proofs.YtahciphhopiipaaGreatDoor
