/- Marks: how many there are, what they are. -/
import Derived.Test.YtahciphhopiipaaGreatDoorD5
import Derived.Test.YtahciphhopiipaaGreatDoorW1
set_option linter.unusedVariables false
set_option linter.unusedSimpArgs false
namespace Go.Proofs.YtahciphhopiipaaGreatDoor
open Go Go.RowKit V

def dgt (k : Int) : ByteArray := ⟨#[UInt8.ofNat (48 + k.toNat)]⟩
theorem dgt_size (k : Int) : (dgt k).size = 1 := rfl
theorem dgt_rows {k : Int} (h0 : 0 ≤ k) (h1 : k < 10) : ([[.int .u8 (48 + k)]] : List (List SV)) = bytesR (dgt k) := by
  have e : ((UInt8.ofNat (48 + k.toNat)).toNat : Int) = 48 + k := by
    rw [UInt8.toNat_ofNat']; omega
  show _ = [[SV.int .u8 ((UInt8.ofNat (48 + k.toNat)).toNat : Int)]]
  rw [e]
theorem strf {a b : ByteArray} (h : a.size + b.size ≤ 9223372036854775807) : ((a.size + b.size : Nat) : Int) ≤ IntKind.i64.max := by
  show ((a.size + b.size : Nat) : Int) ≤ 9223372036854775807; omega

def cRec (r : Rec) : Nat := 1 + r.fields.length
def cIns (_ : Ins) : Nat := 3
def cFn (f : Fn) : Nat := 1 + f.args.length + f.rets.length + f.locals.length + f.takes.length + (f.code.map cIns).sum
def cMod (m : Mod) : Nat := (m.records.map cRec).sum + (m.funcs.map cFn).sum + m.friends.length
theorem sum_le {α : Type} {f g : α → Nat} {l : List α} (h : ∀ x ∈ l, f x ≤ 3 * (1 + g x)) : (l.map f).sum ≤ 3 * (l.length + (l.map g).sum) := by
  induction l with
  | nil => simp
  | cons x xs ih =>
    have h1 := h x (by simp)
    have h2 := ih fun y hy => h y (by simp [hy])
    simp only [List.map_cons, List.sum_cons, List.length_cons]
    omega
theorem cIns_sum (l : List Ins) : (l.map cIns).sum = 3 * l.length := by
  induction l with
  | nil => rfl
  | cons x xs ih => simp only [List.map_cons, List.sum_cons, List.length_cons, ih]; unfold cIns; omega
theorem cRec_le (r : Rec) : cRec r ≤ 3 * (1 + wRec r) := by unfold cRec wRec wS; omega
theorem cFn_le (f : Fn) : cFn f ≤ 3 * (1 + wFn f) := by unfold cFn wFn wS wInss; rw [cIns_sum]; omega
theorem cMod_le (m : Mod) : cMod m ≤ 3 * (1 + wMod m) := by
  have h1 := sum_le (l := m.records) (fun r _ => cRec_le r)
  have h2 := sum_le (l := m.funcs) (fun f _ => cFn_le f)
  unfold cMod wMod wRecs wFns
  omega
theorem cMods_le (a : List Mod) : (a.map cMod).sum ≤ 3 * wMods a := sum_le fun m _ => cMod_le m

def marksL (n : Nat) : List Int := (List.range n).map fun i => 1 + ((i : Nat) : Int)
theorem marks_len (n : Nat) : (marksL n).length = n := by simp [marksL]
theorem marks_nth {n i : Nat} (h : i < n) : nth (marksL n) i = 1 + ((i : Nat) : Int) := by
  have h2 := nth_at (l := marksL n) (i := i) (by rw [marks_len]; exact h)
  rw [marksL, List.getElem?_map, List.getElem?_range h] at h2
  exact (Option.some.inj h2).symm
theorem get_lt' {α : Type} {l : List α} {i : Nat} (h : i < l.length) : ∃ x, l[i]? = some x := ⟨_, List.getElem?_eq_getElem h⟩
theorem map_at {α : Type} {f : α → List SV} {l : List α} {i : Nat} {x : α} (h : l[i]? = some x) : (l.map f)[i]? = some (f x) := by rw [List.getElem?_map, h]; rfl
end Go.Proofs.YtahciphhopiipaaGreatDoor
