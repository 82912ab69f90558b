/- The data of this claim by value: records, instructions, functions, modules; lists in rows. -/
import Derived.Test.YtahciphhopiipaaGreatDoorX8
set_option linter.unusedVariables false
set_option linter.unusedSimpArgs false
namespace Go.Proofs.YtahciphhopiipaaGreatDoor
open Go Go.RowKit V

structure Rec where
  able : Int
  fields : List ByteArray
  deriving DecidableEq, Inhabited
structure Ins where
  op : ByteArray
  a : Int
  b : Int
  deriving DecidableEq, Inhabited
structure Fn where
  seen : Int
  args : List ByteArray
  rets : List ByteArray
  locals : List ByteArray
  takes : List Int
  code : List Ins
  deriving DecidableEq, Inhabited
structure Mod where
  records : List Rec
  funcs : List Fn
  friends : List Int
  deriving DecidableEq, Inhabited

def rI (n : Int) : List SV := [.int .i64 n]
def rS (s : ByteArray) : List SV := [.str s]
def rRec (r : Rec) : List SV := [.int .i64 r.able, .sl 1 (r.fields.map rS)]
def rIns (i : Ins) : List SV := [.str i.op, .int .i64 i.a, .int .i64 i.b]
def rFn (f : Fn) : List SV := [.int .i64 f.seen, .sl 1 (f.args.map rS), .sl 1 (f.rets.map rS), .sl 1 (f.locals.map rS), .sl 1 (f.takes.map rI), .sl 3 (f.code.map rIns)]
def rMod (m : Mod) : List SV := [.sl 2 (m.records.map rRec), .sl 6 (m.funcs.map rFn), .sl 1 (m.friends.map rI)]

theorem toList_loop (bs : ByteArray) : ∀ (n i : Nat) (r : List UInt8), bs.size - i = n → ByteArray.toList.loop bs i r = r.reverse ++ bs.data.toList.drop i
  | 0, i, r, h => by
    unfold ByteArray.toList.loop
    have hs : bs.data.toList.length = bs.size := Array.length_toList
    rw [if_neg (by omega), List.drop_of_length_le (by omega)]; simp
  | n + 1, i, r, h => by
    unfold ByteArray.toList.loop
    have hs : bs.data.toList.length = bs.size := Array.length_toList
    have hi : i < bs.data.toList.length := by omega
    rw [if_pos (by omega), toList_loop bs n (i + 1) _ (by omega), List.drop_eq_getElem_cons hi]
    have e : bs.get! i = bs.data.toList[i] := by
      simp only [ByteArray.get!, Array.getElem_toList]
      rw [getElem!_pos]
    simp [e]
theorem bytes_toList (bs : ByteArray) : bs.toList = bs.data.toList := by
  unfold ByteArray.toList
  rw [toList_loop bs _ 0 [] rfl]; simp
theorem bytes_eq {a b : ByteArray} : (a.toList == b.toList) = true ↔ a = b := by
  rw [beq_iff_eq, bytes_toList, bytes_toList]
  constructor
  · intro h
    exact ByteArray.ext (Array.ext' h)
  · intro h; rw [h]

theorem take_succ_eq {α : Type} {a b : List α} {i : Nat} {x y : α} (hx : a[i]? = some x) (hy : b[i]? = some y) : a.take (i + 1) = b.take (i + 1) ↔ a.take i = b.take i ∧ x = y := by
  rw [List.take_add_one, List.take_add_one, hx, hy]
  constructor
  · intro h
    have h1 := List.append_inj' h (by simp)
    exact ⟨h1.1, by simpa using h1.2⟩
  · rintro ⟨h1, h2⟩; rw [h1, h2]

/-- Filled up to a place. -/
def fillTo {α : Type} (f : α → List SV) (l : List α) (zs : List SV) (i : Nat) : List (List SV) := (l.take i).map f ++ List.replicate (l.length - i) zs
theorem fillTo_zero {α : Type} (f : α → List SV) (l : List α) (zs : List SV) : List.replicate l.length zs = fillTo f l zs 0 := by simp [fillTo]
theorem fillTo_all {α : Type} (f : α → List SV) (l : List α) (zs : List SV) : fillTo f l zs l.length = l.map f := by simp [fillTo]
theorem fillTo_len {α : Type} {f : α → List SV} {l : List α} {zs : List SV} {i : Nat} (h : i ≤ l.length) : (fillTo f l zs i).length = l.length := by simp [fillTo]; omega
theorem fillTo_set {α : Type} {f : α → List SV} {l : List α} {zs : List SV} {i : Nat} {x : α} (h : l[i]? = some x) : (fillTo f l zs i).set i (f x) = fillTo f l zs (i + 1) := by
  have hi := (List.getElem?_eq_some_iff.1 h).1
  apply List.ext_getElem?
  intro j
  rw [List.getElem?_set]
  have hl : (fillTo f l zs i).length = l.length := fillTo_len (by omega)
  simp only [fillTo, List.getElem?_append, List.length_map, List.length_take, List.getElem?_map, List.getElem?_replicate, List.getElem?_take]
  have m1 : min i l.length = i := by omega
  have m2 : min (i + 1) l.length = i + 1 := by omega
  rw [m1, m2]
  simp only [List.length_append, List.length_map, List.length_take, List.length_replicate, m1]
  by_cases e : i = j
  · subst e
    have a1 : i < i + (l.length - i) := by omega
    have a2 : i < i + 1 := by omega
    simp [a1, a2, h]
  · rw [if_neg e]
    by_cases c1 : j < i
    · have c2 : j < i + 1 := by omega
      simp [c1, c2]
    · have c2 : ¬ j < i + 1 := by omega
      rw [if_neg c1, if_neg c2]
      by_cases c3 : j - i < l.length - i
      · have c4 : j - (i + 1) < l.length - (i + 1) := by omega
        simp [c3, c4]
      · have c4 : ¬ j - (i + 1) < l.length - (i + 1) := by omega
        simp [c3, c4]
theorem fillTo_get {α : Type} {f : α → List SV} {l : List α} {zs : List SV} {i : Nat} (h : i < l.length) : (fillTo f l zs i)[i]? = some zs := by
  simp only [fillTo, List.getElem?_append, List.length_map, List.length_take, List.getElem?_replicate]
  have m1 : min i l.length = i := by omega
  rw [m1]
  simp
  omega
theorem cutIn_all {zs new : List SV} (h : new.length = zs.length) : cutIn zs 0 new = new := by simp [cutIn, h]

/-- The next place is filled. -/
theorem fillU {α : Type} {f : α → List SV} {l : List α} {zs : List SV} {i sz : Nat} {x : α} (h : l[i]? = some x) (hz : zs.length = sz) (hf : (f x).length = sz) :
    AllP [(fillTo f l zs i)[i]? = some zs, ((i : Nat) : Int).toNat * sz = i * sz + 0, 0 + sz ≤ sz, ∀ z, some (fillTo f l zs (i + 1)) = some z → (fillTo f l zs i).set i (cutIn zs 0 (f x)) = z] := by
  refine ⟨fillTo_get (List.getElem?_eq_some_iff.1 h).1, by simp, by omega, fun z e => ?_, trivial⟩
  cases e
  rw [cutIn_all (by rw [hf, hz]), fillTo_set h]
theorem retT {p : Prop} [Decidable p] (h : p) : slotOf [.lf (.im true (.bool true))] = Slot.bool (decide p) := by rw [decide_eq_true h]; rfl
theorem retF {p : Prop} [Decidable p] (h : ¬ p) : slotOf [.lf (.im true (.bool false))] = Slot.bool (decide p) := by rw [decide_eq_false h]; rfl
theorem retB {b c : Bool} (h : b = c) : slotOf [.lf (.im true (.bool b))] = Slot.bool c := by rw [h]; rfl
theorem ne_at {α : Type} {a b : List α} {i : Nat} {x y : α} (hx : a[i]? = some x) (hy : b[i]? = some y) (h : x ≠ y) : a ≠ b := by
  intro e; subst e; rw [hx] at hy; cases hy; exact h rfl
theorem ne_len {α : Type} {a b : List α} (h : ¬ (a.length : Int) = b.length) : a ≠ b := by intro e; rw [e] at h; exact h rfl
theorem all_take {α : Type} {a b : List α} {i : Nat} (hl : a.length = b.length) (hi : a.length ≤ i) (h : a.take i = b.take i) : a = b := by
  rwa [List.take_of_length_le hi, List.take_of_length_le (by omega)] at h
theorem retL {sz : Nat} {a b : List (List SV)} (h : a = b) : slotOf [.lf (.im true (.sl sz a))] = .lf (.im true (.sl sz b)) := by rw [h]; rfl
theorem retI {a b : Int} (h : a = b) : slotOf [.lf (.im true (.int .i64 a))] = Slot.int b := by rw [h]; rfl

/-- What is bounded: each text and each list. -/

def okS (l : List ByteArray) : Prop := l.length ≤ 140737488355328 ∧ ∀ s ∈ l, s.size ≤ 140737488355328
def Rec.ok (r : Rec) : Prop := okS r.fields
def Ins.ok (i : Ins) : Prop := i.op.size ≤ 140737488355328
def Fn.ok (f : Fn) : Prop := okS f.args ∧ okS f.rets ∧ okS f.locals ∧ f.takes.length ≤ 140737488355328 ∧ f.code.length ≤ 140737488355328 ∧ ∀ i ∈ f.code, i.ok
def Mod.ok (m : Mod) : Prop := (m.records.length ≤ 140737488355328 ∧ ∀ r ∈ m.records, r.ok) ∧ (m.funcs.length ≤ 140737488355328 ∧ ∀ f ∈ m.funcs, f.ok) ∧ m.friends.length ≤ 140737488355328
/-- What is small enough to be made anew. -/
def Rec.small (r : Rec) : Prop := r.fields.length ≤ 1048576
def Fn.small (f : Fn) : Prop := f.args.length ≤ 1048576 ∧ f.rets.length ≤ 1048576 ∧ f.locals.length ≤ 1048576 ∧ f.takes.length ≤ 1048576 ∧ f.code.length ≤ 1048576
def Mod.small (m : Mod) : Prop := (m.records.length ≤ 1048576 ∧ ∀ r ∈ m.records, r.small) ∧ (m.funcs.length ≤ 1048576 ∧ ∀ f ∈ m.funcs, f.small) ∧ m.friends.length ≤ 1048576
theorem mem_at {α : Type} {l : List α} {i : Nat} {x : α} {p : α → Prop} (h : ∀ y ∈ l, p y) (hx : l[i]? = some x) : p x := h x (List.mem_of_getElem? hx)

/-- What the first places come to. -/
def sumTo {α : Type} (f : α → Nat) (l : List α) (i : Nat) : Nat := ((l.take i).map f).sum
theorem sumTo_zero {α : Type} (f : α → Nat) (l : List α) : sumTo f l 0 = 0 := by simp [sumTo]
theorem sumTo_succ {α : Type} {f : α → Nat} {l : List α} {i : Nat} {x : α} (h : l[i]? = some x) : sumTo f l (i + 1) = sumTo f l i + f x := by
  simp [sumTo, List.take_add_one, h]
theorem sumTo_all {α : Type} {f : α → Nat} {l : List α} {i : Nat} (h : l.length ≤ i) : sumTo f l i = (l.map f).sum := by
  simp [sumTo, List.take_of_length_le h]
theorem sumTo_le {α : Type} (f : α → Nat) (l : List α) (i : Nat) : sumTo f l i ≤ (l.map f).sum := by
  have h : (l.map f).sum = sumTo f l i + ((l.drop i).map f).sum := by
    rw [sumTo, ← List.sum_append, ← List.map_append, List.take_append_drop]
  omega
/-- What is left of a measure. -/
def szR (w : Nat) (left : Int) : Int := if (w : Int) ≤ left then left - w else -1
theorem szR_no {w : Nat} {left : Int} (h : left < w) : -1 = szR w left := by unfold szR; rw [if_neg (by omega)]
theorem szR_yes {w : Nat} {left a : Int} (h : 0 ≤ a) (e : a = left - w) : a = szR w left := by unfold szR; rw [if_pos (by omega)]; exact e
theorem szR_neg {w : Nat} {left : Int} : szR w left < 0 → left < w := by unfold szR; split <;> omega
theorem szR_pos {w : Nat} {left : Int} : ¬ szR w left < 0 → 0 ≤ left → (w : Int) ≤ left ∧ szR w left = left - w := by unfold szR; split <;> omega
def wS (l : List ByteArray) : Nat := l.length + (l.map ByteArray.size).sum
def wRec (r : Rec) : Nat := wS r.fields
def wRecs (l : List Rec) : Nat := l.length + (l.map wRec).sum
def wIns (i : Ins) : Nat := i.op.size
def wInss (l : List Ins) : Nat := l.length + (l.map wIns).sum
def wFn (f : Fn) : Nat := wS f.args + wS f.rets + wS f.locals + f.takes.length + wInss f.code
def wFns (l : List Fn) : Nat := l.length + (l.map wFn).sum
def wMod (m : Mod) : Nat := wRecs m.records + wFns m.funcs + m.friends.length
def wMods (l : List Mod) : Nat := l.length + (l.map wMod).sum
/-- A proposition as a truth. -/
noncomputable def B (p : Prop) : Bool := @decide p (Classical.propDecidable p)
theorem B_true {p : Prop} (h : p) : B p = true := by exact @decide_eq_true p (Classical.propDecidable p) h
theorem B_false {p : Prop} (h : ¬ p) : B p = false := by exact @decide_eq_false p (Classical.propDecidable p) h
theorem B_iff {p : Prop} : B p = true ↔ p := by exact @decide_eq_true_iff p (Classical.propDecidable p)
theorem retBT {p : Prop} (h : p) : slotOf [.lf (.im true (.bool true))] = Slot.bool (B p) := by rw [B_true h]; rfl
theorem retBF {p : Prop} (h : ¬ p) : slotOf [.lf (.im true (.bool false))] = Slot.bool (B p) := by rw [B_false h]; rfl
theorem retBB {p : Prop} {b : Bool} (h : b = true ↔ p) : slotOf [.lf (.im true (.bool b))] = Slot.bool (B p) := by
  cases b with
  | true => exact retBT (h.1 rfl)
  | false => exact retBF fun hp => by simpa using h.2 hp
theorem rec_eq {r s : Rec} (h1 : r.able = s.able) (h2 : r.fields = s.fields) : r = s := by cases r; cases s; simp at h1 h2; rw [h1, h2]

/-- A function goes on with another one. -/
def FnOn (f g : Fn) : Prop := f.seen = 0 ∨ (f.seen ≤ g.seen ∧ f.args = g.args ∧ f.rets = g.rets)
/-- A module goes on with another one. -/
structure GoesOn (o m : Mod) : Prop where
  recs : o.records.length ≤ m.records.length
  funcs : o.funcs.length ≤ m.funcs.length
  recEq : ∀ (i : Nat) r s, o.records[i]? = some r → m.records[i]? = some s → r = s
  fn : ∀ (i : Nat) f g, o.funcs[i]? = some f → m.funcs[i]? = some g → FnOn f g
  friend : ∀ n ∈ o.friends, n ∈ m.friends
theorem upto_succ {α : Type} {p : α → α → Prop} {a b : List α} {i : Nat} {x y : α} (h : ∀ (j : Nat) r s, j < i → a[j]? = some r → b[j]? = some s → p r s) (hx : a[i]? = some x) (hy : b[i]? = some y) (hp : p x y) :
    ∀ (j : Nat) r s, j < i + 1 → a[j]? = some r → b[j]? = some s → p r s := by
  intro j r s hj h1 h2
  by_cases e : j = i
  · subst e; rw [hx] at h1; rw [hy] at h2; cases h1; cases h2; exact hp
  · exact h j r s (by omega) h1 h2
theorem upto_all {α : Type} {p : α → α → Prop} {a b : List α} {i : Nat} (h : ∀ (j : Nat) r s, j < i → a[j]? = some r → b[j]? = some s → p r s) (hi : a.length ≤ i) : ∀ (j : Nat) r s, a[j]? = some r → b[j]? = some s → p r s :=
  fun j r s h1 h2 => h j r s (by have := (List.getElem?_eq_some_iff.1 h1).1; omega) h1 h2
theorem mem_succ {α : Type} {p : α → Prop} {a : List α} {i : Nat} {x : α} (h : ∀ y ∈ a.take i, p y) (hx : a[i]? = some x) (hp : p x) : ∀ y ∈ a.take (i + 1), p y := by
  intro y hy
  rw [List.take_add_one, hx] at hy
  simp at hy
  rcases hy with hy | rfl
  · exact h y hy
  · exact hp
theorem mem_all {α : Type} {p : α → Prop} {a : List α} {i : Nat} (h : ∀ y ∈ a.take i, p y) (hi : a.length ≤ i) : ∀ y ∈ a, p y := by rwa [List.take_of_length_le hi] at h
/-- Where a number stands first. -/
def indexOf (l : List Int) (v : Int) : Int := if v ∈ l then ((l.findIdx (· == v) : Nat) : Int) else -1
theorem indexOf_at {l : List Int} {v : Int} {i : Nat} (h : l[i]? = some v) (hn : ∀ y ∈ l.take i, y ≠ v) : indexOf l v = i := by
  obtain ⟨hi, hv⟩ := List.getElem?_eq_some_iff.1 h
  unfold indexOf
  rw [if_pos (List.mem_of_getElem? h)]
  congr 1
  rw [List.findIdx_eq hi]
  refine ⟨by simp [hv], fun j hj => ?_⟩
  have : l[j]? = some l[j] := List.getElem?_eq_getElem (by omega)
  have hm : l[j] ∈ l.take i := List.mem_of_getElem? (i := j) (by rw [List.getElem?_take, if_pos hj, this])
  simpa using hn _ hm
theorem indexOf_no {l : List Int} {v : Int} (hn : ∀ y ∈ l, y ≠ v) : indexOf l v = -1 := by
  unfold indexOf
  rw [if_neg fun h => hn v h rfl]
theorem indexOf_geq {l : List Int} {v : Int} : decide (indexOf l v ≥ 0) = true ↔ v ∈ l := by
  unfold indexOf
  split
  · rename_i h; simp [h]
  · rename_i h; simp [h]
theorem le_sum {α : Type} {f : α → Nat} {l : List α} {x : α} (h : x ∈ l) : f x ≤ (l.map f).sum := by
  induction l with
  | nil => cases h
  | cons y l ih =>
    rw [List.map_cons, List.sum_cons]
    rcases List.mem_cons.1 h with rfl | h
    · omega
    · have := ih h; omega
theorem Mod.small_of {m : Mod} (h : wMod m ≤ 1048576) : m.small := by
  unfold wMod wRecs wFns at h
  refine ⟨⟨by omega, fun r hr => ?_⟩, ⟨by omega, fun f hf => ?_⟩, by omega⟩
  · have h1 := le_sum (f := wRec) hr
    show r.fields.length ≤ 1048576
    have h2 : wRec r = wS r.fields := rfl
    unfold wS at h2
    omega
  · have h1 := le_sum (f := wFn) hf
    have h2 : wFn f = wS f.args + wS f.rets + wS f.locals + f.takes.length + wInss f.code := rfl
    unfold wS wInss at h2
    exact ⟨by omega, by omega, by omega, by omega, by omega⟩
/-- What was read is bounded. -/
def okStr (s : ByteArray) : Prop := s.size ≤ 140737488351232
def okInt (n : Int) : Prop := (Lit.int .i64 n).wf = true
def okL {α : Type} (p : α → Prop) (l : List α) : Prop := l.length ≤ 140737488351232 ∧ ∀ x ∈ l, p x
theorem okS_of {l : List ByteArray} (h : okL okStr l) : okS l := ⟨by have := h.1; omega, fun s hs => by have := h.2 s hs; unfold okStr at this; omega⟩
theorem okLen {α : Type} {p : α → Prop} {l : List α} (h : okL p l) : l.length ≤ 140737488355328 := by have := h.1; omega
theorem okRec {n : Int} {l : List ByteArray} (h1 : okInt n) (h2 : okL okStr l) : (Rec.mk n l).ok := okS_of h2
theorem okIns {s : ByteArray} {a b : Int} (h1 : okStr s) (h2 : okInt a) (h3 : okInt b) : (Ins.mk s a b).ok := by unfold okStr at h1; show s.size ≤ _; omega
theorem okFn {n : Int} {a b c : List ByteArray} {d : List Int} {e : List Ins} (h1 : okInt n) (h2 : okL okStr a) (h3 : okL okStr b) (h4 : okL okStr c) (h5 : okL okInt d) (h6 : okL Ins.ok e) : (Fn.mk n a b c d e).ok :=
  ⟨okS_of h2, okS_of h3, okS_of h4, okLen h5, okLen h6, h6.2⟩
theorem okMod {a : List Rec} {b : List Fn} {c : List Int} (h1 : okL Rec.ok a) (h2 : okL Fn.ok b) (h3 : okL okInt c) : (Mod.mk a b c).ok := ⟨⟨okLen h1, h1.2⟩, ⟨okLen h2, h2.2⟩, okLen h3⟩
theorem of_nT {b : Bool} (h : (!b) = true) : b = false := by cases b <;> simp_all
theorem of_nF {b : Bool} (h : (!b) = false) : b = true := by cases b <;> simp_all
end Go.Proofs.YtahciphhopiipaaGreatDoor
