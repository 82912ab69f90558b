/- A by-value logic over the walk's predicates: values, tags of blocks, the state of a frame. No program in sight. -/
import Derived.Test.YtahciphhopiipaaGreatDoorL0
import Derived.Below
import Derived.Laws.AppendOwn
import Derived.Laws.MakeOwn
import Derived.Laws.OwnMore
import Derived.Calls
set_option linter.unusedVariables false
set_option linter.unusedSimpArgs false
namespace Go.Proofs.YtahciphhopiipaaGreatDoor.V
open Go

/-- Immutable data by value; a slice is its rows of cells. -/
inductive SV where
  | int (k : IntKind) (n : Int)
  | bool (b : Bool)
  | str (s : ByteArray)
  | sl (sz : Nat) (rows : List (List SV))
  | fn (f : FuncId) (caps : List SV)
  deriving Inhabited

/-- What a block is to the frame: shared and never written, lent, owned by a place (key, part, leaf). -/
inductive Tag where
  | none | imm | lent
  | own (k i j : Nat)
  deriving DecidableEq, Inhabited

/-- A value holds data, all of it in blocks of a set. -/
inductive SRep (S : Nat → Prop) (w : World) : Value → SV → Prop
  | int (k : IntKind) (n : Int) : SRep S w (.int k n) (.int k n)
  | bool (b : Bool) : SRep S w (.bool b) (.bool b)
  | str (s : ByteArray) : SRep S w (.string s) (.str s)
  | nil (sz : Nat) (a : Option Addr) (cap : Nat) : SRep S w (.slice a 0 cap) (.sl sz [])
  | sl (b off n cap sz : Nat) (rows : List (List SV)) (cv : Nat → Value) (hn : n = rows.length) (hc : n ≤ cap)
      (hw : ∀ r ∈ rows, r.length = sz) (hS : S b)
      (hcell : ∀ i r j x, rows[i]? = some r → r[j]? = some x → w.cell? ⟨b, off + (i * sz + j), none⟩ = some (cv (i * sz + j)))
      (hrep : ∀ i r j x, rows[i]? = some r → r[j]? = some x → SRep S w (cv (i * sz + j)) x) :
      SRep S w (.slice (some ⟨b, off, none⟩) n cap) (.sl sz rows)
  | fn (f : FuncId) (vs : Array Value) (caps : List SV) (bs : Nat → Nat) (os : Nat → Nat) (cv : Nat → Value) (hl : vs.size = caps.length)
      (hv : ∀ i x, caps[i]? = some x → vs[i]? = some (.pointer (some ⟨bs i, os i, none⟩)) ∧ S (bs i) ∧ w.cell? ⟨bs i, os i, none⟩ = some (cv i))
      (hrep : ∀ i x, caps[i]? = some x → SRep S w (cv i) x) :
      SRep S w (.func (.func f) #[] vs) (.fn f caps)

theorem SRep.mono {S S' : Nat → Prop} {w w' : World} {v : Value} {x : SV} (h : SRep S w v x)
    (hw : ∀ b, S b → w'.heap[b]? = w.heap[b]?) (hS : ∀ b, S b → S' b) : SRep S' w' v x := by
  induction h with
  | int k n => exact .int k n
  | bool b => exact .bool b
  | str s => exact .str s
  | nil sz a cap => exact .nil sz a cap
  | sl b off n cap sz rows cv hn hc hwd hSb hcell _ ih =>
    exact .sl b off n cap sz rows cv hn hc hwd (hS b hSb)
      (fun i r j x h1 h2 => by rw [World.cell?_of_block (w := w) (hw b hSb)]; exact hcell i r j x h1 h2) ih
  | fn f vs caps bs os cv hl hv _ ih =>
    exact .fn f vs caps bs os cv hl (fun i x h => ⟨(hv i x h).1, hS _ (hv i x h).2.1, by rw [World.cell?_of_block (w := w) (hw _ (hv i x h).2.1)]; exact (hv i x h).2.2⟩) ih

/-- A leaf: data; an owned slice (the names of its block and capacity, element type, cells an element, rows); a header onto an owned block; an address into an owned block; an address into data; a nil slice; unknown. -/
inductive Leaf where
  | im (sh : Bool) (v : SV)
  | u (b c : Nat) (e : TypeId) (sz : Nat) (rows : List (List SV))
  | hd (b n c : Nat)
  | ptr (b off : Nat)
  | sref (sh : Bool) (row : List SV)
  | nil
  | hole
  deriving Inhabited

inductive Part where
  | lf (l : Leaf)
  | agg (ls : List Leaf)
  deriving Inhabited

inductive Slot where
  | one (p : Part)
  | tup (ps : List Part)
  | cell (b : Nat) (ls : List Leaf)
  | obj (b T e : Nat) (s : ByteArray)
  deriving Inhabited

abbrev Slot.hole : Slot := .one (.lf .hole)
abbrev Slot.lf (l : Leaf) : Slot := .one (.lf l)
abbrev Slot.agg (ls : List Leaf) : Slot := .one (.agg ls)
abbrev Slot.im (v : SV) : Slot := .one (.lf (.im true v))
abbrev Slot.int (n : Int) : Slot := .one (.lf (.im true (.int .i64 n)))
abbrev Slot.bool (b : Bool) : Slot := .one (.lf (.im true (.bool b)))

abbrev St := Nat → Slot
def upd (σ : St) (k : Nat) (s : Slot) : St := fun k' => if k' = k then s else σ k'
/-- The keys: a temporary's, and that of the cell that a temporary's operation has made. -/
abbrev tk (t : Nat) : Nat := 2 * t
abbrev ck (t : Nat) : Nat := 2 * t + 1

/-- The set of blocks that data may lie in. -/
def Imm (g : Nat → Tag) (sh : Bool) (b : Nat) : Prop := g b = .imm ∨ (sh = false ∧ g b = .lent)

/-- Rows of data lie in cells. -/
def RowsIn (g : Nat → Tag) (w : World) (cur : Array Value) (sz : Nat) (rows : List (List SV)) : Prop :=
  (∀ r ∈ rows, r.length = sz) ∧
  ∀ i r j x, rows[i]? = some r → r[j]? = some x → ∃ y, cur[i * sz + j]? = some y ∧ SRep (Imm g true) w y x

def LeafRel (g : Nat → Tag) (w : World) (k i j : Nat) (v : Value) : Leaf → Prop
  | .im sh x => SRep (Imm g sh) w v x
  | .u b c e sz rows => v = .slice (some ⟨b, 0, none⟩) rows.length c ∧ g b = .own k i j ∧ rows.length ≤ c ∧ c ≤ maxLen ∧
      ∃ cur, w.heap[b]? = some (.cells cur e (0, 0)) ∧ cur.size = c * sz ∧ RowsIn g w cur sz rows
  | .hd b n c => v = .slice (some ⟨b, 0, none⟩) n c
  | .ptr b off => v = .pointer (some ⟨b, off, none⟩)
  | .sref sh row => ∃ b off, v = .pointer (some ⟨b, off, none⟩) ∧ (row ≠ [] → Imm g sh b) ∧
      ∀ j x, row[j]? = some x → ∃ y, w.cell? ⟨b, off + j, none⟩ = some y ∧ SRep (Imm g sh) w y x
  | .nil => v = .slice none 0 0
  | .hole => True

def LeavesRel (g : Nat → Tag) (w : World) (k i : Nat) (cs : Array Value) (ls : List Leaf) : Prop :=
  cs.size = ls.length ∧ ∀ (j : Nat) l v, ls[j]? = some l → cs[j]? = some v → LeafRel g w k i j v l

def PartRel (g : Nat → Tag) (w : World) (k i : Nat) (v : Value) : Part → Prop
  | .lf l => LeafRel g w k i 0 v l
  | .agg ls => ∃ cs, v = .agg cs ∧ LeavesRel g w k i cs ls

/-- A temporary's value. -/
def SlotRel (g : Nat → Tag) (w : World) (k : Nat) (v : Value) : Slot → Prop
  | .one p => PartRel g w k 0 v p
  | .tup ps => ∃ vs, v = .tuple vs ∧ vs.size = ps.length ∧ ∀ (i : Nat) p x, ps[i]? = some p → vs[i]? = some x → PartRel g w k i x p
  | .cell .. => False
  | .obj .. => False

/-- A builder of texts: its block (index 1 of its key's places), its row of bytes (index 0). -/
def ObjRel (g : Nat → Tag) (w : World) (k b T e : Nat) (s : ByteArray) : Prop :=
  ∃ p v, (p = .pointer none ∨ p = .pointer (some ⟨b, 0, none⟩)) ∧ g b = .own k 1 0 ∧ w.heap[b]? = some (.cells #[p, v] T (0, 0)) ∧
    w.ownsRow 0 e 1 v s.size (s.data.toList.map fun c => .int .u8 c.toNat) ∧ ∀ b2, v.ownBlock = some b2 → g b2 = .own k 0 1

theorem ObjRel.to {g g' : Nat → Tag} {w w' : World} {k k' b T e : Nat} {s : ByteArray} (h : ObjRel g w k b T e s)
    (hO : ∀ b i j, g b = .own k i j → g' b = .own k' i j ∧ w'.heap[b]? = w.heap[b]?) : ObjRel g' w' k' b T e s := by
  obtain ⟨p, v, hp, hg, hh, hr, hb⟩ := h
  refine ⟨p, v, hp, (hO b 1 0 hg).1, (hO b 1 0 hg).2.trans hh, ⟨hr.1, ?_⟩, fun b2 e2 => (hO b2 0 1 (hb b2 e2)).1⟩
  rcases hr.2 with h | ⟨b2, c, cur, hv, h0, hc, hrest⟩
  · exact .inl h
  · refine .inr ⟨b2, c, cur, hv, h0, ?_, hrest⟩
    rw [(hO b2 0 1 (hb b2 (by rw [hv]; rfl))).2]; exact hc

/-- A cell's block: index 1 of its key's places is the cell itself, index 0 its leaves. -/
def CellRel (g : Nat → Tag) (w : World) (k : Nat) : Slot → Prop
  | .one (.lf .hole) => True
  | .cell b ls => ∃ cur e, g b = .own k 1 0 ∧ w.heap[b]? = some (.cells cur e (0, 0)) ∧ LeavesRel g w k 0 cur ls
  | .obj b T e s => ObjRel g w k b T e s
  | _ => False

/-- A block of cells that may all be written. -/
def Plain (w : World) (b : Nat) : Prop := ∃ cur e, w.heap[b]? = some (.cells cur e (0, 0))
theorem Plain.to {w w' : World} {b : Nat} (h : Plain w b) (e : w'.heap[b]? = w.heap[b]?) : Plain w' b := by obtain ⟨c, t, h⟩ := h; exact ⟨c, t, e.trans h⟩

/-- What an activation may rely on: where it began, which of the elder blocks it may write. -/
structure Env where
  w0 : World
  n : Nat
  g0 : Nat → Tag
  may : Nat → Prop
  laid : ∀ w, (∀ b, b < w0.heap.size → ¬ may b → w.heap[b]? = w0.heap[b]?) → Lw w

/-- The state of a frame. -/
structure Rel (E : Env) (g : Nat → Tag) (w : World) (a : Act) (σ : St) : Prop where
  defers : a.defers = []
  os : w.os = E.w0.os
  tape : w.tape = E.w0.tape
  output : w.output = E.w0.output
  size : E.w0.heap.size ≤ w.heap.size
  old : ∀ b, b < E.w0.heap.size → ¬ E.may b → w.heap[b]? = E.w0.heap[b]?
  many : a.tmps.size = E.n
  slot : ∀ t, SlotRel g w (tk t) (a.tmps.getD t undef) (σ (tk t))
  cell : ∀ t, CellRel g w (ck t) (σ (ck t))
  fresh : ∀ b, w.heap.size ≤ b → g b = .none
  mine : ∀ b k i j, g b = .own k i j → E.w0.heap.size ≤ b ∨ E.may b
  uniq : ∀ b b' k i j, g b = .own k i j → g b' = .own k i j → b = b'
  elder : ∀ b, b < E.w0.heap.size → ¬ E.may b → g b = E.g0 b
  soft : ∀ b, E.w0.heap.size ≤ b ∨ E.may b → g b = .imm → Plain w b
end Go.Proofs.YtahciphhopiipaaGreatDoor.V
