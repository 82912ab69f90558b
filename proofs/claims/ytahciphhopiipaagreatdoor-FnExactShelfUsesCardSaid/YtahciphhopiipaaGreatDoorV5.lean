/- One operation at a time: what is loaded; cuts. -/
import Derived.Test.YtahciphhopiipaaGreatDoorV4
set_option linter.unusedVariables false
set_option linter.unusedSimpArgs false
namespace Go.Proofs.YtahciphhopiipaaGreatDoor.V
open Go

theorem run_loadCellsFrom {P : Program} {w : World} (b off : Nat) : ∀ (n i : Nat) (vs : List Value) (acc : Array Value), vs.length = n →
    (∀ j x, vs[j]? = some x → w.cell? ⟨b, off + (i + j), none⟩ = some x) → (loadCellsFrom ⟨b, off, none⟩ i n acc).run P w = .ok (acc ++ vs.toArray) w
  | 0, i, vs, acc, hl, _ => by
    obtain rfl := List.length_eq_zero_iff.1 hl
    simp [loadCellsFrom]
  | n + 1, i, vs, acc, hl, hc => by
    cases vs with
    | nil => cases hl
    | cons x rest =>
      have h0 := hc 0 x rfl
      rw [Nat.add_zero] at h0
      have ih := run_loadCellsFrom (P := P) (w := w) b off n (i + 1) rest (acc.push x) (by simpa using hl) (fun j y hj => by
        have := hc (j + 1) y (by simpa using hj)
        rwa [show i + (j + 1) = i + 1 + j from by omega] at this)
      simp only [loadCellsFrom, Sem.run_bind, run_load, Addr.add_flat, h0]
      simp only [Result.andThen_ok, ih]
      congr 1
      apply Array.ext'
      simp

theorem run_loadCells {P : Program} {w : World} (b off : Nat) (vs : List Value) (hc : ∀ j x, vs[j]? = some x → w.cell? ⟨b, off + j, none⟩ = some x) :
    (loadCells ⟨b, off, none⟩ vs.length).run P w = .ok vs.toArray w := by
  have := run_loadCellsFrom (P := P) (w := w) b off vs.length 0 vs #[] rfl (fun j x hj => by rw [Nat.zero_add]; exact hc j x hj)
  simpa [loadCells] using this

/-- What is asked of a type: how many cells, and whether its values are told cell by cell. -/
structure Ty (P : Program) (t : TypeId) (sz : Nat) (agg : Bool) : Prop where
  size : (P.info? t).map (·.size) = some sz
  isAgg : ∀ w, (Go.isAgg t).run P w = .ok agg w

theorem Ty.one {P : Program} {t : TypeId} {ds : TypeDesc} (h : P.underlying t = some ds) (hs : (P.info? t).map (·.size) = some 1) (h1 : ∀ fs, ds ≠ .struct fs) (h2 : ∀ n e, ds ≠ .array n e) : Ty P t 1 false where
  size := hs
  isAgg w := by
    have e : (Go.isAgg t).run P w = (match ds with | .struct _ | .array _ _ => (pure true : Sem Bool) | _ => pure false).run P w := by
      unfold Go.isAgg; rw [Sem.run_bind, run_underlying h]; rfl
    rw [e]
    cases ds <;> first | rfl | (exact absurd rfl (h1 _)) | (exact absurd rfl (h2 _ _))

theorem Ty.struct {P : Program} {t : TypeId} {fs : Array Field} {sz : Nat} (h : P.underlying t = some (.struct fs)) (hs : (P.info? t).map (·.size) = some sz) : Ty P t sz true where
  size := hs
  isAgg w := by unfold Go.isAgg; rw [Sem.run_bind, run_underlying h]; rfl

theorem run_loadVar {P : Program} {w : World} {t : TypeId} {sz : Nat} {agg : Bool} (ht : Ty P t sz agg) (b off : Nat) (vs : List Value) (hl : vs.length = sz) (h1 : agg = false → sz = 1)
    (hc : ∀ j x, vs[j]? = some x → w.cell? ⟨b, off + j, none⟩ = some x) :
    (loadVar t ⟨b, off, none⟩).run P w = .ok (if agg then .agg vs.toArray else vs.headD undef) w := by
  simp only [loadVar, Sem.run_bind, ht.isAgg, Result.andThen_ok]
  cases agg with
  | true =>
    simp only [if_true, Sem.run_bind, run_sizeOf ht.size, Result.andThen_ok]
    rw [← hl, run_loadCells b off vs hc]
    rfl
  | false =>
    have hsz := h1 rfl
    subst hsz
    cases vs with
    | nil => cases hl
    | cons x rest =>
      have h0 := hc 0 x rfl
      rw [Nat.add_zero] at h0
      simp only [Bool.false_eq_true, if_false, run_load, h0]
      rfl

/-- A value that lies in no memory. -/
def SV.isVal : SV → Bool
  | .int .. | .bool _ | .str _ => true
  | _ => false
def shOf (sh : Bool) (x : SV) : Bool := bif sh then true else x.isVal
theorem SRep.scal {S S' : Nat → Prop} {w : World} {v : Value} {x : SV} (h : SRep S w v x) (hv : x.isVal = true) : SRep S' w v x := by
  cases h with
  | int k n => exact .int k n
  | bool b => exact .bool b
  | str s => exact .str s
  | nil _ _ _ => cases hv
  | sl _ _ _ _ _ _ _ _ _ _ _ _ _ => cases hv
  | fn _ _ _ _ _ _ _ _ _ => cases hv
theorem SRep.shOf {g : Nat → Tag} {w : World} {v : Value} {x : SV} {sh : Bool} (h : SRep (Imm g sh) w v x) : SRep (Imm g (shOf sh x)) w v x := by
  cases sh with
  | true => exact h
  | false =>
    show SRep (Imm g x.isVal) w v x
    cases e : x.isVal with
    | false => exact h
    | true => exact h.scal e

/-- The leaves of a row of data. -/
def imLeaves (sh : Bool) (r : List SV) : List Leaf := r.map fun x => .im (shOf sh x) x

/-- A part out of leaves. -/
def partOf (agg : Bool) (ls : List Leaf) : Part := if agg then .agg ls else .lf (ls.headD .hole)

theorem SRep.choose {S : Nat → Prop} {w : World} {b off : Nat} : ∀ (r : List SV) (o : Nat), (∀ j x, r[j]? = some x → ∃ y, w.cell? ⟨b, off + (o + j), none⟩ = some y ∧ SRep S w y x) →
    ∃ vs : List Value, vs.length = r.length ∧ (∀ (j : Nat) y, vs[j]? = some y → w.cell? ⟨b, off + (o + j), none⟩ = some y) ∧ ∀ (j : Nat) y x, vs[j]? = some y → r[j]? = some x → SRep S w y x
  | [], _, _ => ⟨[], rfl, fun j y h => by simp at h, fun j y x h => by simp at h⟩
  | x :: r, o, h => by
    obtain ⟨y, hy, hr⟩ := h 0 x rfl
    obtain ⟨vs, hl, hc, hs⟩ := SRep.choose r (o + 1) (fun j z hj => by
      have := h (j + 1) z (by simpa using hj)
      rwa [show o + (j + 1) = o + 1 + j from by omega] at this)
    refine ⟨y :: vs, by simp [hl], fun j z hj => ?_, fun j z x' hj hx => ?_⟩
    · cases j with
      | zero => simp at hj; subst hj; exact hy
      | succ j => have := hc j z (by simpa using hj); rwa [show o + 1 + j = o + (j + 1) from by omega] at this
    · cases j with
      | zero => simp at hj hx; subst hj; subst hx; exact hr
      | succ j => exact hs j z x' (by simpa using hj) (by simpa using hx)

/-- What lies at an address into data. -/
theorem step_load_sref {P : Program} {E : Env} {o : Oper} {σ : St} (d : Nat) (t : TypeId) (sz : Nat) (agg : Bool) (x : Operand) (r : List SV) {s1 : Bool}
    (ho : o.op = .load t x) (hd : o.dst = some d) (hn : d < E.n) (ht : Ty P t sz agg) (h1 : agg = false → sz = 1) (hx : opd σ x = .lf (.sref s1 r)) (hl : sz ≤ r.length) :
    Step P E o σ (· = upd σ (tk d) (.one (partOf agg (imLeaves s1 (r.take sz))))) := by
  refine Step.of_run fun g w a h => ?_
  have hr := opd_rel h x
  rw [hx] at hr
  obtain ⟨b, off, e1, hS, hcell⟩ := hr
  obtain ⟨vs, hvl, hvc, hvs⟩ := SRep.choose (S := Imm g s1) (w := w) (b := b) (off := off) (r.take sz) 0 (fun j x hj => by
    rw [Nat.zero_add]
    rw [List.getElem?_take] at hj
    split at hj
    · exact hcell j x hj
    · cases hj)
  have hvl' : vs.length = sz := by rw [hvl, List.length_take]; omega
  have hrun := run_loadVar (P := P) (w := w) ht b off vs hvl' h1 (fun j y hj => by have := hvc j y hj; rwa [Nat.zero_add] at this)
  refine ⟨if agg then .agg vs.toArray else vs.headD undef, w, drop (tk d) g, _, .inl ?_, rfl, ?_⟩
  · simp only [execOp, ho, e1, Instr.loadAt, Instr.sureAddr, Sem.run_bind, Sem.run_pure, Result.andThen_ok, hrun]
  · rw [hd]
    refine h.set d _ _ hn fun g' hg' => ?_
    have hmono : ∀ {y x}, SRep (Imm g s1) w y x → SRep (Imm g' s1) w y x := fun hh => hh.mono (fun _ _ => rfl) (fun b hb => hg' _ _ hb)
    cases agg with
    | true =>
      refine ⟨vs.toArray, rfl, by simp [imLeaves, hvl], fun j l v hl hv => ?_⟩
      simp only [imLeaves, List.getElem?_map, Option.map_eq_some_iff] at hl
      obtain ⟨x, hx, rfl⟩ := hl
      exact (hmono (hvs j v x (by simpa using hv) hx)).shOf
    | false =>
      have hsz := h1 rfl
      subst hsz
      cases hr2 : r.take 1 with
      | nil => rw [hr2] at hvl; simp at hvl; rw [hvl] at hvl'; simp at hvl'
      | cons x rest =>
        cases vs with
        | nil => cases hvl'
        | cons y ys =>
          simp only [partOf, imLeaves, hr2, Bool.false_eq_true, if_false, List.map_cons, List.headD_cons]
          exact (hmono (hvs 0 y x rfl (by rw [hr2]; rfl))).shOf
end Go.Proofs.YtahciphhopiipaaGreatDoor.V
