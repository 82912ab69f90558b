/- What operations do, computed: types; loads, stores, addresses. -/
import Derived.Test.YtahciphhopiipaaGreatDoorX1
set_option linter.unusedVariables false
set_option linter.unusedSimpArgs false
namespace Go.Proofs.YtahciphhopiipaaGreatDoor.V
open Go Go.RowKit

/-- The shape of a type: a struct by its fields' places. -/
inductive Sh where
  | int (k : IntKind)
  | bool
  | str
  | sl (e : TypeId)
  | st (fs : List (Nat × Nat))
  | other

def Sh.agg : Sh → Bool
  | .st _ => true
  | _ => false

structure TI where
  sh : Sh
  size : Nat
  bytes : Nat
  zero : List Leaf
  zsv : List SV

def ShOK (P : Program) (t : TypeId) (zero : List Leaf) : Sh → Prop
  | .int k => P.underlying t = some (.int k)
  | .bool => P.underlying t = some .bool
  | .str => P.underlying t = some .string
  | .sl e => P.underlying t = some (.slice e) ∧ P.elem t = e
  | .st fs => (∃ fa, P.underlying t = some (.struct fa) ∧ ∀ (j : Nat) p, fs[j]? = some p → ∃ f, fa[j]? = some f ∧ f.offset = p.1 ∧ (P.info? f.type).map (·.size) = some p.2) ∧ StructTy P t fs zero
  | .other => ∃ ds, P.underlying t = some ds ∧ (∀ fs, ds ≠ .struct fs) ∧ ∀ n e, ds ≠ .array n e

structure TyOK (P : Program) (t : TypeId) (i : TI) : Prop where
  info : ∃ z, (P.info? t).map (fun i => (i.zero, i.size, i.bytes)) = some (some z, i.size, i.bytes) ∧ z.cells.size = i.size ∧ z.cells.toList.map litLeaf = i.zero ∧
    (i.zsv = [] ∨ (i.zsv.length = i.size ∧ zerosAre z.cells.toList i.zsv = true))
  pos : 0 < i.size
  one : i.sh.agg = false → i.size = 1
  sh : ShOK P t i.zero i.sh

theorem TyOK.size_eq {P : Program} {t : TypeId} {i : TI} (h : TyOK P t i) : (P.info? t).map (·.size) = some i.size := let ⟨z, h1, _⟩ := h.info; size_of h1

theorem TyOK.ty {P : Program} {t : TypeId} {i : TI} (h : TyOK P t i) : Ty P t i.size i.sh.agg := by
  have hs := h.size_eq
  have h1 := h.one
  have h2 := h.sh
  cases he : i.sh with
  | int k => rw [he] at h1 h2; have e := h1 rfl; rw [e] at hs ⊢; exact Ty.one (ds := .int k) h2 hs (by intro _ e; cases e) (by intro _ _ e; cases e)
  | bool => rw [he] at h1 h2; have e := h1 rfl; rw [e] at hs ⊢; exact Ty.one (ds := .bool) h2 hs (by intro _ e; cases e) (by intro _ _ e; cases e)
  | str => rw [he] at h1 h2; have e := h1 rfl; rw [e] at hs ⊢; exact Ty.one (ds := .string) h2 hs (by intro _ e; cases e) (by intro _ _ e; cases e)
  | sl e0 => rw [he] at h1 h2; have e := h1 rfl; rw [e] at hs ⊢; exact Ty.one (ds := .slice e0) h2.1 hs (by intro _ e; cases e) (by intro _ _ e; cases e)
  | st fs => rw [he] at h2; obtain ⟨⟨fa, hu, _⟩, _⟩ := h2; exact Ty.struct hu hs
  | other => rw [he] at h1 h2; have e := h1 rfl; rw [e] at hs ⊢; obtain ⟨ds, hu, a1, a2⟩ := h2; exact Ty.one hu hs a1 a2

abbrev Tab := List (Nat × TI)
def Tab.get : Tab → Nat → Option TI
  | [], _ => none
  | (k, i) :: r, t => bif Nat.beq t k then some i else Tab.get r t
def TabOK (P : Program) : Tab → Prop
  | [] => True
  | (k, i) :: r => TyOK P k i ∧ TabOK P r
theorem TabOK.get {P : Program} : ∀ {T : Tab}, TabOK P T → ∀ {t : Nat} {i : TI}, T.get t = some i → TyOK P t i
  | [], _, t, i, h => by cases h
  | (k, i0) :: r, hT, t, i, h => by
    simp only [Tab.get] at h
    cases hb : Nat.beq t k with
    | true => rw [hb] at h; cases h; obtain rfl := Nat.eq_of_beq_eq_true hb; exact hT.1
    | false => rw [hb] at h; exact TabOK.get hT.2 h

/-- An element of a variable's slice, or a part of it, is loaded. -/
theorem step_load_u {P : Program} {E : Env} {o : Oper} {σ : St} (d kt : Nat) (t : TypeId) (m : Nat) (agg : Bool) (x : Operand) (b c e sz i j off : Nat) (rows : List (List SV)) (r : List SV)
    (ho : o.op = .load t x) (hd : o.dst = some d) (hn : d < E.n) (ht : Ty P t m agg) (h1 : agg = false → m = 1) (hx : opd σ x = .lf (.ptr b off)) (hk : σ (tk kt) = .lf (.u b c e sz rows))
    (hr : rows[i]? = some r) (hoff : off = i * sz + j) (hj : j + m ≤ sz) : Step P E o σ (· = upd σ (tk d) (.one (partOf agg (imLeaves true ((r.drop j).take m))))) := by
  subst hoff
  refine Step.of_run fun g w a h => ?_
  have hs := h.slot kt
  rw [hk] at hs
  obtain ⟨hv, hg, hc, hmx, cur, hh, hcs, hrows⟩ := hs
  have hxp := opd_ptr h hx
  have hrl : r.length = sz := hrows.1 r (List.mem_of_getElem? hr)
  obtain ⟨vs, hvl, hvc, hvs⟩ := SRep.choose (S := Imm g true) (w := w) (b := b) (off := i * sz + j) ((r.drop j).take m) 0 (fun q x hq => by
    rw [Nat.zero_add]
    rw [List.getElem?_take] at hq
    split at hq
    · rw [List.getElem?_drop] at hq
      obtain ⟨y, hy, hry⟩ := hrows.2 i r (j + q) x hr hq
      refine ⟨y, ?_, hry⟩
      rw [show i * sz + j + q = i * sz + (j + q) from by omega]
      simp [World.cell?, hh, hy]
    · cases hq)
  have hvl' : vs.length = m := by rw [hvl, List.length_take, List.length_drop]; omega
  have hrun := run_loadVar (P := P) (w := w) ht b (i * sz + j) vs hvl' h1 (fun q y hq => by have := hvc q y hq; rwa [Nat.zero_add] at this)
  refine ⟨if agg then .agg vs.toArray else vs.headD undef, w, drop (tk d) g, _, .inl ?_, rfl, ?_⟩
  · simp only [execOp, ho, hxp, Instr.loadAt, Instr.sureAddr, Sem.run_bind, Sem.run_pure, Result.andThen_ok, hrun]
  · rw [hd]
    refine h.set d _ _ hn fun g' hg' => ?_
    have hmono : ∀ {y x}, SRep (Imm g true) w y x → SRep (Imm g' true) w y x := fun hh => hh.mono (fun _ _ => rfl) (fun b hb => hg' _ _ hb)
    cases agg with
    | true =>
      refine ⟨vs.toArray, rfl, by simp [imLeaves, hvl], fun q l v hl hv => ?_⟩
      simp only [imLeaves, List.getElem?_map, Option.map_eq_some_iff] at hl
      obtain ⟨x, hx, rfl⟩ := hl
      exact hmono (hvs q v x (by simpa using hv) hx)
    | false =>
      have hsz := h1 rfl
      subst hsz
      cases hr2 : (r.drop j).take 1 with
      | nil => rw [hr2] at hvl; simp at hvl; rw [hvl] at hvl'; simp at hvl'
      | cons x rest =>
        cases vs with
        | nil => cases hvl'
        | cons y ys =>
          simp only [partOf, imLeaves, hr2, Bool.false_eq_true, if_false, List.map_cons, List.headD_cons]
          exact hmono (hvs 0 y x rfl (by rw [hr2]; rfl))

def xLoad (T : Tab) (t : TypeId) (d : Nat) (x : Operand) (L : SL) (w : Option Wit) : Option Ex :=
  match T.get t with
  | none => none
  | some ti => match ox L x with
    | .one (.lf (.sref sh r)) => bif Nat.ble ti.size r.length then fin1 d (ok x) (.one (partOf ti.sh.agg (imLeaves sh (r.take ti.size)))) [] w else none
    | .one (.lf (.ptr b off)) => match home b L with
      | none => none
      | some k => match look L (ck (k / 2)) with
        | .cell b' ls => bif Nat.beq b' b && (Nat.ble (off + ti.size) ls.length && ((ls.drop off).take ti.size).all Leaf.bare) then
            fin1 d (ck (k / 2) :: ok x) (.one (partOf ti.sh.agg ((ls.drop off).take ti.size))) [] w else none
        | _ => match look L (tk (k / 2)), w with
          | .one (.lf (.u b' _ e sz rows)), some (.elem i j r _) => bif Nat.beq b' b then
              some ⟨tk (k / 2) :: ok x, [(tk d, .one (partOf ti.sh.agg (imLeaves true ((r.drop j).take ti.size))))], none, [rows[i]? = some r, off = i * sz + j, j + ti.size ≤ sz]⟩ else none
          | _, _ => none
    | _ => none

theorem renP_im (ν : Nm) (agg : Bool) (sh : Bool) (r : List SV) : renP ν (partOf agg (imLeaves sh r)) = partOf agg (imLeaves sh r) := by
  cases agg with
  | true => simp only [partOf, if_true, renP, imLeaves, List.map_map]; congr 1
  | false => simp only [partOf, Bool.false_eq_true, if_false, renP, imLeaves]; cases r <;> rfl

theorem renP_part (ν : Nm) (agg : Bool) (ls : List Leaf) : renP ν (partOf agg ls) = partOf agg (ls.map (renL ν)) := by
  cases agg with
  | true => rfl
  | false => simp only [partOf, Bool.false_eq_true, if_false, renP]; cases ls <;> rfl

theorem all_bare_ren {ν : Nm} {ls : List Leaf} (h : ls.all Leaf.bare = true) : (ls.map (renL ν)).all Leaf.bare = true := by
  rw [List.all_map]
  exact List.all_eq_true.2 fun l hl => renL_bare (List.all_eq_true.1 h l hl)

theorem xLoad_sound {P : Program} {E : Env} {o : Oper} {T : Tab} {t : TypeId} {d : Nat} {x : Operand} {L : SL} {w : Option Wit} {ex : Ex} (hT : TabOK P T) (ho : o.op = .load t x) (hd : o.dst = some d) (hn : d < E.n)
    (he : xLoad T t d x L w = some ex) : SoundOp P E o L ex := by
  unfold xLoad at he
  split at he
  · cases he
  · rename_i ti hti
    have hty := hT.get hti
    split at he
    · rename_i sh r hx
      cases hb : Nat.ble ti.size r.length with
      | false => rw [hb] at he; cases he
      | true =>
        rw [hb] at he
        refine sound_fin he fun _ ν τ hτ => ?_
        have h := opd_is hτ (by simp) hx
        simp only [renS, renP_im]
        exact step_load_sref d t ti.size _ x r ho hd hn hty.ty hty.one h (Nat.le_of_ble_eq_true hb)
    · rename_i b off hx
      split at he
      · cases he
      · rename_i k hk
        split at he
        · rename_i b' ls hc
          cases hb : Nat.beq b' b && (Nat.ble (off + ti.size) ls.length && ((ls.drop off).take ti.size).all Leaf.bare) with
          | false => rw [hb] at he; cases he
          | true =>
            rw [hb] at he
            rw [Bool.and_eq_true, Bool.and_eq_true] at hb
            obtain ⟨hb1, hb2, hb3⟩ := hb
            obtain rfl := Nat.eq_of_beq_eq_true hb1
            refine sound_fin he fun _ ν τ hτ => ?_
            have h := opd_is hτ (fun k hk => by simp [hk]) hx
            have h2 := hτ (ck (k / 2)) (by simp)
            simp only [den, hc, renS] at h2
            simp only [renS, renP, renL] at h
            cases hν : ν b' with
            | none => rw [hν] at h2; exact Step.absurd fun g w a hr => bad_cell hr h2
            | some p =>
              rw [hν] at h h2
              simp only [renS, renP_part]
              have e1 : ((ls.drop off).take ti.size).map (renL ν) = ((ls.map (renL ν)).drop off).take ti.size := by rw [List.map_take, List.map_drop]
              rw [e1]
              exact step_load_cell d (k / 2) t ti.size _ x p.1 off _ ho hd hn hty.ty hty.one h h2 (by rw [List.length_map]; exact Nat.le_of_ble_eq_true hb2) (by rw [← e1]; exact all_bare_ren hb3)
        · split at he
          · rename_i b' c e sz rows i j r rr hu
            cases hb : Nat.beq b' b with
            | false => rw [hb] at he; cases he
            | true =>
              rw [hb] at he
              cases he
              obtain rfl := Nat.eq_of_beq_eq_true hb
              refine SoundOp.plain fun hc ν τ hτ => ?_
              have h := opd_is hτ (fun k hk => by simp [hk]) hx
              have h2 := hτ (tk (k / 2)) (by simp)
              simp only [den, hu, renS, renP, renL] at h2
              simp only [renS, renP, renL] at h
              simp only [renW, List.map, updL, renS, renP_im]
              cases hν : ν b' with
              | none => rw [hν] at h; exact Step.absurd fun g w a hr => bad_opd hr h
              | some p =>
                rw [hν] at h h2
                exact step_load_u d (k / 2) t ti.size _ x p.1 _ _ _ i j off rows r ho hd hn hty.ty hty.one h h2 hc.1 hc.2.1 hc.2.2.1
          · cases he
    · cases he

/-- What leaves are as data; what a nil slice's elements are of is told by what lay there. -/
def isNew : List Leaf → List SV → Option (List SV)
  | [], _ => some []
  | .im true v :: ls, old => match isNew ls old.tail with
    | some r => some (v :: r)
    | none => none
  | .nil :: ls, .sl sz _ :: old => match isNew ls old with
    | some r => some (.sl sz [] :: r)
    | none => none
  | _ :: _, _ => none

theorem isNew_is {ν : Nm} : ∀ {ls : List Leaf} {old new : List SV}, isNew ls old = some new → LeavesIs (ls.map (renL ν)) new
  | [], old, new, h => by simp only [isNew] at h; cases h; exact trivial
  | .im true v :: ls, old, new, h => by
    simp only [isNew] at h
    split at h
    · rename_i r hr; cases h; exact ⟨rfl, isNew_is hr⟩
    · cases h
  | .nil :: ls, .sl sz rows :: old, new, h => by
    simp only [isNew] at h
    split at h
    · rename_i r hr; cases h; exact ⟨trivial, isNew_is hr⟩
    · cases h
  | .im false v :: ls, old, new, h => by simp [isNew] at h
  | .u .. :: ls, old, new, h => by simp [isNew] at h
  | .hd .. :: ls, old, new, h => by simp [isNew] at h
  | .ptr .. :: ls, old, new, h => by simp [isNew] at h
  | .sref .. :: ls, old, new, h => by simp [isNew] at h
  | .hole :: ls, old, new, h => by simp [isNew] at h
  | .nil :: ls, [], new, h => by simp [isNew] at h
  | .nil :: ls, .int .. :: old, new, h => by simp [isNew] at h
  | .nil :: ls, .bool .. :: old, new, h => by simp [isNew] at h
  | .nil :: ls, .str .. :: old, new, h => by simp [isNew] at h
  | .nil :: ls, .fn .. :: old, new, h => by simp [isNew] at h

theorem isNew_told {ν : Nm} {ls : List Leaf} {new : List SV} (h : LeavesIs (ls.map (renL ν)) new) : (ls.map (renL ν)).all Leaf.told = true := by
  rw [List.all_eq_true]
  intro l hl
  obtain ⟨q, hq⟩ := List.mem_iff_getElem?.1 hl
  obtain ⟨h1, h2⟩ := h.get
  have hlt := (List.getElem?_eq_some_iff.1 hq).1
  obtain ⟨l', e1, e2⟩ := h2 (List.getElem?_eq_getElem (l := new) (i := q) (by omega))
  rw [hq] at e1
  cases e1
  cases l <;> first | rfl | exact e2.elim

theorem renP_leaves (ν : Nm) (p : Part) : (renP ν p).leaves = p.leaves.map (renL ν) := by cases p <;> rfl

theorem renL_told {ν : Nm} {l : Leaf} (h : l.told = true) : (renL ν l).told = true := by
  cases l <;> simp only [Leaf.told] at h <;> simp only [renL] <;> first | rfl | (cases h) | skip
  all_goals (split <;> first | rfl | (split <;> rfl))
theorem renP_told {ν : Nm} {p : Part} (h : p.told = true) : (renP ν p).told = true := by
  cases p with
  | lf l => exact renL_told h
  | agg ls =>
    simp only [Part.told, renP, List.all_map] at h ⊢
    exact List.all_eq_true.2 fun l hl => renL_told (List.all_eq_true.1 h l hl)

theorem told_of {p : Part} (h : p.leaves.all Leaf.told = true) : p.told = true := by
  cases p with
  | lf l => simpa [Part.leaves, Part.told] using h
  | agg ls => simpa [Part.leaves, Part.told] using h

def xStore (T : Tab) (t : TypeId) (x y : Operand) (L : SL) (w : Option Wit) : Option Ex :=
  match T.get t with
  | none => none
  | some ti => match ox L x, ox L y with
    | .one (.lf (.ptr b off)), .one p => match home b L with
      | none => none
      | some k => match look L (ck (k / 2)) with
        | .cell b' ls => bif Nat.beq b' b && (Nat.ble (off + ti.size) ls.length && (Nat.beq p.leaves.length ti.size && (p.leaves.all Leaf.bare && p.told))) then
            some ⟨ck (k / 2) :: (ok x ++ ok y), [(ck (k / 2), .cell b (splice ls off p.leaves))], none, []⟩ else none
        | _ => match look L (tk (k / 2)), w with
          | .one (.lf (.u b' _ e sz rows)), some (.elem i j r rr) => match isNew p.leaves (r.drop j) with
            | some new => bif Nat.beq b' b && Nat.beq new.length ti.size then
                some ⟨tk (k / 2) :: (ok x ++ ok y), [(tk (k / 2), .lf (.u b 0 e sz (rr.getD (rows.set i (cutIn r j new)))))], none, [rows[i]? = some r, off = i * sz + j, j + ti.size ≤ sz, ∀ z, rr = some z → rows.set i (cutIn r j new) = z]⟩ else none
            | none => none
          | _, _ => none
    | _, _ => none

theorem map_splice (f : Leaf → Leaf) (ls : List Leaf) (off : Nat) (new : List Leaf) : (splice ls off new).map f = splice (ls.map f) off (new.map f) := by
  simp [splice, List.map_take, List.map_drop]

theorem xStore_sound {P : Program} {E : Env} {o : Oper} {T : Tab} {t : TypeId} {x y : Operand} {L : SL} {w : Option Wit} {ex : Ex} (hT : TabOK P T) (ho : o.op = .store t x y) (hd : o.dst = none)
    (he : xStore T t x y L w = some ex) : SoundOp P E o L ex := by
  unfold xStore at he
  split at he
  · cases he
  · rename_i ti hti
    have hty := hT.get hti
    split at he
    · rename_i b off p hx hy
      split at he
      · cases he
      · rename_i k hk
        split at he
        · rename_i b' ls hc
          cases hb : Nat.beq b' b && (Nat.ble (off + ti.size) ls.length && (Nat.beq p.leaves.length ti.size && (p.leaves.all Leaf.bare && p.told))) with
          | false => rw [hb] at he; cases he
          | true =>
            rw [hb] at he
            cases he
            rw [Bool.and_eq_true, Bool.and_eq_true, Bool.and_eq_true, Bool.and_eq_true] at hb
            obtain ⟨hb1, hb2, hb3, hb4, hb5⟩ := hb
            obtain rfl := Nat.eq_of_beq_eq_true hb1
            refine SoundOp.plain fun _ ν τ hτ => ?_
            have h := opd_is hτ (fun k hk => by simp [hk]) hx
            have hy' := opd_is hτ (fun k hk => by simp [hk]) hy
            have h2 := hτ (ck (k / 2)) (by simp)
            simp only [den, hc, renS] at h2
            simp only [renS, renP, renL] at h
            simp only [renS] at hy'
            simp only [renW, List.map, updL, renS]
            cases hν : ν b' with
            | none => rw [hν] at h2; exact Step.absurd fun g w a hr => bad_cell hr h2
            | some q =>
              rw [hν] at h h2
              simp only [map_splice]
              rw [← renP_leaves]
              exact step_store_cell (k / 2) t ti.size x y q.1 off _ (renP ν p) ho hd hty.size_eq h h2 hy' (by rw [renP_leaves, List.length_map]; exact Nat.eq_of_beq_eq_true hb3) (by rw [renP_leaves]; exact all_bare_ren hb4) (renP_told hb5)
                (by rw [List.length_map]; exact Nat.le_of_ble_eq_true hb2)
        · split at he
          · rename_i b' c e sz rows i j r rr hu
            split at he
            · rename_i new hnew
              cases hb : Nat.beq b' b && Nat.beq new.length ti.size with
              | false => rw [hb] at he; cases he
              | true =>
                rw [hb] at he
                cases he
                rw [Bool.and_eq_true] at hb
                obtain rfl := Nat.eq_of_beq_eq_true hb.1
                refine SoundOp.plain fun hc ν τ hτ => ?_
                have h := opd_is hτ (fun k hk => by simp [hk]) hx
                have hy' := opd_is hτ (fun k hk => by simp [hk]) hy
                have h2 := hτ (tk (k / 2)) (by simp)
                simp only [den, hu, renS, renP, renL] at h2
                simp only [renS, renP, renL] at h
                simp only [renS] at hy'
                have hrr : rr.getD (rows.set i (cutIn r j new)) = rows.set i (cutIn r j new) := by
                  cases rr with
                  | none => rfl
                  | some z => exact (hc.2.2.2.1 z rfl).symm
                rw [hrr]
                simp only [renW, List.map, updL, renS, renP, renL, Slot.lf]
                cases hν : ν b' with
                | none => rw [hν] at h; exact Step.absurd fun g w a hr => bad_opd hr h
                | some q =>
                  rw [hν] at h h2
                  have his : LeavesIs (renP ν p).leaves new := by rw [renP_leaves]; exact isNew_is hnew
                  exact step_store_u (k / 2) t e sz ti.size x y q.1 q.2 i j off rows r new (renP ν p) ho hd hty.size_eq h h2 hy' his (Nat.eq_of_beq_eq_true hb.2) (told_of (by rw [renP_leaves]; exact isNew_told (by rw [← renP_leaves]; exact his))) hc.1 hc.2.1 hc.2.2.1
            · cases he
          · cases he
    · cases he

def xField (T : Tab) (t : TypeId) (d : Nat) (x : Operand) (j : Nat) (L : SL) (w : Option Wit) : Option Ex :=
  match T.get t with
  | none => none
  | some ti => match ti.sh with
    | .st fs => match fs[j]? with
      | none => none
      | some p => bif Nat.ble 1 p.2 then (match ox L x with
        | .one (.lf (.ptr b off)) => fin1 d (ok x) (.lf (.ptr b (off + p.1))) [] w
        | .one (.lf (.sref sh r)) => bif Nat.ble p.1 r.length then fin1 d (ok x) (.lf (.sref sh (r.drop p.1))) [] w else none
        | _ => none) else none
    | _ => none

theorem xField_sound {P : Program} {E : Env} {o : Oper} {T : Tab} {t : TypeId} {d j : Nat} {x : Operand} {L : SL} {w : Option Wit} {ex : Ex} (hT : TabOK P T) (ho : o.op = .fieldAddr t x j) (hd : o.dst = some d) (hn : d < E.n)
    (he : xField T t d x j L w = some ex) : SoundOp P E o L ex := by
  unfold xField at he
  split at he
  · cases he
  · rename_i ti hti
    have hty := (hT.get hti).sh
    split at he
    · rename_i fs hfs
      rw [hfs] at hty
      obtain ⟨⟨fa, hu, hfa⟩, _⟩ := hty
      split at he
      · cases he
      · rename_i p hp
        obtain ⟨f, hf, ho2, hs⟩ := hfa j p hp
        cases hb : Nat.ble 1 p.2 with
        | false => rw [hb] at he; cases he
        | true =>
          rw [hb] at he
          simp only [cond_true] at he
          have hpos := Nat.le_of_ble_eq_true hb
          split at he
          · rename_i b off hx
            refine sound_fin he fun _ ν τ hτ => ?_
            have h := opd_is hτ (by simp) hx
            simp only [renS, renP, renL, Slot.lf] at h ⊢
            cases hν : ν b with
            | none => rw [hν] at h; exact Step.absurd fun g w a hr => bad_opd hr h
            | some q =>
              rw [hν] at h
              rw [← ho2]
              exact step_field_ptr d t fa f j p.2 q.1 off x ho hd hn hu hf hs hpos h
          · rename_i sh r hx
            cases hb2 : Nat.ble p.1 r.length with
            | false => rw [hb2] at he; cases he
            | true =>
              rw [hb2] at he
              refine sound_fin he fun _ ν τ hτ => ?_
              have h := opd_is hτ (by simp) hx
              simp only [renS, renP, renL, Slot.lf] at h ⊢
              rw [← ho2]
              exact step_field_sref d t fa f j p.2 x r ho hd hn hu hf hs hpos h (by rw [ho2]; exact Nat.le_of_ble_eq_true hb2)
          · cases he
    · cases he

def xIndexAddr (T : Tab) (t : TypeId) (d : Nat) (x y : Operand) (L : SL) (w : Option Wit) : Option Ex :=
  match T.get t with
  | none => none
  | some ti => match ti.sh with
    | .sl e => match T.get e with
      | none => none
      | some te => match ox L x, ox L y with
        | .one (.lf (.im sh (.sl sz rows))), .one (.lf (.im _ (.int k i))) => match w with
          | some (.row r) => bif Nat.beq sz te.size then some ⟨ok x ++ ok y, [(tk d, .lf (.sref sh r))], none, [0 ≤ i, rows[i.toNat]? = some r]⟩ else none
          | _ => none
        | .one (.lf (.hd b n _)), .one (.lf (.im _ (.int k i))) => some ⟨ok x ++ ok y, [(tk d, .lf (.ptr b (i.toNat * te.size)))], none, [0 ≤ i, i < (n : Int)]⟩
        | _, _ => none
    | _ => none

theorem xIndexAddr_sound {P : Program} {E : Env} {o : Oper} {T : Tab} {t : TypeId} {d : Nat} {x y : Operand} {L : SL} {w : Option Wit} {ex : Ex} (hT : TabOK P T) (ho : o.op = .indexAddr t x y) (hd : o.dst = some d) (hn : d < E.n)
    (he : xIndexAddr T t d x y L w = some ex) : SoundOp P E o L ex := by
  unfold xIndexAddr at he
  split at he
  · cases he
  · rename_i ti hti
    have hty := (hT.get hti).sh
    split at he
    · rename_i e hsl
      rw [hsl] at hty
      split at he
      · cases he
      · rename_i te hte
        have htz := (hT.get hte).size_eq
        split at he
        · rename_i sh sz rows s2 k i hx hy
          split at he
          · rename_i r
            cases hb : Nat.beq sz te.size with
            | false => rw [hb] at he; cases he
            | true =>
              rw [hb] at he
              cases he
              rw [← Nat.eq_of_beq_eq_true hb] at htz
              refine SoundOp.plain fun hc ν τ hτ => ?_
              exact step_indexAddr d t e sz x y rows k i r ho hd hn hty.1 htz (im_den hτ (fun k hk => by simp [hk]) hx) (im_den hτ (fun k hk => by simp [hk]) hy) hc.1 hc.2.1
          · cases he
        · rename_i b n c s2 k i hx hy
          cases he
          refine SoundOp.plain fun hc ν τ hτ => ?_
          have h := opd_is hτ (fun k hk => by simp [hk]) hx
          simp only [renS, renP, renL] at h
          simp only [renW, List.map, updL, renS, renP, renL, Slot.lf]
          cases hν : ν b with
          | none =>
            rw [hν] at h
            have hn0 : n ≠ 0 := by have := hc.1; have := hc.2.1; omega
            simp only [if_neg hn0] at h
            exact Step.absurd fun g w a hr => bad_opd hr h
          | some q =>
            rw [hν] at h
            exact step_indexAddr_u d t e te.size x y q.1 n q.2 k i ho hd hn hty.1 htz h (im_den hτ (fun k hk => by simp [hk]) hy) hc.1 hc.2.1
        · cases he
    · cases he
end Go.Proofs.YtahciphhopiipaaGreatDoor.V
