/- What operations do, computed: 'append', calls; all operations. -/
import Derived.Test.YtahciphhopiipaaGreatDoorX4
set_option linter.unusedVariables false
set_option linter.unusedSimpArgs false
namespace Go.Proofs.YtahciphhopiipaaGreatDoor.V
open Go Go.RowKit

theorem Step.weak {P : Program} {E : Env} {o : Oper} {σ : St} {M N : St → Prop} (h : Step P E o σ M) (hw : ∀ τ, M τ → ∃ τ2, N τ2 ∧ Weak τ τ2) : Step P E o σ N :=
  h.turn fun τ hm => let ⟨τ2, h1, h2⟩ := hw τ hm; fun g w a hr => ⟨g, τ2, h1, hr.weaken h2⟩

def holes (ks : List Nat) : SL := ks.map fun k => (k, Slot.hole)

theorem renW_holes (ν : Nm) (ks : List Nat) : renW ν (holes ks) = holes ks := by
  simp [renW, holes, renS, renP, renL, List.map_map]

theorem updL_app : ∀ (a b : SL) (σ : St), updL σ (a ++ b) = updL (updL σ a) b
  | [], b, σ => rfl
  | (k, s) :: a, b, σ => updL_app a b _

/-- What is new behind an 'append': an owned slice, or nothing. -/
def Grown (e sz : Nat) (rows : List (List SV)) (s : Slot) : Prop := (∃ b c, s = .lf (.u b c e sz rows)) ∨ (rows = [] ∧ s = .lf .nil)

theorem turn_nil {E : Env} {σ : St} (d sz : Nat) (h : σ (tk d) = .lf .nil) : Turn E σ (· = upd σ (tk d) (.lf (.im true (.sl sz [])))) := by
  intro g w a hr
  have hs := hr.slot d
  rw [h] at hs
  have hv : a.tmps.getD d undef = .slice none 0 0 := hs
  exact ⟨g, _, rfl, hr.putSlot d _ (by show SRep _ _ _ _; rw [hv]; exact .nil sz none 0)⟩

def newP (d : Nat) (R pre : List Nat) (nm e sz : Nat) (rows : List (List SV)) (c : List Prop) (w : Option Wit) : Option Ex := newU d R (holes pre) nm e sz rows c w

theorem newP_sound {P : Program} {E : Env} {o : Oper} {L : SL} {d : Nat} {R pre : List Nat} {nm e sz : Nat} {rows : List (List SV)} {c : List Prop} {w : Option Wit} {ex : Ex}
    (he : newP d R pre nm e sz rows c w = some ex)
    (h : AllP c → ∀ (ν : Nm) (τ : St), (∀ k ∈ R, τ k = den ν L k) → Step P E o τ fun τ' => ∃ s, Grown e sz rows s ∧ τ' = upd (updL τ (holes pre)) (tk d) s) : SoundOp P E o L ex := by
  have him : AllP c → ∀ (ν : Nm) (τ : St), (∀ k ∈ R, τ k = den ν L k) → Step P E o τ (· = upd (updL τ (holes pre)) (tk d) (.lf (.im true (.sl sz rows)))) := by
    intro hc ν τ hτ
    refine (h hc ν τ hτ).turn fun τ' ⟨s, hg, e0⟩ => ?_
    subst e0
    intro g w a hr
    rcases hg with ⟨b, c0, rfl⟩ | ⟨hr0, rfl⟩
    · obtain ⟨g', τ', h1, h2⟩ := turn_freeze d b c0 e sz rows (upd_same ..) g w a hr
      subst h1
      rw [upd_upd] at h2
      exact ⟨g', _, rfl, h2⟩
    · subst hr0
      obtain ⟨g', τ', h1, h2⟩ := turn_nil d sz (upd_same ..) g w a hr
      subst h1
      rw [upd_upd] at h2
      exact ⟨g', _, rfl, h2⟩
  have hu : AllP c → ∀ (ν : Nm) (τ : St), (∀ k ∈ R, τ k = den ν L k) → Step P E o τ fun τ' => ∃ v : Option (Nat × Nat), Weak τ' (updL τ (renW (setN ν (some nm) v) (holes pre ++ [(tk d, .lf (.u nm 0 e sz rows))]))) := by
    intro hc ν τ hτ
    refine (h hc ν τ hτ).mono fun τ' ⟨s, hg, e0⟩ => ?_
    subst e0
    rcases hg with ⟨b, c0, rfl⟩ | ⟨hr0, rfl⟩
    · refine ⟨some (b, c0), ?_⟩
      rw [show renW (setN ν (some nm) (some (b, c0))) (holes pre ++ [(tk d, Slot.lf (.u nm 0 e sz rows))]) = holes pre ++ [(tk d, .lf (.u b c0 e sz rows))] from by
        rw [renW, List.map_append, ← renW, renW_holes]; simp [renS, renP, renL, setN_self], updL_app]
      exact Weak.refl _
    · subst hr0
      refine ⟨none, ?_⟩
      rw [show renW (setN ν (some nm) none) (holes pre ++ [(tk d, Slot.lf (.u nm 0 e sz []))]) = holes pre ++ [(tk d, .lf .nil)] from by
        rw [renW, List.map_append, ← renW, renW_holes]; simp [renS, renP, renL, setN_self], updL_app]
      exact Weak.refl _
  unfold newP newU at he
  split at he
  · cases he
    refine SoundOp.plain fun hc ν τ hτ => ?_
    rw [renW, List.map_append, ← renW, renW_holes, updL_app]
    exact him hc ν τ hτ
  · rename_i b e' sz' rows'
    cases hb : Nat.beq b nm && (Nat.beq e' e && Nat.beq sz' sz) with
    | false => rw [hb] at he; cases he
    | true =>
      rw [hb] at he
      cases he
      intro hc ν τ hτ
      have hrows := hc.1
      subst hrows
      exact hu hc.2 ν τ hτ
  · rename_i sz' rows'
    cases hb : Nat.beq sz' sz with
    | false => rw [hb] at he; cases he
    | true =>
      rw [hb] at he
      cases he
      refine SoundOp.plain fun hc ν τ hτ => ?_
      have hrows := hc.1
      subst hrows
      rw [renW, List.map_append, ← renW, renW_holes, updL_app]
      exact him hc.2 ν τ hτ
  · cases he
    exact fun hc ν τ hτ => hu hc ν τ hτ
  · cases he

/-- What is asked of rows that are appended: of lent ones, that they lie in no memory. -/
def apC (sh : Bool) (rows : List (List SV)) : List Prop := bif sh then [] else [ScalarRows rows]
theorem apC_spec {sh : Bool} {rows : List (List SV)} (h : AllP (apC sh rows)) : sh = true ∨ ScalarRows rows := by
  cases sh with
  | true => exact .inl rfl
  | false => exact .inr h.1

def xAppend (T : Tab) (t : TypeId) (d : Nat) (x y : Operand) (L : SL) (w : Option Wit) : Option Ex :=
  match T.get t with
  | none => none
  | some ti => match ti.sh with
    | .sl e => match T.get e, ox L y with
      | some te, .one (.lf (.im sh (.sl sz rows2))) => bif Nat.beq sz te.size then (match ox L x with
        | .one (.lf (.u b _ e' sz' rows)) => match x with
          | .tmp kt => bif Nat.beq e' e && Nat.beq sz' sz then
              newP d (tk kt :: ok y) [tk kt] b e sz (rows ++ rows2) (apC sh rows2 ++ [(rows.length + rows2.length) * te.bytes ≤ 140737488355328, rows.length + rows2.length ≤ maxLen]) w else none
          | _ => none
        | .one (.lf (.hd b n _)) => match home b L with
          | none => none
          | some k => match look L (tk (k / 2)) with
            | .one (.lf (.u b' _ e' sz' rows)) => bif Nat.beq b' b && (Nat.beq e' e && Nat.beq sz' sz) then
                newP d (tk (k / 2) :: (ok x ++ ok y)) [tk (k / 2)] b e sz (rows ++ rows2) (apC sh rows2 ++ [n = rows.length, (rows.length + rows2.length) * te.bytes ≤ 140737488355328, rows.length + rows2.length ≤ maxLen]) w else none
            | _ => none
        | .one (.lf .nil) => newP d (ok x ++ ok y) [] d e sz rows2 (apC sh rows2 ++ [rows2.length * te.bytes ≤ 140737488355328, rows2.length ≤ maxLen]) w
        | _ => none) else none
      | _, _ => none
    | _ => none

theorem grown_nil {P : Program} {E : Env} {o : Oper} {τ : St} {t e sz bytes d : Nat} {x y : Operand} {rows2 : List (List SV)} (ho : o.op = .call { callee := .builtin .append, args := #[x, y], argTypes := #[t, t] })
    (hd : o.dst = some d) (hn : d < E.n) (he : Elem P t e sz bytes) (hx : opd τ x = .lf .nil) {sh : Bool} (hy : opd τ y = .lf (.im sh (.sl sz rows2))) (hsc : sh = true ∨ ScalarRows rows2) (hs : rows2.length * bytes ≤ 140737488355328) (hm : rows2.length ≤ maxLen) :
    Step P E o τ fun τ' => ∃ s, Grown e sz rows2 s ∧ τ' = upd τ (tk d) s := by
  by_cases h0 : rows2 = []
  · subst h0
    exact (step_append_nil0 d t o.type e sz bytes x y ho rfl hd hn he hx hy).mono fun τ' e0 => ⟨_, .inr ⟨rfl, rfl⟩, e0⟩
  · exact (step_append_nil d t o.type e sz bytes x y rows2 ho rfl hd hn he hx hy hsc h0 hs hm).mono fun τ' ⟨b, c, e0⟩ => ⟨_, .inl ⟨b, c, rfl⟩, e0⟩

theorem xAppend_sound {P : Program} {E : Env} {o : Oper} {T : Tab} {t : TypeId} {d : Nat} {x y : Operand} {L : SL} {w : Option Wit} {ex : Ex} (hT : TabOK P T)
    (ho : o.op = .call { callee := .builtin .append, args := #[x, y], argTypes := #[t, t] }) (hd : o.dst = some d) (hn : d < E.n)
    (he : xAppend T t d x y L w = some ex) : SoundOp P E o L ex := by
  unfold xAppend at he
  split at he
  · cases he
  · rename_i ti hti
    split at he
    · rename_i e hsh
      split at he
      · rename_i te sh sz rows2 hte hy
        have hel := (hT.get hti).elem hsh (hT.get hte)
        cases hz : Nat.beq sz te.size with
        | false => rw [hz] at he; cases he
        | true =>
          rw [hz] at he
          simp only [cond_true] at he
          rw [← Nat.eq_of_beq_eq_true hz] at hel
          split at he
          · rename_i b c e' sz' rows hx
            cases x with
            | tmp kt =>
              simp only at he
              cases hb : Nat.beq e' e && Nat.beq sz' sz with
              | false => rw [hb] at he; cases he
              | true =>
                rw [hb] at he
                rw [Bool.and_eq_true] at hb
                obtain rfl := Nat.eq_of_beq_eq_true hb.1
                obtain rfl := Nat.eq_of_beq_eq_true hb.2
                refine newP_sound he fun hc ν τ hτ => ?_
                obtain ⟨hc0, hc⟩ := hc.app
                have hsc := apC_spec hc0
                have h := opd_is (x := .tmp kt) hτ (by simp [ok]) hx
                have hy' := im_den hτ (fun k hk => by simp [hk]) hy
                simp only [renS, renP, renL, opd] at h
                cases hν : ν b with
                | some q =>
                  rw [hν] at h
                  exact (step_append d t o.type e' sz' te.bytes (.tmp kt) y kt q.1 q.2 rows rows2 ho rfl hd hn hel h (.inl rfl) hy' hsc hc.1 hc.2.1).mono fun τ' ⟨b', c', e0⟩ => ⟨_, .inl ⟨b', c', rfl⟩, e0⟩
                | none =>
                  rw [hν] at h
                  cases rows with
                  | cons r rs => exact Step.absurd fun g w a hr => bad_opd (x := .tmp kt) hr h
                  | nil =>
                    have := grown_nil ho hd hn hel (x := .tmp kt) h hy' hsc (by simpa using hc.1) (by simpa using hc.2.1)
                    exact this.weak fun τ' ⟨s, hg, e0⟩ => ⟨_, ⟨s, hg, rfl⟩, by subst e0; exact weak_upd_hole _ _ _⟩
            | const v => cases he
            | global g => cases he
            | func f => cases he
          · rename_i b n c hx
            split at he
            · cases he
            · rename_i k hk
              split at he
              · rename_i b' c' e' sz' rows hu
                cases hb : Nat.beq b' b && (Nat.beq e' e && Nat.beq sz' sz) with
                | false => rw [hb] at he; cases he
                | true =>
                  rw [hb] at he
                  rw [Bool.and_eq_true, Bool.and_eq_true] at hb
                  obtain rfl := Nat.eq_of_beq_eq_true hb.1
                  obtain rfl := Nat.eq_of_beq_eq_true hb.2.1
                  obtain rfl := Nat.eq_of_beq_eq_true hb.2.2
                  refine newP_sound he fun hc ν τ hτ => ?_
                  obtain ⟨hc3, hc⟩ := hc.app
                  have hsc := apC_spec hc3
                  obtain ⟨hc0, hc1, hc2, _⟩ := hc
                  subst hc0
                  have h := opd_is hτ (fun k hk => by simp [hk]) hx
                  have hy' := im_den hτ (fun k hk => by simp [hk]) hy
                  have h2 := hτ (tk (k / 2)) (by simp)
                  simp only [den, hu, renS, renP, renL] at h2
                  simp only [renS, renP, renL] at h
                  cases hν : ν b' with
                  | some q =>
                    rw [hν] at h h2
                    exact (step_append d t o.type e' sz' te.bytes x y (k / 2) q.1 q.2 rows rows2 ho rfl hd hn hel h2 (.inr h) hy' hsc hc1 hc2).mono fun τ' ⟨b', c', e0⟩ => ⟨_, .inl ⟨b', c', rfl⟩, e0⟩
                  | none =>
                    rw [hν] at h h2
                    cases rows with
                    | cons r rs => exact Step.absurd fun g w a hr => bad_tmp hr h2
                    | nil =>
                      have := grown_nil ho hd hn hel h hy' hsc (by simpa using hc1) (by simpa using hc2)
                      exact this.weak fun τ' ⟨s, hg, e0⟩ => ⟨_, ⟨s, hg, rfl⟩, by subst e0; exact weak_upd_hole _ _ _⟩
              · cases he
          · rename_i hx
            refine newP_sound he fun hc ν τ hτ => ?_
            have h := opd_is hτ (fun k hk => by simp [hk]) hx
            have hy' := im_den hτ (fun k hk => by simp [hk]) hy
            obtain ⟨hc0, hc⟩ := hc.app
            exact grown_nil ho hd hn hel h hy' (apC_spec hc0) hc.1 hc.2.1
          · cases he
      · cases he
    · cases he

/-- What bears no name. -/
def Leaf.closed : Leaf → Bool
  | .u .. | .hd .. | .ptr .. => false
  | _ => true
def Part.closed : Part → Bool
  | .lf l => l.closed
  | .agg ls => ls.all Leaf.closed
def Slot.closed : Slot → Bool
  | .one p => p.closed
  | .tup ps => ps.all Part.closed
  | .cell .. => false
  | .obj .. => false

theorem renL_closed {ν : Nm} {l : Leaf} (h : l.closed = true) : renL ν l = l := by
  cases l <;> simp only [Leaf.closed] at h <;> first | rfl | cases h
theorem map_id_of {α : Type} {f : α → α} {l : List α} (h : ∀ x ∈ l, f x = x) : l.map f = l := by
  induction l with
  | nil => rfl
  | cons x xs ih => rw [List.map_cons, h x (by simp), ih fun y hy => h y (by simp [hy])]
theorem renP_closed {ν : Nm} {p : Part} (h : p.closed = true) : renP ν p = p := by
  cases p with
  | lf l => simp only [renP]; rw [renL_closed h]
  | agg ls => simp only [renP]; rw [map_id_of fun l hl => renL_closed (List.all_eq_true.1 h l hl)]
theorem renS_closed {ν : Nm} {s : Slot} (h : s.closed = true) : renS ν s = s := by
  cases s with
  | one p => simp only [renS]; rw [renP_closed h]
  | tup ps => simp only [renS]; rw [map_id_of fun l hl => renP_closed (List.all_eq_true.1 h l hl)]
  | cell b ls => cases h
  | obj b T e s => cases h

theorem Leaf.closed_bare {l : Leaf} (h : l.closed = true) : l.bare = true := by
  cases l <;> simp only [Leaf.closed] at h <;> first | rfl | cases h
theorem Part.closed_bare {p : Part} (h : p.closed = true) : p.bare = true := by
  cases p with
  | lf l => exact Leaf.closed_bare h
  | agg ls => exact List.all_eq_true.2 fun l hl => Leaf.closed_bare (List.all_eq_true.1 h l hl)

/-- The parts of a call's arguments. -/
def partsX (L : SL) : List Operand → Option (List Part)
  | [] => some []
  | x :: xs => match ox L x, partsX L xs with
    | .one p, some ps => bif p.closed then some (p :: ps) else none
    | _, _ => none
def oksX : List Operand → List Nat
  | [] => []
  | x :: xs => ok x ++ oksX xs

theorem partsX_parts {ν : Nm} {L : SL} {τ : St} {R : List Nat} (hτ : ∀ k ∈ R, τ k = den ν L k) : ∀ {xs : List Operand} {ps : List Part}, (∀ k ∈ oksX xs, k ∈ R) → partsX L xs = some ps → opParts τ xs = some ps
  | [], ps, _, h => by cases h; rfl
  | x :: xs, ps, hR, h => by
    simp only [partsX] at h
    split at h
    · rename_i p ps' h1 h2
      cases hb : p.closed with
      | false => rw [hb] at h; cases h
      | true =>
        rw [hb] at h
        cases h
        have e1 := opd_is hτ (fun k hk => hR k (by simp [oksX, hk])) h1
        have e2 := partsX_parts hτ (fun k hk => hR k (by simp [oksX, hk])) h2
        simp only [renS, renP_closed hb] at e1
        simp only [opParts, e1, e2, Part.closed_bare hb, if_true]
    · cases h

def xCall (P : Program) (d : Nat) (f : FuncId) (xs : List Operand) (L : SL) (w : Option Wit) : Option Ex :=
  match partsX L xs with
  | none => none
  | some ps => match w with
    | some (.ret s) => bif s.closed then some ⟨oksX xs, [(tk d, s)], none, [Text P f, CallV P f ps (· = s)]⟩ else none
    | some (.retU e sz rows) => newP d (oksX xs) [] d e sz rows [Text P f, CallV P f ps fun s => ∃ b c, s = .lf (.u b c e sz rows)] none
    | _ => none

theorem xCall_sound {P : Program} {E : Env} {o : Oper} {d : Nat} {f : FuncId} {xs : Array Operand} {ats : Array TypeId} {L : SL} {w : Option Wit} {ex : Ex}
    (ho : o.op = .call { callee := .value (.func f), args := xs, argTypes := ats }) (hd : o.dst = some d) (hn : d < E.n)
    (he : xCall P d f xs.toList L w = some ex) : SoundOp P E o L ex := by
  unfold xCall at he
  split at he
  · cases he
  · rename_i ps hps
    split at he
    · rename_i s
      cases hb : s.closed with
      | false => rw [hb] at he; cases he
      | true =>
        rw [hb] at he
        cases he
        refine SoundOp.plain fun hc ν τ hτ => ?_
        have h1 := partsX_parts hτ (fun k hk => hk) hps
        simp only [renW, List.map, updL, renS_closed hb]
        exact step_call1 d f xs ats ps ho hd hn hc.1 h1 hc.2.1
    · rename_i e sz rows
      refine newP_sound he fun hc ν τ hτ => ?_
      have h1 := partsX_parts hτ (fun k hk => hk) hps
      exact (step_call d f xs ats ps ho hd hn hc.1 h1 hc.2.1).mono fun τ' ⟨s, ⟨b, c, hs⟩, e0⟩ => ⟨s, .inl ⟨b, c, hs⟩, e0⟩
    · cases he

theorem step_makeFunc {P : Program} {E : Env} {o : Oper} {σ : St} (d t c : Nat) (f : FuncId) (b : Nat) (x : SV) (ho : o.op = .makeFunc (.func f) #[] #[.tmp t]) (hd : o.dst = some d) (hn : d < E.n)
    (hx : opd σ (.tmp t) = .lf (.ptr b 0)) (hc : σ (ck c) = .cell b [.im true x]) : Step P E o σ (· = upd (upd σ (ck c) Slot.hole) (tk d) (.im (.fn f [x]))) := by
  refine Step.of_run fun g w a h => ?_
  have hcell := h.cell c
  rw [hc] at hcell
  obtain ⟨cur, e, hg, hh, hsz, hl⟩ := hcell
  have hlt : b < w.heap.size := (Array.getElem?_eq_some_iff.1 hh).1
  have hc0 : 0 < cur.size := by rw [hsz]; simp
  have h0 : cur[0]? = some cur[0] := Array.getElem?_eq_getElem hc0
  have hs : SRep (Imm g true) w cur[0] x := hl 0 _ _ rfl h0
  have hb1 : drop (ck c) g b = .none := drop_none hg
  have r2 := (h.forget (ck c)).tag1 b .imm hb1 hlt (h.mine b _ _ _ hg) (fun _ _ _ _ e => by cases e) (fun _ => ⟨_, _, hh⟩)
  have hI : ∀ q, Imm g true q → Imm (tag1 (drop (ck c) g) b .imm) true q := fun q hq => Imm.tag1 hb1 (drop_Imm.2 hq)
  refine ⟨.func (.func f) #[] #[.pointer (some ⟨b, 0, none⟩)], w, _, _, .inl ?_, rfl, by
    rw [hd]
    refine r2.set d _ _ hn fun g' hg' => ?_
    refine SRep.fn f #[.pointer (some ⟨b, 0, none⟩)] [x] (fun _ => b) (fun _ => 0) (fun _ => cur[0]) rfl (fun i y hy => ?_) (fun i y hy => ?_)
    · cases i with
      | zero => exact ⟨rfl, hg' true b (.inl (tag1_self ..)), by simp [World.cell?, hh, h0]⟩
      | succ i => simp at hy
    · cases i with
      | zero => simp at hy; subst hy; exact hs.mono (fun _ _ => rfl) fun q hq => hg' _ _ (hI q hq)
      | succ i => simp at hy⟩
  simp [execOp, ho, Instr.makeFunc, opd_ptr h hx]

/-- A call of a function value. -/
theorem step_callF {P : Program} {E : Env} {o : Oper} {σ : St} {s : Slot} (d t : Nat) (f : FuncId) (caps : List SV) (xs : Array Operand) (ats : Array TypeId) (ps : List Part) {sh : Bool}
    (ho : o.op = .call { callee := .value (.tmp t), args := xs, argTypes := ats }) (hd : o.dst = some d) (hn : d < E.n) (hf : Text P f) (hx : opd σ (.tmp t) = .lf (.im sh (.fn f caps))) (hxs : opParts σ xs.toList = some ps)
    (hc : CallV P f (ps ++ caps.map fun x => .lf (.sref sh [x])) (· = s)) : Step P E o σ (· = upd σ (tk d) s) := by
  intro g w a next Q hr hnext
  have hv := opd_im hr hx
  generalize hev : a.eval (.tmp t) = v at hv
  generalize hfc : SV.fn f caps = y at hv
  cases hv with
  | fn f' vs caps' bs os cv hl hvs hrep =>
    cases hfc
    have hrun : (execOp a.eval o).run P w = .ok (.enter f (xs.map a.eval ++ vs)) w := by
      have e : execOp a.eval o = callFunc f (xs.map a.eval ++ vs) := by
        simp [execOp, ho, resolve, Deferred.ofValue, hev, invoke]
      rw [e, run_callFunc hf]
    unfold Oper.wp
    rw [hrun, Oper.upon_enter]
    obtain ⟨hlen, hargs⟩ := opParts_get hr hxs
    have hsx : (xs.map a.eval).size = ps.length := by simpa using hlen
    refine (hc (lendTags g) w (xs.map a.eval ++ vs) (E.laid w hr.old) ?_ ?_ ?_ ?_).mono ?_
    · intro b k i j e; unfold lendTags at e; cases eg : g b <;> rw [eg] at e <;> cases e
    · intro b hb; unfold lendTags; rw [hr.fresh b hb]
    · rw [Array.size_append, hsx, List.length_append, List.length_map, hl]
    · intro i p u h1 h2
      by_cases hi : i < ps.length
      · rw [List.getElem?_append_left hi] at h1
        rw [Array.getElem?_append_left (by omega)] at h2
        refine hargs i p u h1 ?_
        have : (xs.map a.eval).toList[i]? = some u := by simpa using h2
        simpa using this
      · rw [List.getElem?_append_right (by omega), List.getElem?_map, Option.map_eq_some_iff] at h1
        rw [Array.getElem?_append_right (by omega), hsx] at h2
        obtain ⟨x, hx1, rfl⟩ := h1
        obtain ⟨k1, k2, k3⟩ := hvs _ x hx1
        rw [k1] at h2
        cases h2
        refine ⟨_, _, rfl, fun _ => lendTags_Imm.2 k2, fun j z hz => ?_⟩
        cases j with
        | zero => simp at hz; subst hz; exact ⟨_, by simpa using k3, (hrep _ x hx1).mono (fun _ _ => rfl) fun q hq => lendTags_Imm.2 hq⟩
        | succ j => simp at hz
    · rintro e w1 ⟨v1, g1, s1, rfl, hb, hR, hs, h1, h2, h3, h4, h5⟩
      subst hR
      rw [hd]
      exact hnext _ w1 _ _ rfl (hr.called d hn hb hs h1 h2 h3 h4 h5)
  | _ => cases hfc

def xMakeFunc (d : Nat) (f : FuncId) (t : Nat) (L : SL) : Option Ex :=
  match look L (tk t) with
  | .one (.lf (.ptr b 0)) => match home b L with
    | none => none
    | some k => match look L (ck (k / 2)) with
      | .cell b' [.im true x] => bif Nat.beq b' b then some ⟨[ck (k / 2), tk t], [(ck (k / 2), Slot.hole), (tk d, .im (.fn f [x]))], none, []⟩ else none
      | _ => none
  | _ => none

theorem xMakeFunc_sound {P : Program} {E : Env} {o : Oper} {d t : Nat} {f : FuncId} {L : SL} {ex : Ex} (ho : o.op = .makeFunc (.func f) #[] #[.tmp t]) (hd : o.dst = some d) (hn : d < E.n)
    (he : xMakeFunc d f t L = some ex) : SoundOp P E o L ex := by
  unfold xMakeFunc at he
  split at he
  · rename_i b hx
    split at he
    · cases he
    · rename_i k hk
      split at he
      · rename_i b' x hc
        cases hb : Nat.beq b' b with
        | false => rw [hb] at he; cases he
        | true =>
          rw [hb] at he
          cases he
          obtain rfl := Nat.eq_of_beq_eq_true hb
          refine SoundOp.plain fun _ ν τ hτ => ?_
          have h1 := hτ (tk t) (by simp)
          have h2 := hτ (ck (k / 2)) (by simp)
          simp only [den, hx, renS, renP, renL] at h1
          simp only [den, hc, renS] at h2
          cases hν : ν b' with
          | none => rw [hν] at h1; exact Step.absurd fun g w a hr => bad_tmp hr h1
          | some p =>
            rw [hν] at h1 h2
            simp only [renW, List.map, updL, renS, renP, renL]
            exact step_makeFunc d t (k / 2) f p.1 x ho hd hn h1 h2
      · cases he
  · cases he

def xCallF (P : Program) (d t : Nat) (xs : List Operand) (L : SL) (w : Option Wit) : Option Ex :=
  match ox L (.tmp t), partsX L xs, w with
  | .one (.lf (.im sh (.fn f caps))), some ps, some (.ret s) => bif s.closed then some ⟨tk t :: oksX xs, [(tk d, s)], none, [Text P f, CallV P f (ps ++ caps.map fun x => .lf (.sref sh [x])) (· = s)]⟩ else none
  | _, _, _ => none

theorem xCallF_sound {P : Program} {E : Env} {o : Oper} {d t : Nat} {xs : Array Operand} {ats : Array TypeId} {L : SL} {w : Option Wit} {ex : Ex}
    (ho : o.op = .call { callee := .value (.tmp t), args := xs, argTypes := ats }) (hd : o.dst = some d) (hn : d < E.n)
    (he : xCallF P d t xs.toList L w = some ex) : SoundOp P E o L ex := by
  unfold xCallF at he
  split at he
  · rename_i sh f caps ps s hx hps
    cases hb : s.closed with
    | false => rw [hb] at he; cases he
    | true =>
      rw [hb] at he
      cases he
      refine SoundOp.plain fun hc ν τ hτ => ?_
      have h1 := partsX_parts hτ (fun k hk => by simp [hk]) hps
      have h2 := im_den (x := .tmp t) hτ (fun k hk => by simp [ok] at hk; simp [hk]) hx
      simp only [renW, List.map, updL, renS_closed hb]
      exact step_callF d t f caps xs ats ps ho hd hn hc.1 h2 h1 hc.2.1
  · cases he

/-- A call of a function that writes on a builder. -/
def xCallB (P : Program) (d : Nat) (f : FuncId) (xs : List Operand) (L : SL) (s' : ByteArray) : Option Ex :=
  match xs with
  | [] => none
  | x :: xs => match ox L x with
    | .one (.lf (.ptr b off)) => match home b L with
      | none => none
      | some k => match look L (ck (k / 2)) with
        | .obj b' T e s => match partsX L xs with
          | none => none
          | some ps => bif Nat.beq b' b && Nat.beq off 0 then
              some ⟨ck (k / 2) :: (ok x ++ oksX xs), [(ck (k / 2), .obj b T e s'), (tk d, Slot.hole)], none, [Text P f, CallB P f T e ps s s']⟩ else none
        | _ => none
    | _ => none

theorem xCallB_sound {P : Program} {E : Env} {o : Oper} {d : Nat} {f : FuncId} {xs : Array Operand} {ats : Array TypeId} {L : SL} {s' : ByteArray} {ex : Ex}
    (ho : o.op = .call { callee := .value (.func f), args := xs, argTypes := ats }) (hd : o.dst = some d) (hn : d < E.n)
    (he : xCallB P d f xs.toList L s' = some ex) : SoundOp P E o L ex := by
  generalize hxs : xs.toList = l at he
  unfold xCallB at he
  split at he
  · cases he
  · rename_i x xs'
    split at he
    · rename_i b off hx
      split at he
      · cases he
      · rename_i k hk
        split at he
        · rename_i b' T e s hobj
          split at he
          · cases he
          · rename_i ps hps
            cases hb : Nat.beq b' b && Nat.beq off 0 with
            | false => rw [hb] at he; cases he
            | true =>
              rw [hb] at he
              cases he
              rw [Bool.and_eq_true] at hb
              obtain rfl := Nat.eq_of_beq_eq_true hb.1
              obtain rfl := Nat.eq_of_beq_eq_true hb.2
              refine SoundOp.plain fun hc ν τ hτ => ?_
              have h1 := partsX_parts hτ (xs := xs') (fun k hk => by simp [hk]) hps
              have h := opd_is hτ (fun k hk => by simp [hk]) hx
              have h2 := hτ (ck (k / 2)) (by simp)
              simp only [den, hobj, renS] at h2
              simp only [renS, renP, renL] at h
              cases hν : ν b' with
              | none => rw [hν] at h; exact Step.absurd fun g w a hr => bad_opd hr h
              | some q =>
                rw [hν] at h h2
                have := step_callB d (k / 2) f x xs' xs ats ps q.1 T e s s' ho hxs hd hn hc.1 h h2 h1 hc.2.1
                refine this.mono fun τ' e0 => ?_
                subst e0
                simp only [renW, List.map, updL, renS, renP, renL, hν]
        · cases he
    · cases he

def Tab.isBool (T : Tab) (t : TypeId) : Bool := match T.get t with
  | some ti => match ti.sh with
    | .bool => true
    | _ => false
  | none => false

/-- Any operation. -/
def exec (P : Program) (T : Tab) (n : Nat) (o : Oper) (L : SL) (w : Option Wit) : Option Ex :=
  match o.dst with
  | none => match o.op with
    | .store t x y => xStore T t x y L w
    | _ => none
  | some d => bif Nat.blt d n then (match o.op with
    | .move x => xCopy true d x L w
    | .assign x => xCopy false d x L w
    | .pick c x y => xPick d c x y L w
    | .binOp op t x y _ => match w with
      | some (.num r) => xNum d op x y L r
      | w => xBin (T.isBool t) d op x y L w
    | .unOp op _ x => xUn d op x L w
    | .load t x => xLoad T t d x L w
    | .fieldAddr t x j => xField T t d x j L w
    | .field t x j => xFieldV P t d x j L w
    | .indexAddr t x y => xIndexAddr T t d x y L w
    | .index t x y => xIndex T t d x y L w
    | .box _ x => xBox d x L
    | .alloc t => xAlloc T t d L
    | .build t parts => xBuild T t d parts.toList L w
    | .buildSlice t m parts => xBuildSlice T t d m parts.toList L w
    | .makeSlice t x y => xMakeSlice T t d x y L w
    | .extract x i => xExtract d x i L w
    | .nilCheck x => xNilCheck d x L w
    | .convert t t' x => match xBytes T t t' d x L w with
      | some ex => some ex
      | none => xConvert T t t' d x L w
    | .slice t x lo hi mx => xSlice T t d x lo hi mx L w
    | .call { callee := .builtin .len, args := ⟨[x]⟩, argTypes := ⟨[t]⟩ } => xLen T t d x L w
    | .call { callee := .builtin .append, args := ⟨[x, y]⟩, argTypes := ⟨[t, t']⟩ } => bif Nat.beq t' t then xAppend T t d x y L w else none
    | .makeFunc (.func f) ⟨[]⟩ ⟨[.tmp t]⟩ => xMakeFunc d f t L
    | .call { callee := .value (.tmp t), args := xs, argTypes := _ } => xCallF P d t xs.toList L w
    | .call { callee := .value (.func f), args := xs, argTypes := _ } => match w with
      | some (.obj s') => xCallB P d f xs.toList L s'
      | w => xCall P d f xs.toList L w
    | _ => none) else none

theorem isBool_ok {P : Program} {T : Tab} (hT : TabOK P T) {t : TypeId} (h : T.isBool t = true) : P.underlying t = some .bool := by
  unfold Tab.isBool at h
  split at h
  · rename_i ti hti
    have := (hT.get hti).sh
    split at h
    · rename_i hs; rw [hs] at this; exact this
    · cases h
  · cases h

theorem exec_sound {P : Program} {E : Env} {T : Tab} {n : Nat} {o : Oper} {L : SL} {w : Option Wit} {ex : Ex} (hT : TabOK P T) (hE : E.n = n) (he : exec P T n o L w = some ex) : SoundOp P E o L ex := by
  unfold exec at he
  split at he
  · rename_i hd
    split at he
    · rename_i t x y ho
      exact xStore_sound hT ho hd he
    · cases he
  · rename_i d hd
    cases hb : Nat.blt d n with
    | false => rw [hb] at he; cases he
    | true =>
      rw [hb] at he
      have hn : d < E.n := by rw [hE]; exact Nat.le_of_ble_eq_true hb
      simp only [cond_true] at he
      split at he
      · rename_i x ho; exact xCopy_sound (.inl ho) hd hn he
      · rename_i x ho; exact xCopy_sound (.inr ho) hd hn he
      · rename_i c x y ho; exact xPick_sound ho hd hn he
      · rename_i op t x y t' ho
        split at he
        · exact xNum_sound ho hd hn he
        · exact xBin_sound ho hd hn (isBool_ok hT) he
      · rename_i op t x ho; exact xUn_sound ho hd hn he
      · rename_i t x ho; exact xLoad_sound hT ho hd hn he
      · rename_i t x j ho; exact xField_sound hT ho hd hn he
      · rename_i t x j ho; exact xFieldV_sound ho hd hn he
      · rename_i t x y ho; exact xIndexAddr_sound hT ho hd hn he
      · rename_i t x y ho; exact xIndex_sound hT ho hd hn he
      · rename_i t x ho; exact xBox_sound ho hd hn he
      · rename_i t ho; exact xAlloc_sound hT ho hd hn he
      · rename_i t parts ho; exact xBuild_sound hT ho hd hn he
      · rename_i t m parts ho; exact xBuildSlice_sound hT ho hd hn he
      · rename_i t x y ho; exact xMakeSlice_sound hT ho hd hn he
      · rename_i x i ho; exact xExtract_sound ho hd hn he
      · rename_i x ho; exact xNilCheck_sound ho hd hn he
      · rename_i t t' x ho
        split at he
        · rename_i ex' hex; cases he; exact xBytes_sound hT ho hd hn hex
        · exact xConvert_sound hT ho hd hn he
      · rename_i t x lo hi mx ho; exact xSlice_sound hT ho hd hn he
      · rename_i x t ho; exact xLen_sound hT ho hd hn he
      · rename_i x y t t' ho
        cases hb2 : Nat.beq t' t with
        | false => rw [hb2] at he; cases he
        | true =>
          rw [hb2] at he
          obtain rfl := Nat.eq_of_beq_eq_true hb2
          exact xAppend_sound hT ho hd hn he
      · rename_i f t ho; exact xMakeFunc_sound ho hd hn he
      · rename_i t xs ats ho; exact xCallF_sound ho hd hn he
      · rename_i f xs ats ho
        split at he
        · exact xCallB_sound ho hd hn he
        · exact xCall_sound ho hd hn he
      · cases he
end Go.Proofs.YtahciphhopiipaaGreatDoor.V
