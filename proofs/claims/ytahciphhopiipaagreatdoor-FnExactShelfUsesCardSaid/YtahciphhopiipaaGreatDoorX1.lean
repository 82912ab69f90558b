/- What operations do, computed: copies, choices, numbers, truths, texts. -/
import Derived.Test.YtahciphhopiipaaGreatDoorX0
set_option linter.unusedVariables false
set_option linter.unusedSimpArgs false
namespace Go.Proofs.YtahciphhopiipaaGreatDoor.V
open Go Go.RowKit

/-- A hint for one operation. -/
inductive Wit where
  | slot (s : Slot)
  | row (r : List SV)
  | elem (i j : Nat) (r : List SV) (rows : Option (List (List SV)))
  | ret (s : Slot)
  | retU (e sz : Nat) (rows : List (List SV))
  | byte (c : UInt8)
  | cut (l h : Nat) (s : Slot)
  | im
  | num (r : Int)
  | obj (s : ByteArray)

def ovr (w : Option Wit) (s : Slot) : Slot × List Prop := match w with
  | some (.slot s') => (s', [s = s'])
  | _ => (s, [])

def fin1 (d : Nat) (R : List Nat) (s : Slot) (c : List Prop) (w : Option Wit) : Option Ex :=
  some ⟨R, [(tk d, (ovr w s).1)], none, (ovr w s).2 ++ c⟩

theorem sound_fin {P : Program} {E : Env} {o : Oper} {L : SL} {d : Nat} {R : List Nat} {s : Slot} {c : List Prop} {w : Option Wit} {ex : Ex} (he : fin1 d R s c w = some ex)
    (h : AllP c → ∀ (ν : Nm) (τ : St), (∀ k ∈ R, τ k = den ν L k) → Step P E o τ (· = upd τ (tk d) (renS ν s))) : SoundOp P E o L ex := by
  cases he
  refine SoundOp.plain fun hc ν τ hτ => ?_
  obtain ⟨h1, h2⟩ := hc.app
  have e : (ovr w s).1 = s := by
    unfold ovr at h1 ⊢
    split
    · simp only at h1; exact h1.1.symm
    · rfl
  rw [e]
  exact h h2 ν τ hτ

theorem SoundOp.weak {P : Program} {E : Env} {o : Oper} {L : SL} {R : List Nat} {ws : SL} {c : List Prop}
    (h : AllP c → ∀ (ν : Nm) (τ : St), (∀ k ∈ R, τ k = den ν L k) → Step P E o τ (fun τ' => Weak τ' (updL τ (renW ν ws)))) : SoundOp P E o L ⟨R, ws, none, c⟩ :=
  fun hc ν τ hτ => (h hc ν τ hτ).mono fun τ' e => ⟨none, e⟩

/-- Which key holds what a name stands for. -/
def Slot.homes (b : Nat) : Slot → Bool
  | .one (.lf (.u b' _ _ _ _)) => Nat.beq b' b
  | .cell b' _ => Nat.beq b' b
  | .obj b' _ _ _ => Nat.beq b' b
  | _ => false
def home (b : Nat) : SL → Option Nat
  | [] => none
  | (k, s) :: r => bif s.homes b then some k else home b r

def xCopy (mv : Bool) (d : Nat) (x : Operand) (L : SL) (w : Option Wit) : Option Ex :=
  match ox L x with
  | .one (.lf (.u b c e sz rows)) => match x with
    | .tmp t => bif mv then some ⟨[tk t], [(tk d, .lf (.hd b rows.length 0))], none, []⟩
      else bif Nat.beq t d then none else some ⟨[tk t], [(tk t, Slot.hole), (tk d, .lf (.u b 0 e sz rows))], none, []⟩
    | _ => none
  | .one (.lf (.hd b n c)) => bif mv then some ⟨ok x, [(tk d, .lf (.hd b n 0))], none, []⟩ else match home b L with
    | some k => match look L (tk (k / 2)) with
      | .one (.lf (.u b' _ e sz rows)) => bif Nat.beq b' b && !Nat.beq (k / 2) d then some ⟨tk (k / 2) :: ok x, [(tk (k / 2), Slot.hole), (tk d, .lf (.u b 0 e sz rows))], none, [n = rows.length]⟩ else none
      | _ => none
    | none => none
  | s => bif s.bare then fin1 d (ok x) s [] w else none

theorem weak_upd {σ : St} {k : Nat} {s s' : Slot} (h : s' = s ∨ s' = Slot.hole) : Weak (upd σ k s) (upd σ k s') := fun k' => by
  unfold upd
  split
  · exact h
  · exact .inl rfl

theorem weak_upd_hole {σ : St} (k k2 : Nat) (s : Slot) : Weak (upd σ k2 s) (upd (upd σ k Slot.hole) k2 s) := fun k' => by
  unfold upd
  split
  · exact .inl rfl
  · split
    · exact .inr rfl
    · exact .inl rfl

theorem xCopy_sound {P : Program} {E : Env} {o : Oper} {mv : Bool} {d : Nat} {x : Operand} {L : SL} {w : Option Wit} {ex : Ex} (ho : o.op = .move x ∨ o.op = .assign x) (hd : o.dst = some d) (hn : d < E.n)
    (he : xCopy mv d x L w = some ex) : SoundOp P E o L ex := by
  unfold xCopy at he
  split at he
  · rename_i b c e sz rows hx
    cases x with
    | tmp t =>
      simp only at he
      cases mv with
      | true =>
        cases he
        refine SoundOp.plain fun _ ν τ hτ => ?_
        have h := opd_is (x := .tmp t) hτ (by simp [ok]) hx
        simp only [renS, renP, renL, opd] at h
        simp only [renW, List.map, updL, renS, renP, renL, Slot.lf]
        cases hb : ν b with
        | some p => rw [hb] at h; exact step_alias d t _ _ _ _ _ ho hd hn h
        | none =>
          rw [hb] at h
          simp only at h ⊢
          cases rows with
          | nil => exact step_copy d (.tmp t) _ ho hd hn h rfl
          | cons r rs =>
            simp only [List.isEmpty_cons, List.length_cons] at h ⊢
            exact step_copy d (.tmp t) _ ho hd hn h rfl
      | false =>
        simp only [cond_false] at he
        cases htd : Nat.beq t d with
        | true => rw [htd] at he; cases he
        | false =>
          rw [htd] at he
          cases he
          refine SoundOp.weak fun _ ν τ hτ => ?_
          have h := opd_is (x := .tmp t) hτ (by simp [ok]) hx
          simp only [renS, renP, renL, opd] at h
          simp only [renW, List.map, updL, renS, renP, renL, Slot.lf, Slot.hole]
          cases hb : ν b with
          | some p => rw [hb] at h; exact (step_move d t _ _ _ _ _ ho hd hn h).mono fun _ e => e ▸ Weak.refl _
          | none =>
            rw [hb] at h
            simp only at h ⊢
            exact (step_copy d (.tmp t) _ ho hd hn h (by cases rows <;> rfl)).mono fun _ e => e ▸ weak_upd_hole _ _ _
    | const v => cases he
    | global g => cases he
    | func f => cases he
  · rename_i b n c hx
    cases mv with
    | true =>
      cases he
      refine SoundOp.plain fun _ ν τ hτ => ?_
      have h := opd_is hτ (by simp) hx
      simp only [renW, List.map, updL, renS, renP, renL, Slot.lf] at h ⊢
      exact step_copy d x _ ho hd hn h (by cases ν b <;> simp only [] <;> first | rfl | (split <;> rfl))
    | false =>
      simp only [cond_false] at he
      split at he
      · rename_i k hk
        split at he
        · rename_i b' c' e sz rows hu
          cases hbb : Nat.beq b' b && !Nat.beq (k / 2) d with
          | false => rw [hbb] at he; cases he
          | true =>
            rw [hbb] at he
            cases he
            rw [Bool.and_eq_true] at hbb
            obtain rfl := Nat.eq_of_beq_eq_true hbb.1
            refine SoundOp.weak fun hc ν τ hτ => ?_
            have h := opd_is hτ (fun k hk => by simp [hk]) hx
            have h2 := hτ (tk (k / 2)) (by simp)
            simp only [den, hu] at h2
            simp only [renW, List.map, updL, renS, renP, renL, Slot.lf, Slot.hole] at h h2 ⊢
            have hnr : n = rows.length := hc.1
            cases hb : ν b' with
            | some p => rw [hb] at h h2; exact (step_take d x (k / 2) _ _ _ _ _ _ ho hd hn h h2 hnr).mono fun _ e => e ▸ Weak.refl _
            | none =>
              rw [hb] at h h2
              simp only at h h2 ⊢
              have e1 : (if n = 0 then Leaf.nil else badLeaf) = if rows.isEmpty then Leaf.nil else badLeaf := by
                cases rows with
                | nil => simp at hnr; simp [hnr]
                | cons r rs => simp at hnr; simp [hnr]
              rw [e1] at h
              exact (step_copy d x _ ho hd hn h (by cases rows <;> rfl)).mono fun _ e => e ▸ weak_upd_hole _ _ _
        · cases he
      · cases he
  · rename_i s hu hh
    cases hb : (ox L x).bare with
    | false => rw [hb] at he; cases he
    | true =>
      rw [hb] at he
      refine sound_fin he fun _ ν τ hτ => ?_
      exact step_copy d x _ ho hd hn (opd_den hτ (by simp)) (renS_bare hb)

def xPick (d : Nat) (c x y : Operand) (L : SL) (w : Option Wit) : Option Ex :=
  match ox L c with
  | .one (.lf (.im _ (.bool b))) => match b with
    | true => bif (ox L x).bare then fin1 d (ok c ++ ok x) (ox L x) [] w else none
    | false => bif (ox L y).bare then fin1 d (ok c ++ ok y) (ox L y) [] w else none
  | _ => none

theorem step_pick' {P : Program} {E : Env} {o : Oper} {σ : St} (d : Nat) (c x y : Operand) (b : Bool) (s : Slot) {sh : Bool} (ho : o.op = .pick c x y) (hd : o.dst = some d)
    (hn : d < E.n) (hc : opd σ c = .lf (.im sh (.bool b))) (hx : opd σ (if b then x else y) = s) (hb : s.bare = true) : Step P E o σ (· = upd σ (tk d) s) := by
  refine Step.of_run fun g w a h => ⟨a.eval (if b then x else y), w, drop (tk d) g, _, .inl ?_, rfl, ?_⟩
  · have hc' := opd_bool h hc
    cases b <;> simp [execOp, ho, hc', asBool]
  · rw [hd]
    refine h.set d _ _ hn fun g' hg' => ?_
    have := opd_rel h (if b then x else y)
    rw [hx] at this
    exact this.bare hb hg'

theorem xPick_sound {P : Program} {E : Env} {o : Oper} {d : Nat} {c x y : Operand} {L : SL} {w : Option Wit} {ex : Ex} (ho : o.op = .pick c x y) (hd : o.dst = some d) (hn : d < E.n)
    (he : xPick d c x y L w = some ex) : SoundOp P E o L ex := by
  unfold xPick at he
  split at he
  · rename_i sh b hc
    split at he
    · cases hb : (ox L x).bare with
      | false => rw [hb] at he; cases he
      | true =>
        rw [hb] at he
        refine sound_fin he fun _ ν τ hτ => ?_
        refine step_pick' d c x y true _ ho hd hn (sh := sh) ?_ (opd_den hτ (fun k hk => List.mem_append_right _ (by simpa using hk))) (renS_bare hb)
        have := opd_is hτ (fun k hk => by simp [hk]) hc
        simpa only [renS, renP, renL] using this
    · cases hb : (ox L y).bare with
      | false => rw [hb] at he; cases he
      | true =>
        rw [hb] at he
        refine sound_fin he fun _ ν τ hτ => ?_
        refine step_pick' d c x y false _ ho hd hn (sh := sh) ?_ (opd_den hτ (fun k hk => List.mem_append_right _ (by simpa using hk))) (renS_bare hb)
        have := opd_is hτ (fun k hk => by simp [hk]) hc
        simpa only [renS, renP, renL] using this
  · cases he

theorem im_den {ν : Nm} {L : SL} {τ : St} {x : Operand} {R : List Nat} {sh : Bool} {v : SV} (h : ∀ k ∈ R, τ k = den ν L k) (hx : ∀ k ∈ ok x, k ∈ R) (hs : ox L x = .one (.lf (.im sh v))) : opd τ x = .lf (.im sh v) := by
  have := opd_is h hx hs
  simpa only [renS, renP, renL] using this

def IntKind.eqb (a b : IntKind) : Bool := decide (a = b)

/-- Two texts are not too long for one. By name: the kernel does not look into it. -/
structure StrFit (a b : ByteArray) : Prop where
  le : ((a.size + b.size : Nat) : Int) ≤ IntKind.i64.max

/-- What two operands come to. -/
def binV (op : BinOp) (bool : Bool) : SV → SV → Option (SV × List Prop)
  | .int k a, .int k' b => bif IntKind.eqb k k' then (match op with
    | .quo => some (.int k (k.wrap (a.tdiv b)), [b ≠ 0])
    | .rem => some (.int k (a.tmod b), [b ≠ 0])
    | op => match intOp op k a b with
      | some r => some (r, [])
      | none => none) else none
  | .str a, .str b => match op with
    | .add => some (.str (a ++ b), [StrFit a b])
    | op => match strOp op a b with
      | some r => some (r, [])
      | none => none
  | .bool a, .bool b => bif bool then (match boolOp op a b with
    | some r => some (.bool r, [])
    | none => none) else none
  | _, _ => none

def xBin (bool : Bool) (d : Nat) (op : BinOp) (x y : Operand) (L : SL) (w : Option Wit) : Option Ex :=
  match ox L x, ox L y with
  | .one (.lf (.im _ a)), .one (.lf (.im _ b)) => match binV op bool a b with
    | some (r, c) => match r.val with
      | some _ => fin1 d (ok x ++ ok y) (.im r) c w
      | none => none
    | none => none
  | _, _ => none

theorem xBin_sound {P : Program} {E : Env} {o : Oper} {bool : Bool} {d : Nat} {op : BinOp} {t t' : TypeId} {x y : Operand} {L : SL} {w : Option Wit} {ex : Ex} (ho : o.op = .binOp op t x y t') (hd : o.dst = some d) (hn : d < E.n)
    (ht : bool = true → P.underlying t = some .bool) (he : xBin bool d op x y L w = some ex) : SoundOp P E o L ex := by
  unfold xBin at he
  split at he
  · rename_i s1 a s2 b hx hy
    split at he
    · rename_i r c hr
      split at he
      · rename_i v hv
        refine sound_fin he fun hc ν τ hτ => ?_
        have h1 := im_den hτ (fun k hk => by simp [hk]) hx
        have h2 := im_den hτ (fun k hk => by simp [hk]) hy
        unfold binV at hr
        split at hr
        · rename_i k a k' b
          cases hk : IntKind.eqb k k' with
          | false => rw [hk] at hr; cases hr
          | true =>
            rw [hk] at hr
            have hkk : k = k' := by simpa [IntKind.eqb] using hk
            subst hkk
            simp only [cond_true] at hr
            split at hr
            · cases hr
              exact step_int d _ t t' x y k a b _ _ v ho hd hn h1 h2 (if_neg hc.1) rfl hv
            · cases hr
              exact step_int d _ t t' x y k a b _ _ v ho hd hn h1 h2 (if_neg hc.1) rfl hv
            · split at hr
              · rename_i r' hr'
                cases hr
                exact step_int d _ t t' x y k a b _ _ v ho hd hn h1 h2 hr' rfl hv
              · cases hr
        · rename_i a b
          split at hr
          · cases hr
            exact step_str d _ t t' x y a b _ _ v ho hd hn h1 h2 (if_neg (by have := hc.1.le; omega)) rfl hv
          · split at hr
            · rename_i r' hr'
              cases hr
              exact step_str d _ t t' x y a b _ _ v ho hd hn h1 h2 hr' rfl hv
            · cases hr
        · rename_i a b
          cases hb : bool with
          | false => rw [hb] at hr; cases hr
          | true =>
            rw [hb] at hr
            simp only [cond_true] at hr
            split at hr
            · rename_i r' hr'
              cases hr
              exact step_bool d op t t' (ht hb) x y a b _ ho hd hn h1 h2 hr'
            · cases hr
        · cases hr
      · cases he
    · cases he
  · cases he

/-- What two whole numbers come to, by name. -/
structure NumOp (op : BinOp) (k : IntKind) (a b r : Int) : Prop where
  eq : intOp op k a b = some (.int k r)

def xNum (d : Nat) (op : BinOp) (x y : Operand) (L : SL) (r : Int) : Option Ex :=
  match ox L x, ox L y with
  | .one (.lf (.im _ (.int k a))), .one (.lf (.im _ (.int k' b))) => bif IntKind.eqb k k' then some ⟨ok x ++ ok y, [(tk d, .im (.int k r))], none, [NumOp op k a b r]⟩ else none
  | _, _ => none

theorem xNum_sound {P : Program} {E : Env} {o : Oper} {d : Nat} {op : BinOp} {t t' : TypeId} {x y : Operand} {L : SL} {r : Int} {ex : Ex} (ho : o.op = .binOp op t x y t') (hd : o.dst = some d) (hn : d < E.n)
    (he : xNum d op x y L r = some ex) : SoundOp P E o L ex := by
  unfold xNum at he
  split at he
  · rename_i s1 k a s2 k' b hx hy
    cases hk : IntKind.eqb k k' with
    | false => rw [hk] at he; cases he
    | true =>
      rw [hk] at he
      have hkk : k = k' := by simpa [IntKind.eqb] using hk
      subst hkk
      cases he
      refine SoundOp.plain fun hc ν τ hτ => ?_
      have h1 := im_den hτ (fun k hk => by simp [hk]) hx
      have h2 := im_den hτ (fun k hk => by simp [hk]) hy
      exact step_int d _ t t' x y k a b _ _ (.int k r) ho hd hn h1 h2 hc.1.eq rfl rfl
  · cases he

def xUn (d : Nat) (op : UnOp) (x : Operand) (L : SL) (w : Option Wit) : Option Ex :=
  match op, ox L x with
  | .not, .one (.lf (.im _ (.bool b))) => fin1 d (ok x) (.bool !b) [] w
  | .neg, .one (.lf (.im _ (.int k n))) => fin1 d (ok x) (.im (.int k (k.wrap (0 - n)))) [] w
  | _, _ => none

theorem xUn_sound {P : Program} {E : Env} {o : Oper} {d : Nat} {op : UnOp} {t : TypeId} {x : Operand} {L : SL} {w : Option Wit} {ex : Ex} (ho : o.op = .unOp op t x) (hd : o.dst = some d) (hn : d < E.n)
    (he : xUn d op x L w = some ex) : SoundOp P E o L ex := by
  unfold xUn at he
  split at he
  · rename_i s1 b hx
    exact sound_fin he fun hc ν τ hτ => step_not d t x b ho hd hn (im_den hτ (by simp) hx)
  · rename_i s1 k n hx
    exact sound_fin he fun hc ν τ hτ => step_neg d t x k n _ ho hd hn (im_den hτ (by simp) hx) rfl
  · cases he
end Go.Proofs.YtahciphhopiipaaGreatDoor.V
