/- A function's contract, by value; how a body proves it; how a call uses it. -/
import Derived.Test.YtahciphhopiipaaGreatDoorV7
set_option linter.unusedVariables false
set_option linter.unusedSimpArgs false
namespace Go.Proofs.YtahciphhopiipaaGreatDoor.V
open Go Go.RowKit

/-- Called with such arguments a function returns such a value; what was in memory stays; what comes back owned is new. -/
def CallV (P : Program) (f : FuncId) (args : List Part) (R : Slot → Prop) : Prop :=
  ∀ (g : Nat → Tag) (w : World) (vs : Array Value), Lw w → (∀ b k i j, g b ≠ .own k i j) → (∀ b, w.heap.size ≤ b → g b = .none) → vs.size = args.length →
    (∀ (i : Nat) p v, args[i]? = some p → vs[i]? = some v → PartRel g w 0 i v p) →
    Calls P f vs w fun e w' => ∃ v g' s, e = .returned v ∧ Below w.heap.size w w' ∧ R s ∧ SlotRel g' w' 0 v s ∧ (∀ b, b < w.heap.size → g' b = g b) ∧
      (∀ b, w'.heap.size ≤ b → g' b = .none) ∧ (∀ b k i j, g' b = .own k i j → k = 0) ∧ (∀ b b' k i j, g' b = .own k i j → g' b' = .own k i j → b = b') ∧ (∀ b, w.heap.size ≤ b → g' b = .imm → Plain w' b)

theorem CallV.mono {P : Program} {f : FuncId} {args : List Part} {R R' : Slot → Prop} (h : CallV P f args R) (hR : ∀ s, R s → R' s) : CallV P f args R' :=
  fun g w vs h0 h1 h2 h3 h4 => (h g w vs h0 h1 h2 h3 h4).mono fun _ _ ⟨v, g', s, a, b, c, d⟩ => ⟨v, g', s, a, b, hR s c, d⟩

/-- The state in which a body begins. -/
def st0 (args : List Part) : St := fun k => if k % 2 = 0 then ((args[k / 2]?).map Slot.one).getD Slot.hole else Slot.hole

/-- What a result variable holds in the end. -/
def resPart (τ : St) : ResultVar → Option Part
  | .tmp t => match τ (tk t) with
    | .one p => some p
    | _ => none
  | .cell a _ => match τ (ck a), τ (tk a) with
    | .cell b ls, .one (.lf (.ptr b' 0)) => if b = b' ∧ ls.all Leaf.bare = true then some (.agg ls) else none
    | _, _ => none

def resParts (τ : St) : List ResultVar → Option (List Part)
  | [] => some []
  | r :: rs => match resPart τ r, resParts τ rs with
    | some p, some ps => some (p :: ps)
    | _, _ => none

def slotOf : List Part → Slot
  | [p] => .one p
  | ps => .tup ps

def isTmp (k : Nat) : ResultVar → Bool
  | .tmp t => tk t == k
  | _ => false

/-- Which result a temporary is. -/
def resIdx (k : Nat) : List ResultVar → Nat → Option Nat
  | [], _ => none
  | r :: rs, i => if isTmp k r then some i else resIdx k rs (i + 1)

theorem resIdx_ge {k : Nat} : ∀ (rs : List ResultVar) (i j : Nat), resIdx k rs i = some j → i ≤ j
  | [], _, _, h => by cases h
  | r :: rs, i, j, h => by
    unfold resIdx at h
    split at h
    · cases h; exact Nat.le_refl _
    · have := resIdx_ge rs (i + 1) j h; omega

theorem resIdx_inj {k k' : Nat} : ∀ (rs : List ResultVar) (i j : Nat), resIdx k rs i = some j → resIdx k' rs i = some j → k = k'
  | [], _, _, h, _ => by cases h
  | r :: rs, i, j, h, h' => by
    unfold resIdx at h h'
    by_cases e : isTmp k r = true
    · rw [if_pos e] at h
      cases h
      by_cases e' : isTmp k' r = true
      · cases r <;> simp [isTmp] at e e'
        rw [← e, ← e']
      · rw [if_neg e'] at h'
        have := resIdx_ge rs _ _ h'; omega
    · rw [if_neg e] at h
      by_cases e' : isTmp k' r = true
      · rw [if_pos e'] at h'
        cases h'
        have := resIdx_ge rs _ _ h; omega
      · rw [if_neg e'] at h'
        exact resIdx_inj rs (i + 1) j h h'

/-- The tags behind a return. -/
def retag (rs : List ResultVar) (g : Nat → Tag) : Nat → Tag := fun b => match g b with
  | .own k 0 j => match resIdx k rs 0 with
    | some i => .own 0 i j
    | none => .none
  | .own _ (_ + 1) _ => .none
  | t => t

theorem retag_own {rs : List ResultVar} {g : Nat → Tag} {b k i j : Nat} (h : retag rs g b = .own k i j) : k = 0 ∧ ∃ k', g b = .own k' 0 j ∧ resIdx k' rs 0 = some i := by
  unfold retag at h
  cases e : g b with
  | none => rw [e] at h; cases h
  | imm => rw [e] at h; cases h
  | lent => rw [e] at h; cases h
  | own x y z =>
    rw [e] at h
    cases y with
    | zero =>
      simp only at h
      split at h
      · rename_i i' hi; cases h; exact ⟨rfl, x, rfl, hi⟩
      · cases h
    | succ y => cases h

theorem retag_Imm {rs : List ResultVar} {g : Nat → Tag} {sh : Bool} {b : Nat} (h : Imm g sh b) : Imm (retag rs g) sh b := by
  unfold Imm retag
  rcases h with h | ⟨e, h⟩
  · rw [h]; exact .inl rfl
  · rw [h]; exact .inr ⟨e, rfl⟩

theorem Part.bare_rel {g g' : Nat → Tag} {w : World} {k i k' i' : Nat} {v : Value} {p : Part} (h : PartRel g w k i v p) (hb : p.bare = true) (hS : ∀ sh b, Imm g sh b → Imm g' sh b) :
    PartRel g' w k' i' v p := h.bare hb hS

/-- How a result is read. -/
def resSem (a : Act) : ResultVar → Sem Value
  | .tmp t => pure (a.tmps.getD t undef)
  | .cell x t => do loadVar t (← asAddr (a.tmps.getD x undef))

/-- One result, as it is read in the end. -/
theorem res_one {P : Program} {E : Env} {g : Nat → Tag} {w : World} {a : Act} {τ : St} (h : Rel E g w a τ) (rs : List ResultVar) (i : Nat) (r : ResultVar) (p : Part) (hp : resPart τ r = some p)
    (hi : ∀ t, r = .tmp t → resIdx (tk t) rs 0 = some i) (hty : ∀ t ty, r = .cell t ty → ∃ sz, Ty P ty sz true ∧ ∀ ls, p = .agg ls → ls.length = sz) :
    ∃ v, (resSem a r).run P w = .ok v w ∧ PartRel (retag rs g) w 0 i v p := by
  cases r with
  | tmp t =>
    refine ⟨_, rfl, ?_⟩
    have hs := h.slot t
    simp only [resPart] at hp
    split at hp
    · rename_i p' e
      cases hp
      rw [e] at hs
      refine PartRel.to hs (fun sh b hb => ⟨retag_Imm hb, rfl⟩) (fun b j hb => ⟨?_, rfl⟩)
      unfold retag; rw [hb]; simp [hi t rfl]
    · cases hp
  | cell x ty =>
    simp only [resPart] at hp
    split at hp
    · rename_i b ls b' e1 e2
      split at hp
      · rename_i hc
        obtain ⟨rfl, hbare⟩ := hc
        cases hp
        have hs := h.slot x
        have hcell := h.cell x
        rw [e2] at hs
        rw [e1] at hcell
        obtain ⟨cur, e, hg, hh, hl⟩ := hcell
        obtain ⟨sz, hT, hsz⟩ := hty x ty rfl
        have hlen := hsz ls rfl
        have hv : a.tmps.getD x undef = .pointer (some ⟨b, 0, none⟩) := hs
        refine ⟨.agg cur, ?_, cur, rfl, hl.1, fun j l v h1 h2 => (hl.2 j l v h1 h2).bare (List.all_eq_true.1 hbare l (List.mem_of_getElem? h1)) fun sh b hb => retag_Imm hb⟩
        have hrun := run_loadVar (P := P) (w := w) hT b 0 cur.toList (by rw [Array.length_toList, hl.1, hlen]) (by intro e; cases e) (fun j x hj => by
          have : cur[j]? = some x := by simpa using hj
          simp [World.cell?, hh, this])
        simp only [resSem, hv, asAddr, Sem.run_bind, Sem.run_pure, Result.andThen_ok]
        simpa using hrun
      · cases hp
    · cases hp

def resLen (P : Program) (ps : List Part) (rs : List ResultVar) : Prop := ∀ (i : Nat) t ty p, rs[i]? = some (.cell t ty) → ps[i]? = some p → ∃ sz, Ty P ty sz true ∧ ∀ ls, p = .agg ls → ls.length = sz

theorem resParts_length {τ : St} : ∀ {rs : List ResultVar} {ps : List Part}, resParts τ rs = some ps → ps.length = rs.length
  | [], ps, h => by cases h; rfl
  | r :: rs, ps, h => by
    simp only [resParts] at h
    split at h
    · rename_i p ps' h1 h2
      cases h
      simp [resParts_length h2]
    · cases h

theorem resParts_get {τ : St} : ∀ {rs : List ResultVar} {ps : List Part}, resParts τ rs = some ps → ∀ {i : Nat} {r : ResultVar} {p : Part}, rs[i]? = some r → ps[i]? = some p → resPart τ r = some p
  | [], ps, h, i, r, p, h1, h2 => by simp at h1
  | r' :: rs, ps, h, i, r, p, h1, h2 => by
    simp only [resParts] at h
    split at h
    · rename_i p' ps' e1 e2
      cases h
      cases i with
      | zero => simp at h1 h2; subst h1; subst h2; exact e1
      | succ i => exact resParts_get e2 (by simpa using h1) (by simpa using h2)
    · cases h

/-- All results. -/
theorem res_all {P : Program} {E : Env} {g : Nat → Tag} {w : World} {a : Act} {τ : St} (h : Rel E g w a τ) (all : List ResultVar) :
    ∀ (rs : List ResultVar) (k : Nat) (ps : List Part), resParts τ rs = some ps → (∀ (i : Nat) t, rs[i]? = some (.tmp t) → resIdx (tk t) all 0 = some (k + i)) → resLen P ps rs →
    ∃ vs : List Value, vs.length = ps.length ∧ (rs.mapM (resSem a)).run P w = .ok vs w ∧
      ∀ (i : Nat) p v, ps[i]? = some p → vs[i]? = some v → PartRel (retag all g) w 0 (k + i) v p
  | [], k, ps, hp, _, _ => by cases hp; exact ⟨[], rfl, rfl, fun i p v h => by simp at h⟩
  | r :: rs, k, ps, hp, hi, hl => by
    simp only [resParts] at hp
    split at hp
    · rename_i p ps' e1 e2
      cases hp
      obtain ⟨v, hv, hr⟩ := res_one (P := P) h all k r p e1 (fun t e => by simpa using hi 0 t (by simp [e])) (fun t ty e => hl 0 t ty p (by simp [e]) rfl)
      obtain ⟨vs, hvl, hvs, hrs⟩ := res_all h all rs (k + 1) ps' e2 (fun i t e => by have := hi (i + 1) t (by simpa using e); rwa [show k + (i + 1) = k + 1 + i from by omega] at this) (fun i t ty p h1 h2 => hl (i + 1) t ty p (by simpa using h1) (by simpa using h2))
      refine ⟨v :: vs, by simp [hvl], ?_, fun i p' v' h1 h2 => ?_⟩
      · rw [List.mapM_cons, Sem.run_bind, hv, Result.andThen_ok, Sem.run_bind, hvs]; rfl
      · cases i with
        | zero => simp at h1 h2; subst h1; subst h2; exact hr
        | succ i => have := hrs i p' v' (by simpa using h1) (by simpa using h2); rwa [show k + 1 + i = k + (i + 1) from by omega] at this
    · cases hp
end Go.Proofs.YtahciphhopiipaaGreatDoor.V
