/- Regions, run on states written as lists. -/
import Derived.Test.YtahciphhopiipaaX5
set_option linter.unusedVariables false
set_option linter.unusedSimpArgs false
namespace Go.Proofs.Ytahciphhopiipaa.V
open Go Go.RowKit

def clean : Option Nat → SL → SL
  | none, L => L
  | some b, L => L.map fun p => bif p.2.has b then (p.1, Slot.hole) else p
def putX : SL → SL → SL
  | L, [] => L
  | L, p :: ws => putX (p :: L) ws
def aft (L : SL) (ex : Ex) : SL := putX (clean ex.nm L) ex.ws

theorem look_clean (b : Nat) : ∀ (L : SL) (k : Nat), look (clean (some b) L) k = if (look L k).has b = true then Slot.hole else look L k
  | [], k => by simp [clean, look, Slot.has, Part.has, Leaf.has]
  | (k0, s) :: r, k => by
    have ih := look_clean b r k
    simp only [clean, List.map_cons] at ih ⊢
    cases hb : s.has b with
    | true =>
      simp only [cond_true]
      rw [look_cons, look_cons]
      by_cases e : k = k0
      · simp [e, hb]
      · simp only [if_neg e]; exact ih
    | false =>
      simp only [cond_false]
      rw [look_cons, look_cons]
      by_cases e : k = k0
      · simp [e, hb]
      · simp only [if_neg e]; exact ih

theorem clean_weak (ν : Nm) (nm : Option Nat) (v : Option (Nat × Nat)) (L : SL) : Weak (den ν L) (den (setN ν nm v) (clean nm L)) := by
  cases nm with
  | none => exact Weak.refl _
  | some b =>
    intro k
    simp only [den]
    rw [look_clean]
    by_cases h : (look L k).has b = true
    · right; rw [if_pos h]; rfl
    · left; rw [if_neg h]; exact renS_set (by simpa using h)

theorem upd_weak {τ τ2 : St} (h : Weak τ τ2) (k : Nat) (s : Slot) : Weak (upd τ k s) (upd τ2 k s) := fun k' => by
  unfold upd
  split
  · exact .inl rfl
  · exact h k'

theorem updL_weak : ∀ (ws : SL) {τ τ2 : St}, Weak τ τ2 → Weak (updL τ ws) (updL τ2 ws)
  | [], _, _, h => h
  | (k, s) :: ws, _, _, h => updL_weak ws (upd_weak h k s)

theorem den_cons (ν : Nm) (k : Nat) (s : Slot) (L : SL) : den ν ((k, s) :: L) = upd (den ν L) k (renS ν s) := by
  funext k'
  simp only [den, look_cons, upd]
  split <;> rfl

theorem den_putX (ν : Nm) : ∀ (ws L : SL), den ν (putX L ws) = updL (den ν L) (renW ν ws)
  | [], L => rfl
  | (k, s) :: ws, L => by
    simp only [putX, renW, List.map_cons, updL]
    rw [den_putX ν ws, den_cons]
    rfl

theorem aft_weak {ν : Nm} {L : SL} {ex : Ex} {v : Option (Nat × Nat)} {τ : St} (h : Weak τ (updL (den ν L) (renW (setN ν ex.nm v) ex.ws))) : Weak τ (den (setN ν ex.nm v) (aft L ex)) := by
  unfold aft
  rw [den_putX]
  exact h.trans (updL_weak _ (clean_weak ν ex.nm v L))

abbrev Wits := List (Nat × Wit)
def Wits.at : Wits → Nat → Option Wit
  | [], _ => none
  | (k, w) :: r, i => bif Nat.beq i k then some w else Wits.at r i

def guardX (n : Nat) (ops : List Oper) (L : SL) (j : Nat) : Option (Option Bool × Nat) :=
  match ops[j]? with
  | none => none
  | some oj => match oj.dst with
    | none => none
    | some d => bif Nat.blt d n then (match look L (tk d) with
      | .one (.lf (.im _ (.bool b))) => some (some b, d)
      | .tup [] => some (none, d)
      | _ => none) else none

def skipW (o : Oper) : SL := match o.dst with
  | some e => [(tk e, Slot.tup [])]
  | none => []

def wants (want : Bool) : Option Bool → Bool
  | some b => match want with
    | true => b
    | false => !b
  | none => false

def runO (P : Program) (T : Tab) (n : Nat) (ops : List Oper) (W : Wits) : List Nat → SL → Option (SL × List Prop)
  | [], L => some (L, [])
  | i :: is, L => match ops[i]? with
    | none => none
    | some o => match o.guard with
      | none => match exec P T n o L (W.at i) with
        | none => none
        | some ex => match runO P T n ops W is (aft L ex) with
          | none => none
          | some (L2, cs) => some (L2, ex.c ++ cs)
      | some (j, want) => match guardX n ops L j with
        | none => none
        | some (b, d) => match wants want b with
          | true => match exec P T n o L (W.at i) with
            | none => none
            | some ex => match runO P T n ops W is (aft L ex) with
              | none => none
              | some (L2, cs) => some (L2, ex.c ++ cs)
          | false => runO P T n ops W is (putX L (skipW o))

theorem guardX_spec {E : Env} {n : Nat} {ops : List Oper} {L : SL} {j d : Nat} {b : Option Bool} (hE : E.n = n) (h : guardX n ops L j = some (b, d)) :
    ∃ oj, ops[j]? = some oj ∧ oj.dst = some d ∧ d < E.n ∧ (∀ b', b = some b' → ∃ sh, ∀ ν, den ν L (tk d) = .lf (.im sh (.bool b'))) ∧ (b = none → ∀ ν, den ν L (tk d) = .tup []) := by
  unfold guardX at h
  split at h
  · cases h
  · rename_i oj hoj
    split at h
    · cases h
    · rename_i d' hd
      cases hb : Nat.blt d' n with
      | false => rw [hb] at h; cases h
      | true =>
        rw [hb] at h
        simp only [cond_true] at h
        split at h
        · rename_i sh b' hl
          cases h
          exact ⟨oj, hoj, hd, by rw [hE]; exact Nat.le_of_ble_eq_true hb, fun b1 e => by cases e; exact ⟨sh, fun ν => by simp only [den, hl, renS, renP, renL]⟩, fun e => by cases e⟩
        · rename_i hl
          cases h
          exact ⟨oj, hoj, hd, by rw [hE]; exact Nat.le_of_ble_eq_true hb, (fun b1 e => by cases e), fun _ ν => by simp only [den, hl, renS, List.map_nil]⟩
        · cases h

theorem wants_true {want : Bool} {b : Option Bool} (h : wants want b = true) : b = some want := by
  cases b with
  | none => cases h
  | some b => cases want <;> cases b <;> simp [wants] at h ⊢
theorem wants_false {want b : Bool} (h : wants want (some b) = false) : b = !want := by cases want <;> cases b <;> simp [wants] at h ⊢
theorem skips_of {want : Bool} {b : Option Bool} {L : SL} {d : Nat} (h1 : ∀ b', b = some b' → ∃ sh, ∀ ν, den ν L (tk d) = .lf (.im sh (.bool b'))) (h2 : b = none → ∀ ν, den ν L (tk d) = .tup []) (h : wants want b = false) (ν : Nm) :
    Skips want (den ν L (tk d)) := by
  cases b with
  | none => rw [h2 rfl ν]; exact trivial
  | some b => obtain ⟨sh, h3⟩ := h1 b rfl; rw [h3 ν]; exact wants_false h

theorem ops_skip0 {P : Program} {E : Env} {ops : Array Oper} {i j d : Nat} {l : List Nat} {σ : St} {R : St → Prop} {o oj : Oper} {want : Bool} (ho : ops[i]? = some o) (hg : o.guard = some (j, want))
    (hj : ops[j]? = some oj) (hd : oj.dst = some d) (hn : d < E.n) (hs : Skips want (σ (tk d))) (hde : o.dst = none)
    (h : OpsW P E ops l σ R) : OpsW P E ops (i :: l) σ R := by
  intro g w a Q hr hq
  simp only [wpOps, ho]
  rw [if_neg (by simp only [Region.wanted, hg, yielded_ne hr hj hd hn hs]; exact Bool.false_ne_true), hde]
  exact h g w a Q hr hq

theorem LOp.skip0 {P : Program} {E : Env} {ops : Array Oper} {i j d : Nat} {σ : St} {o oj : Oper} {want : Bool} (ho : ops[i]? = some o) (hg : o.guard = some (j, want))
    (hj : ops[j]? = some oj) (hd : oj.dst = some d) (hn : d < E.n) (hs : Skips want (σ (tk d))) (hde : o.dst = none) :
    LOp P E ops ⟨i, [tk d], []⟩ σ := by
  intro τ hτ g w a Q K hr hk
  simp only [wpOp, ho]
  have hs' : Skips want (τ (tk d)) := by rw [hτ _ (by simp)]; exact hs
  rw [if_neg (by simp only [Region.wanted, hg, yielded_ne hr hj hd hn hs']; exact Bool.false_ne_true), hde]
  exact hk g w a hr

theorem ops_ex {P : Program} {E : Env} {T : Tab} {n : Nat} {ops : Array Oper} {is : List Nat} {o : Oper} {L : SL} {w : Option Wit} {ex : Ex} {R : St → Prop} (hT : TabOK P T) (hE : E.n = n)
    (he : exec P T n o L w = some ex) (hc : AllP ex.c) (ν : Nm) (h : ∀ ν', OpsW P E ops is (den ν' (aft L ex)) R) : Step P E o (den ν L) (fun τ => OpsW P E ops is τ R) :=
  (exec_sound hT hE he hc ν (den ν L) (fun _ _ => rfl)).mono fun τ' ⟨v, hw⟩ => ops_turn (Turn.weaken (aft_weak hw)) fun τ e => by subst e; exact h _

theorem runO_sound {P : Program} {E : Env} {T : Tab} {n : Nat} {ops : Array Oper} {W : Wits} {R : St → Prop} (hT : TabOK P T) (hE : E.n = n) : ∀ (is : List Nat) (L L2 : SL) (cs : List Prop),
    runO P T n ops.toList W is L = some (L2, cs) → AllP cs → (∀ ν, R (den ν L2)) → ∀ ν, OpsW P E ops is (den ν L) R
  | [], L, L2, cs, h, _, hR, ν => by cases h; exact ops_nil (hR ν)
  | i :: is, L, L2, cs, h, hcs, hR, ν => by
    simp only [runO] at h
    split at h
    · cases h
    · rename_i o ho
      have ho' : ops[i]? = some o := by simpa using ho
      split at h
      · rename_i hg
        split at h
        · cases h
        · rename_i ex hex
          split at h
          · cases h
          · rename_i L3 cs3 hrun
            cases h
            obtain ⟨h1, h2⟩ := hcs.app
            exact ops_step ho' hg (ops_ex hT hE hex h1 ν fun ν' => runO_sound hT hE is _ _ _ hrun h2 hR ν') fun τ hτ => hτ
      · rename_i j want hg
        split at h
        · cases h
        · rename_i b d hgx
          obtain ⟨oj, hj, hd, hn, hs, hs0⟩ := guardX_spec (E := E) hE hgx
          have hj' : ops[j]? = some oj := by simpa using hj
          split at h
          · rename_i hw
            split at h
            · cases h
            · rename_i ex hex
              split at h
              · cases h
              · rename_i L3 cs3 hrun
                cases h
                obtain ⟨h1, h2⟩ := hcs.app
                obtain ⟨sh, hs⟩ := hs _ (wants_true hw)
                exact ops_guard ho' hg hj' hd hn (hs ν) rfl (ops_ex hT hE hex h1 ν fun ν' => runO_sound hT hE is _ _ _ hrun h2 hR ν') fun τ hτ => hτ
          · rename_i hw
            have ih := runO_sound (P := P) (E := E) (R := R) hT hE is _ _ _ h hcs hR ν
            rw [den_putX] at ih
            unfold skipW at ih
            cases hde : o.dst with
            | none => rw [hde] at ih; exact ops_skip0 ho' hg hj' hd hn (skips_of hs hs0 hw ν) hde ih
            | some e => rw [hde] at ih; exact ops_skip ho' hg hj' hd hn (skips_of hs hs0 hw ν) e hde ih

/-- A region that draws its order. -/
def runD (P : Program) (T : Tab) (n : Nat) (ops : List Oper) (W : Wits) : List Nat → SL → Option (SL × List Prop × List It)
  | [], L => some (L, [], [])
  | i :: is, L => match ops[i]? with
    | none => none
    | some o => match o.guard with
      | none => match exec P T n o L (W.at i) with
        | some ⟨R, ws, none, c⟩ => match runD P T n ops W is (putX L ws) with
          | none => none
          | some (L2, cs, its) => some (L2, c ++ cs, ⟨i, R, ws⟩ :: its)
        | _ => none
      | some (j, want) => match guardX n ops L j with
        | none => none
        | some (b, d) => match wants want b with
          | true => match exec P T n o L (W.at i) with
            | some ⟨R, ws, none, c⟩ => match runD P T n ops W is (putX L ws) with
              | none => none
              | some (L2, cs, its) => some (L2, c ++ cs, ⟨i, tk d :: R, ws⟩ :: its)
            | _ => none
          | false => match runD P T n ops W is (putX L (skipW o)) with
            | none => none
            | some (L2, cs, its) => some (L2, cs, ⟨i, [tk d], skipW o⟩ :: its)

def It.ren (ν : Nm) (t : It) : It := ⟨t.i, t.R, renW ν t.ws⟩

theorem exec_local {P : Program} {E : Env} {T : Tab} {n : Nat} {o : Oper} {L : SL} {w : Option Wit} {R : List Nat} {ws : SL} {c : List Prop} (hT : TabOK P T) (hE : E.n = n)
    (he : exec P T n o L w = some ⟨R, ws, none, c⟩) (hc : AllP c) (ν : Nm) (τ : St) (hτ : ∀ k ∈ R, τ k = den ν L k) : Step P E o τ (· = updL τ (renW ν ws)) :=
  (exec_sound hT hE he hc ν τ hτ).weak fun τ' ⟨v, hw⟩ => ⟨_, rfl, hw⟩

theorem runD_sound {P : Program} {E : Env} {T : Tab} {n : Nat} {ops : Array Oper} {W : Wits} (hT : TabOK P T) (hE : E.n = n) : ∀ (is : List Nat) (L L2 : SL) (cs : List Prop) (its : List It),
    runD P T n ops.toList W is L = some (L2, cs, its) → AllP cs → ∀ ν, Good P E ops (den ν L) (its.map (It.ren ν)) ∧ goAll (den ν L) (its.map (It.ren ν)) = den ν L2 ∧ its.map (·.i) = is
  | [], L, L2, cs, its, h, _, ν => by cases h; exact ⟨trivial, rfl, rfl⟩
  | i :: is, L, L2, cs, its, h, hcs, ν => by
    simp only [runD] at h
    split at h
    · cases h
    · rename_i o ho
      have ho' : ops[i]? = some o := by simpa using ho
      split at h
      · rename_i hg
        split at h
        · rename_i R ws c hex
          split at h
          · cases h
          · rename_i L3 cs3 its3 hrun
            cases h
            obtain ⟨h1, h2⟩ := hcs.app
            obtain ⟨k1, k2, k3⟩ := runD_sound (P := P) (E := E) hT hE is _ _ _ _ hrun h2 ν
            rw [den_putX] at k1 k2
            exact ⟨⟨LOp.step ho' hg fun τ hτ => exec_local hT hE hex h1 ν τ hτ, k1⟩, k2, by simp [k3]⟩
        · cases h
      · rename_i j want hg
        split at h
        · cases h
        · rename_i b d hgx
          obtain ⟨oj, hj, hd, hn, hs, hs0⟩ := guardX_spec (E := E) hE hgx
          have hj' : ops[j]? = some oj := by simpa using hj
          split at h
          · rename_i hw
            split at h
            · rename_i R ws c hex
              split at h
              · cases h
              · rename_i L3 cs3 its3 hrun
                cases h
                obtain ⟨h1, h2⟩ := hcs.app
                obtain ⟨k1, k2, k3⟩ := runD_sound (P := P) (E := E) hT hE is _ _ _ _ hrun h2 ν
                rw [den_putX] at k1 k2
                obtain ⟨sh, hs⟩ := hs _ (wants_true hw)
                exact ⟨⟨LOp.guard ho' hg hj' hd hn (hs ν) rfl (by simp) fun τ hτ => exec_local hT hE hex h1 ν τ (fun k hk => hτ k (by simp [hk])), k1⟩, k2, by simp [k3]⟩
            · cases h
          · rename_i hw
            split at h
            · cases h
            · rename_i L3 cs3 its3 hrun
              cases h
              obtain ⟨k1, k2, k3⟩ := runD_sound (P := P) (E := E) hT hE is _ _ _ _ hrun hcs ν
              rw [den_putX] at k1 k2
              refine ⟨⟨?_, k1⟩, k2, by simp [k3]⟩
              unfold It.ren skipW
              cases hde : o.dst with
              | none => exact LOp.skip0 ho' hg hj' hd hn (skips_of hs hs0 hw ν) hde
              | some e => exact LOp.skip ho' hg hj' hd hn (skips_of hs hs0 hw ν) hde

theorem It.keys_ren (ν : Nm) (t : It) : (t.ren ν).keys = t.keys := by simp [It.keys, It.ren, renW, List.map_map]

theorem It.indep_ren (ν : Nm) (x y : It) : (x.ren ν).indep (y.ren ν) = x.indep y := by
  unfold It.indep
  rw [It.keys_ren, It.keys_ren]
  rfl

theorem orderOK_ren (ν : Nm) (ops : Array Oper) : ∀ (its : List It), orderOK ops (its.map (It.ren ν)) = orderOK ops its
  | [] => rfl
  | x :: ts => by
    simp only [List.map_cons, orderOK, List.all_map, orderOK_ren ν ops ts]
    congr 1
    congr 1
    funext y
    simp only [Function.comp_apply, It.indep_ren]
    rfl

def runR (P : Program) (T : Tab) (n : Nat) (ops : Array Oper) (dr : Bool) (W : Wits) (L : SL) (keys : List Nat) : Option (SL × List Prop) :=
  match dr with
  | false => match runO P T n ops.toList W (List.range ops.size) L with
    | some (L2, cs) => some (keys.map fun k => (k, look L2 k), cs)
    | none => none
  | true => match runD P T n ops.toList W (List.range ops.size) L with
    | some (L2, cs, its) => bif orderOK ops its && edgesBack ops then some (keys.map fun k => (k, look L2 k), cs) else none
    | none => none

theorem keep_weak (ν : Nm) (L : SL) : ∀ (keys : List Nat), Weak (den ν L) (den ν (keys.map fun k => (k, look L k)))
  | [], k => .inr rfl
  | k0 :: keys, k => by
    have ih := keep_weak ν L keys k
    simp only [den, List.map_cons, look_cons] at ih ⊢
    by_cases e : k = k0
    · subst e; left; simp
    · rw [if_neg e]; exact ih

/-- Code at a state that is written as a list. -/
structure XW (P : Program) (E : Env) (c : Code) (L : SL) (R : Exit → SL → Prop) : Prop where
  run : ∀ ν, VW P E c (den ν L) fun e τ => ∃ ν' L', R e L' ∧ Weak τ (den ν' L')

/-- What is known all through a body. -/
structure Cx (P : Program) (T : Tab) (n : Nat) (E : Env) : Prop where
  tab : TabOK P T
  n : E.n = n
  mixed : P.follows .mixedOrders = true

theorem xw_region {P : Program} {T : Tab} {n : Nat} {E : Env} {id : Nat} {ops : Array Oper} {dr : Bool} {L L' : SL} {W : Wits} {cs : List Prop} {R : Exit → SL → Prop} (c : Cx P T n E)
    (hcs : AllP cs) (h : runR P T n ops dr W L (L'.map Prod.fst) = some (L', cs)) (hR : R .normal L') : XW P E (.region id ops dr) L R := by
  constructor
  intro ν
  unfold runR at h
  split at h
  · split at h
    · rename_i L2 cs2 hrun
      simp only [Option.some.injEq, Prod.mk.injEq] at h
      obtain ⟨h1, rfl⟩ := h
      refine vw_region (runO_sound c.tab c.n _ L L2 cs2 hrun hcs (fun ν' => ?_) ν)
      refine ⟨ν', L', hR, ?_⟩
      have := keep_weak ν' L2 (L'.map Prod.fst)
      rwa [h1] at this
    · cases h
  · split at h
    · rename_i L2 cs2 its hrun
      cases hb : orderOK ops its && edgesBack ops with
      | false => rw [hb] at h; cases h
      | true =>
        rw [hb] at h
        simp only [cond_true, Option.some.injEq, Prod.mk.injEq] at h
        obtain ⟨h1, rfl⟩ := h
        rw [Bool.and_eq_true] at hb
        obtain ⟨k1, k2, k3⟩ := runD_sound (P := P) (E := E) c.tab c.n _ _ _ _ _ hrun hcs ν
        refine vw_region_draw c.mixed (its.map (It.ren ν)) ?_ k1 (by rw [orderOK_ren]; exact hb.1) hb.2 ⟨ν, L', hR, ?_⟩
        · rw [← k3, List.map_map]; rfl
        · rw [k2]
          have := keep_weak ν L2 (L'.map Prod.fst)
          rwa [h1] at this
    · cases h

def seqX (next : SL → Prop) (R : Exit → SL → Prop) : Exit → SL → Prop
  | .normal, L => next L
  | e, L => R e L

theorem xw_seq {P : Program} {E : Env} {x y : Code} {L : SL} {R : Exit → SL → Prop} (h : XW P E x L (seqX (fun L' => XW P E y L' R) R)) : XW P E (.seq x y) L R := by
  constructor
  intro ν
  refine vw_seq ((h.run ν).mono fun e τ hh => ?_)
  obtain ⟨ν', L', h1, h2⟩ := hh
  cases e with
  | normal => exact vw_turn (Turn.weaken h2) fun τ' e0 => by subst e0; exact XW.run h1 ν'
  | _ => exact ⟨ν', L', h1, h2⟩

/-- A region, and what follows. -/
theorem vx {P : Program} {T : Tab} {n : Nat} {E : Env} {id : Nat} {ops : Array Oper} {dr : Bool} {L : SL} {y : Code} {cs : List Prop} {R : Exit → SL → Prop} (c : Cx P T n E) (L' : SL) (W : Wits)
    (hcs : AllP cs) (h : runR P T n ops dr W L (L'.map Prod.fst) = some (L', cs)) (hy : XW P E y L' R) : XW P E (.seq (.region id ops dr) y) L R := xw_seq (xw_region c hcs h hy)

theorem vxe {P : Program} {T : Tab} {n : Nat} {E : Env} {id : Nat} {ops : Array Oper} {dr : Bool} {L : SL} {cs : List Prop} {R : Exit → SL → Prop} (c : Cx P T n E) (L' : SL) (W : Wits)
    (hcs : AllP cs) (h : runR P T n ops dr W L (L'.map Prod.fst) = some (L', cs)) (hR : R .normal L') : XW P E (.region id ops dr) L R := xw_region c hcs h hR

theorem xw_skip {P : Program} {E : Env} {L : SL} {R : Exit → SL → Prop} (h : R .normal L) : XW P E .skip L R := ⟨fun ν => vw_skip ⟨ν, L, h, Weak.refl _⟩⟩
theorem xw_ret {P : Program} {E : Env} {L : SL} {R : Exit → SL → Prop} (h : R .ret L) : XW P E .ret L R := ⟨fun ν => vw_ret ⟨ν, L, h, Weak.refl _⟩⟩
theorem xw_exit {P : Program} {E : Env} {L : SL} {R : Exit → SL → Prop} {id : Nat} (h : R (.exit id) L) : XW P E (.exit id) L R := ⟨fun ν => vw_exit ⟨ν, L, h, Weak.refl _⟩⟩

theorem xw_cond {P : Program} {E : Env} {c : Operand} {x y : Code} {L : SL} {R : Exit → SL → Prop} {sh : Bool} (b : Bool) (hc : ox L c = .one (.lf (.im sh (.bool b))))
    (ht : b = true → XW P E x L R) (hf : b = false → XW P E y L R) : XW P E (.cond c x y) L R := ⟨fun ν =>
  vw_cond (b := b) (sh := sh) (im_den (R := ok c) (ν := ν) (L := L) (fun _ _ => rfl) (fun _ h => h) hc) (fun e => (ht e).run ν) (fun e => (hf e).run ν)⟩

def blockX (id : Nat) (R : Exit → SL → Prop) : Exit → SL → Prop
  | .exit i, L => match Nat.beq i id with
    | true => R .normal L
    | false => R (.exit i) L
  | e, L => R e L

theorem xw_block {P : Program} {E : Env} {id : Nat} {c : Code} {L : SL} {R : Exit → SL → Prop} (h : XW P E c L (blockX id R)) : XW P E (.block id c) L R := by
  constructor
  intro ν
  refine vw_block ((h.run ν).mono fun e τ hh => ?_)
  obtain ⟨ν', L', h1, h2⟩ := hh
  cases e with
  | exit i =>
    simp only [blockX] at h1
    simp only [blockR]
    cases hb : Nat.beq i id with
    | true => rw [hb] at h1; rw [if_pos (Nat.eq_of_beq_eq_true hb)]; exact ⟨ν', L', h1, h2⟩
    | false => rw [hb] at h1; rw [if_neg (Nat.ne_of_beq_eq_false hb)]; exact ⟨ν', L', h1, h2⟩
  | _ => exact ⟨ν', L', h1, h2⟩

theorem xw_loop {P : Program} {E : Env} {c : Code} {L : SL} {R : Exit → SL → Prop} (I : Nat → SL → Prop) (n : Nat) (h0 : I n L)
    (round : ∀ n L, I n L → XW P E c L (seqX (fun L' => ∃ m, m < n ∧ I m L') R)) : XW P E (.loop c) L R := by
  constructor
  intro ν
  refine vw_loop (fun n τ => ∃ ν' L', I n L' ∧ Weak τ (den ν' L')) n ⟨ν, L, h0, Weak.refl _⟩ fun n τ hh => ?_
  obtain ⟨ν', L', h1, h2⟩ := hh
  refine vw_turn (Turn.weaken h2) fun τ' e0 => ?_
  subst e0
  refine ((round n L' h1).run ν').mono fun e τ hh => ?_
  obtain ⟨ν2, L2, h3, h4⟩ := hh
  cases e with
  | normal => obtain ⟨m, hm, hi⟩ := h3; exact ⟨m, hm, ν2, L2, hi, h4⟩
  | _ => exact ⟨ν2, L2, h3, h4⟩

theorem XW.mono {P : Program} {E : Env} {c : Code} {L : SL} {R R' : Exit → SL → Prop} (h : XW P E c L R) (hR : ∀ e L', R e L' → R' e L') : XW P E c L R' := ⟨fun ν =>
  (h.run ν).mono fun e τ ⟨ν', L', h1, h2⟩ => ⟨ν', L', hR e L' h1, h2⟩⟩

/-- The variable of a temporary becomes shared data. -/
def frz (t : Nat) (L : SL) : SL := match look L (tk t) with
  | .one (.lf (.u b _ e sz rows)) => (tk t, .lf (.im true (.sl sz rows))) :: clean (some b) L
  | _ => L

theorem xw_frz {P : Program} {E : Env} {c : Code} {L : SL} {R : Exit → SL → Prop} (t : Nat) (L' : SL) (h : frz t L = L') (hc : XW P E c L' R) : XW P E c L R := by
  subst h
  constructor
  intro ν
  unfold frz at hc
  split at hc
  · rename_i b cc e sz rows hl
    have hk : den ν L (tk t) = renS ν (.one (.lf (.u b cc e sz rows))) := by simp only [den, hl]
    simp only [renS, renP, renL] at hk
    refine vw_turn (M := (· = den ν ((tk t, Slot.lf (.im true (.sl sz rows))) :: clean (some b) L))) ?_ fun τ e0 => by subst e0; exact hc.run ν
    have hw : Weak (upd (den ν L) (tk t) (.lf (.im true (.sl sz rows)))) (den ν ((tk t, Slot.lf (.im true (.sl sz rows))) :: clean (some b) L)) := by
      rw [den_cons]
      refine upd_weak ?_ _ _
      intro k
      simp only [den, look_clean]
      split
      · exact .inr rfl
      · exact .inl rfl
    have key : Turn E (den ν L) (· = upd (den ν L) (tk t) (.lf (.im true (.sl sz rows)))) := by
      cases hν : ν b with
      | some q => rw [hν] at hk; exact turn_freeze t q.1 q.2 e sz rows hk
      | none =>
        rw [hν] at hk
        cases rows with
        | nil => exact turn_nil t sz hk
        | cons r rs => exact fun g w a hr => (bad_tmp hr hk).elim
    exact fun g w a hr => let ⟨g', τ, e0, hr'⟩ := key g w a hr; ⟨g', _, rfl, (e0 ▸ hr').weaken hw⟩
  · exact hc.run ν

/-- Names are changed, one to one. -/
def mapN (f : Nat → Nat) : Leaf → Leaf
  | .u b c e sz rows => .u (f b) c e sz rows
  | .hd b n c => .hd (f b) n c
  | .ptr b off => .ptr (f b) off
  | l => l
def Slot.mapN (f : Nat → Nat) : Slot → Slot
  | .one (.lf l) => .one (.lf (V.mapN f l))
  | .one (.agg ls) => .one (.agg (ls.map (V.mapN f)))
  | .tup ps => .tup (ps.map fun | .lf l => .lf (V.mapN f l) | .agg ls => .agg (ls.map (V.mapN f)))
  | .cell b ls => .cell (f b) (ls.map (V.mapN f))

theorem renL_mapN {ν : Nm} {f g : Nat → Nat} (hg : ∀ b, g (f b) = b) (l : Leaf) : renL (fun b => ν (g b)) (mapN f l) = renL ν l := by
  cases l <;> simp only [mapN, renL, hg]

theorem renS_mapN {ν : Nm} {f g : Nat → Nat} (hg : ∀ b, g (f b) = b) (s : Slot) : renS (fun b => ν (g b)) (s.mapN f) = renS ν s := by
  have hm : ∀ ls : List Leaf, (ls.map (mapN f)).map (renL fun b => ν (g b)) = ls.map (renL ν) := fun ls => by
    rw [List.map_map]; exact List.map_congr_left fun l _ => renL_mapN hg l
  match s with
  | .one (.lf l) => simp only [Slot.mapN, renS, renP, renL_mapN hg]
  | .one (.agg ls) => simp only [Slot.mapN, renS, renP, hm]
  | .tup ps =>
    simp only [Slot.mapN, renS, List.map_map]
    congr 1
    refine List.map_congr_left fun p _ => ?_
    cases p <;> simp only [Function.comp_apply, renP, renL_mapN hg, hm]
  | .cell b ls => simp only [Slot.mapN, renS, hm, hg]

theorem look_map (f : Slot → Slot) (hf : f Slot.hole = Slot.hole) : ∀ (L : SL) (k : Nat), look (L.map fun p => (p.1, f p.2)) k = f (look L k)
  | [], k => hf.symm
  | (k0, s) :: r, k => by
    simp only [List.map_cons, look_cons]
    split
    · rfl
    · exact look_map f hf r k

/-- One name is given for another that is free: the two change places. -/
def swapN (a b : Nat) (x : Nat) : Nat := bif Nat.beq x a then b else bif Nat.beq x b then a else x
theorem swapN_swapN (a b x : Nat) : swapN a b (swapN a b x) = x := by
  have h : ∀ y, swapN a b y = if y = a then b else if y = b then a else y := fun y => by
    unfold swapN
    cases h1 : Nat.beq y a with
    | true => rw [if_pos (Nat.eq_of_beq_eq_true h1)]; rfl
    | false =>
      rw [if_neg (Nat.ne_of_beq_eq_false h1)]
      cases h2 : Nat.beq y b with
      | true => rw [if_pos (Nat.eq_of_beq_eq_true h2)]; rfl
      | false => rw [if_neg (Nat.ne_of_beq_eq_false h2)]; rfl
  rw [h x]
  by_cases h1 : x = a
  · rw [if_pos h1, h]
    by_cases h2 : b = a
    · rw [if_pos h2, h2, h1]
    · rw [if_neg h2, if_pos rfl, h1]
  · rw [if_neg h1]
    by_cases h2 : x = b
    · rw [if_pos h2, h, if_pos rfl, h2]
    · rw [if_neg h2, h, if_neg h1, if_neg h2]

def swapL (a b : Nat) (L : SL) : SL := L.map fun p => (p.1, p.2.mapN (swapN a b))

theorem xw_swap {P : Program} {E : Env} {c : Code} {L : SL} {R : Exit → SL → Prop} (a b : Nat) (L' : SL) (h : swapL a b L = L') (hc : XW P E c L' R) : XW P E c L R := by
  subst h
  constructor
  intro ν
  have e : den (fun x => ν (swapN a b x)) (swapL a b L) = den ν L := by
    funext k
    simp only [den, swapL]
    rw [look_map (Slot.mapN (swapN a b)) rfl]
    exact renS_mapN (swapN_swapN a b) _
  rw [← e]
  exact hc.run _
end Go.Proofs.Ytahciphhopiipaa.V
