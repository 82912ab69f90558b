/- Regions, run on states written as lists. -/
import Derived.Test.YtahciphhopiipaaGreatDoorX5
set_option linter.unusedVariables false
set_option linter.unusedSimpArgs false
namespace Go.Proofs.YtahciphhopiipaaGreatDoor.V
open Go Go.RowKit

def clean : Option Nat → SL → SL
  | none, L => L
  | some b, L => L.map fun p => bif p.2.has b then (p.1, Slot.hole) else p
def putX : SL → SL → SL
  | L, [] => L
  | L, p :: ws => putX (p :: L) ws
def aft (L : SL) (ex : Ex) : SL := putX (clean ex.nm L) ex.ws

theorem look_clean (b : Nat) : ∀ (L : SL) (k : Nat), look (clean (some b) L) k = if (look L k).has b = true then Slot.hole else look L k
  | [], k => by simp [clean, look, Slot.has, Part.has, Leaf.has]
  | (k0, s) :: r, k => by
    have ih := look_clean b r k
    simp only [clean, List.map_cons] at ih ⊢
    cases hb : s.has b with
    | true =>
      simp only [cond_true]
      rw [look_cons, look_cons]
      by_cases e : k = k0
      · simp [e, hb]
      · simp only [if_neg e]; exact ih
    | false =>
      simp only [cond_false]
      rw [look_cons, look_cons]
      by_cases e : k = k0
      · simp [e, hb]
      · simp only [if_neg e]; exact ih

theorem clean_weak (ν : Nm) (nm : Option Nat) (v : Option (Nat × Nat)) (L : SL) : Weak (den ν L) (den (setN ν nm v) (clean nm L)) := by
  cases nm with
  | none => exact Weak.refl _
  | some b =>
    intro k
    simp only [den]
    rw [look_clean]
    by_cases h : (look L k).has b = true
    · right; rw [if_pos h]; rfl
    · left; rw [if_neg h]; exact renS_set (by simpa using h)

theorem upd_weak {τ τ2 : St} (h : Weak τ τ2) (k : Nat) (s : Slot) : Weak (upd τ k s) (upd τ2 k s) := fun k' => by
  unfold upd
  split
  · exact .inl rfl
  · exact h k'

theorem updL_weak : ∀ (ws : SL) {τ τ2 : St}, Weak τ τ2 → Weak (updL τ ws) (updL τ2 ws)
  | [], _, _, h => h
  | (k, s) :: ws, _, _, h => updL_weak ws (upd_weak h k s)

theorem den_cons (ν : Nm) (k : Nat) (s : Slot) (L : SL) : den ν ((k, s) :: L) = upd (den ν L) k (renS ν s) := by
  funext k'
  simp only [den, look_cons, upd]
  split <;> rfl

theorem den_putX (ν : Nm) : ∀ (ws L : SL), den ν (putX L ws) = updL (den ν L) (renW ν ws)
  | [], L => rfl
  | (k, s) :: ws, L => by
    simp only [putX, renW, List.map_cons, updL]
    rw [den_putX ν ws, den_cons]
    rfl

theorem aft_weak {ν : Nm} {L : SL} {ex : Ex} {v : Option (Nat × Nat)} {τ : St} (h : Weak τ (updL (den ν L) (renW (setN ν ex.nm v) ex.ws))) : Weak τ (den (setN ν ex.nm v) (aft L ex)) := by
  unfold aft
  rw [den_putX]
  exact h.trans (updL_weak _ (clean_weak ν ex.nm v L))

abbrev Wits := List (Nat × Wit)
def Wits.at : Wits → Nat → Option Wit
  | [], _ => none
  | (k, w) :: r, i => bif Nat.beq i k then some w else Wits.at r i

def guardX (n : Nat) (ops : List Oper) (L : SL) (j : Nat) : Option (Option Bool × Nat) :=
  match ops[j]? with
  | none => none
  | some oj => match oj.dst with
    | none => none
    | some d => bif Nat.blt d n then (match look L (tk d) with
      | .one (.lf (.im _ (.bool b))) => some (some b, d)
      | .tup [] => some (none, d)
      | _ => none) else none

def skipW (o : Oper) : SL := match o.dst with
  | some e => [(tk e, Slot.tup [])]
  | none => []

def wants (want : Bool) : Option Bool → Bool
  | some b => match want with
    | true => b
    | false => !b
  | none => false

def runO (P : Program) (T : Tab) (n : Nat) (ops : List Oper) (W : Wits) : List Nat → SL → Option (SL × List Prop)
  | [], L => some (L, [])
  | i :: is, L => match ops[i]? with
    | none => none
    | some o => match o.guard with
      | none => match exec P T n o L (W.at i) with
        | none => none
        | some ex => match runO P T n ops W is (aft L ex) with
          | none => none
          | some (L2, cs) => some (L2, ex.c ++ cs)
      | some (j, want) => match guardX n ops L j with
        | none => none
        | some (b, d) => match wants want b with
          | true => match exec P T n o L (W.at i) with
            | none => none
            | some ex => match runO P T n ops W is (aft L ex) with
              | none => none
              | some (L2, cs) => some (L2, ex.c ++ cs)
          | false => runO P T n ops W is (putX L (skipW o))

theorem guardX_spec {E : Env} {n : Nat} {ops : List Oper} {L : SL} {j d : Nat} {b : Option Bool} (hE : E.n = n) (h : guardX n ops L j = some (b, d)) :
    ∃ oj, ops[j]? = some oj ∧ oj.dst = some d ∧ d < E.n ∧ (∀ b', b = some b' → ∃ sh, ∀ ν, den ν L (tk d) = .lf (.im sh (.bool b'))) ∧ (b = none → ∀ ν, den ν L (tk d) = .tup []) := by
  unfold guardX at h
  split at h
  · cases h
  · rename_i oj hoj
    split at h
    · cases h
    · rename_i d' hd
      cases hb : Nat.blt d' n with
      | false => rw [hb] at h; cases h
      | true =>
        rw [hb] at h
        simp only [cond_true] at h
        split at h
        · rename_i sh b' hl
          cases h
          exact ⟨oj, hoj, hd, by rw [hE]; exact Nat.le_of_ble_eq_true hb, fun b1 e => by cases e; exact ⟨sh, fun ν => by simp only [den, hl, renS, renP, renL]⟩, fun e => by cases e⟩
        · rename_i hl
          cases h
          exact ⟨oj, hoj, hd, by rw [hE]; exact Nat.le_of_ble_eq_true hb, (fun b1 e => by cases e), fun _ ν => by simp only [den, hl, renS, List.map_nil]⟩
        · cases h

theorem wants_true {want : Bool} {b : Option Bool} (h : wants want b = true) : b = some want := by
  cases b with
  | none => cases h
  | some b => cases want <;> cases b <;> simp [wants] at h ⊢
theorem wants_false {want b : Bool} (h : wants want (some b) = false) : b = !want := by cases want <;> cases b <;> simp [wants] at h ⊢
theorem skips_of {want : Bool} {b : Option Bool} {L : SL} {d : Nat} (h1 : ∀ b', b = some b' → ∃ sh, ∀ ν, den ν L (tk d) = .lf (.im sh (.bool b'))) (h2 : b = none → ∀ ν, den ν L (tk d) = .tup []) (h : wants want b = false) (ν : Nm) :
    Skips want (den ν L (tk d)) := by
  cases b with
  | none => rw [h2 rfl ν]; exact trivial
  | some b => obtain ⟨sh, h3⟩ := h1 b rfl; rw [h3 ν]; exact wants_false h

theorem ops_skip0 {P : Program} {E : Env} {ops : Array Oper} {i j d : Nat} {l : List Nat} {σ : St} {R : St → Prop} {o oj : Oper} {want : Bool} (ho : ops[i]? = some o) (hg : o.guard = some (j, want))
    (hj : ops[j]? = some oj) (hd : oj.dst = some d) (hn : d < E.n) (hs : Skips want (σ (tk d))) (hde : o.dst = none)
    (h : OpsW P E ops l σ R) : OpsW P E ops (i :: l) σ R := by
  intro g w a Q hr hq
  simp only [wpOps, ho]
  rw [if_neg (by simp only [Region.wanted, hg, yielded_ne hr hj hd hn hs]; exact Bool.false_ne_true), hde]
  exact h g w a Q hr hq

theorem LOp.skip0 {P : Program} {E : Env} {ops : Array Oper} {i j d : Nat} {σ : St} {o oj : Oper} {want : Bool} (ho : ops[i]? = some o) (hg : o.guard = some (j, want))
    (hj : ops[j]? = some oj) (hd : oj.dst = some d) (hn : d < E.n) (hs : Skips want (σ (tk d))) (hde : o.dst = none) :
    LOp P E ops ⟨i, [tk d], []⟩ σ := by
  intro τ hτ g w a Q K hr hk
  simp only [wpOp, ho]
  have hs' : Skips want (τ (tk d)) := by rw [hτ _ (by simp)]; exact hs
  rw [if_neg (by simp only [Region.wanted, hg, yielded_ne hr hj hd hn hs']; exact Bool.false_ne_true), hde]
  exact hk g w a hr

theorem ops_ex {P : Program} {E : Env} {T : Tab} {n : Nat} {ops : Array Oper} {is : List Nat} {o : Oper} {L : SL} {w : Option Wit} {ex : Ex} {R : St → Prop} (hT : TabOK P T) (hE : E.n = n)
    (he : exec P T n o L w = some ex) (hc : AllP ex.c) (ν : Nm) (h : ∀ ν', OpsW P E ops is (den ν' (aft L ex)) R) : Step P E o (den ν L) (fun τ => OpsW P E ops is τ R) :=
  (exec_sound hT hE he hc ν (den ν L) (fun _ _ => rfl)).mono fun τ' ⟨v, hw⟩ => ops_turn (Turn.weaken (aft_weak hw)) fun τ e => by subst e; exact h _

theorem runO_sound {P : Program} {E : Env} {T : Tab} {n : Nat} {ops : Array Oper} {W : Wits} {R : St → Prop} (hT : TabOK P T) (hE : E.n = n) : ∀ (is : List Nat) (L L2 : SL) (cs : List Prop),
    runO P T n ops.toList W is L = some (L2, cs) → AllP cs → (∀ ν, R (den ν L2)) → ∀ ν, OpsW P E ops is (den ν L) R
  | [], L, L2, cs, h, _, hR, ν => by cases h; exact ops_nil (hR ν)
  | i :: is, L, L2, cs, h, hcs, hR, ν => by
    simp only [runO] at h
    split at h
    · cases h
    · rename_i o ho
      have ho' : ops[i]? = some o := by simpa using ho
      split at h
      · rename_i hg
        split at h
        · cases h
        · rename_i ex hex
          split at h
          · cases h
          · rename_i L3 cs3 hrun
            cases h
            obtain ⟨h1, h2⟩ := hcs.app
            exact ops_step ho' hg (ops_ex hT hE hex h1 ν fun ν' => runO_sound hT hE is _ _ _ hrun h2 hR ν') fun τ hτ => hτ
      · rename_i j want hg
        split at h
        · cases h
        · rename_i b d hgx
          obtain ⟨oj, hj, hd, hn, hs, hs0⟩ := guardX_spec (E := E) hE hgx
          have hj' : ops[j]? = some oj := by simpa using hj
          split at h
          · rename_i hw
            split at h
            · cases h
            · rename_i ex hex
              split at h
              · cases h
              · rename_i L3 cs3 hrun
                cases h
                obtain ⟨h1, h2⟩ := hcs.app
                obtain ⟨sh, hs⟩ := hs _ (wants_true hw)
                exact ops_guard ho' hg hj' hd hn (hs ν) rfl (ops_ex hT hE hex h1 ν fun ν' => runO_sound hT hE is _ _ _ hrun h2 hR ν') fun τ hτ => hτ
          · rename_i hw
            have ih := runO_sound (P := P) (E := E) (R := R) hT hE is _ _ _ h hcs hR ν
            rw [den_putX] at ih
            unfold skipW at ih
            cases hde : o.dst with
            | none => rw [hde] at ih; exact ops_skip0 ho' hg hj' hd hn (skips_of hs hs0 hw ν) hde ih
            | some e => rw [hde] at ih; exact ops_skip ho' hg hj' hd hn (skips_of hs hs0 hw ν) e hde ih

/-- An operation of a region that draws its order: what it reads (and what stands there), what it turns, the name that it gives. -/
structure ItS where
  i : Nat
  R : List Nat
  ws : SL
  nm : Option Nat
  rs : List Slot

def ItS.keys (t : ItS) : List Nat := t.ws.map (·.1)
def aftI (L : SL) (t : ItS) : SL := putX (clean t.nm L) t.ws
def Slot.noHole : Slot → Bool
  | .one (.lf .hole) => false
  | _ => true
def freeOf (nm : Option Nat) (t : ItS) : Bool := match nm with
  | none => true
  | some b => t.rs.all (fun s => !s.has b && s.noHole) && t.ws.all (fun p => !p.2.has b)
def ItS.indep (x y : ItS) : Bool := (x.keys.all (fun k => !y.R.contains k && !y.keys.contains k) && y.keys.all (fun k => !x.R.contains k)) && (freeOf x.nm y && freeOf y.nm x)

theorem ItS.indep_spec {x y : ItS} (h : x.indep y = true) : ((∀ k ∈ x.keys, k ∉ y.R) ∧ (∀ k ∈ x.keys, k ∉ y.keys) ∧ (∀ k ∈ y.keys, k ∉ x.R)) ∧ freeOf x.nm y = true ∧ freeOf y.nm x = true := by
  simp only [ItS.indep, Bool.and_eq_true, List.all_eq_true, Bool.not_eq_true', List.contains_eq_mem, decide_eq_false_iff_not] at h
  exact ⟨⟨fun k hk => (h.1.1 k hk).1, fun k hk => (h.1.1 k hk).2, h.1.2⟩, h.2.1, h.2.2⟩

/-- Wherever what it reads is as it is here, the operation turns its keys, and no other. -/
def LOpS (P : Program) (E : Env) (ops : Array Oper) (t : ItS) (L : SL) : Prop :=
  ∀ (ν : Nm) (τ : St), (∀ k ∈ t.R, τ k = den ν L k) → ∀ g w a (Q : Exit → Act → World → Prop) (K : Act → World → Prop), Rel E g w a τ →
    (∀ v g' w' a', Rel E g' w' a' (updL τ (renW (setN ν t.nm v) t.ws)) → K a' w') → wpOp P ops Q t.i K a w

theorem LOpS.of {P : Program} {E : Env} {ops : Array Oper} {i : Nat} {R : List Nat} {ws : SL} {rs : List Slot} {L : SL} (h : ∀ ν, LOp P E ops ⟨i, R, renW ν ws⟩ (den ν L)) : LOpS P E ops ⟨i, R, ws, none, rs⟩ L :=
  fun ν τ hτ g w a Q K hr hk => h ν τ hτ g w a Q K hr fun g' w' a' hr' => hk none g' w' a' hr'

theorem LOpS.exec {P : Program} {E : Env} {ops : Array Oper} {i : Nat} {o : Oper} {L : SL} {ex : Ex} {rs : List Slot} (ho : ops[i]? = some o) (hg : o.guard = none) (h : SoundOp P E o L ex) (hc : AllP ex.c) :
    LOpS P E ops ⟨i, ex.R, ex.ws, ex.nm, rs⟩ L := by
  intro ν τ hτ g w a Q K hr hk
  simp only [wpOp, ho]
  rw [if_pos (by simp [Region.wanted, hg])]
  exact .inl (h hc ν τ hτ g w a _ Q hr fun g' w' a' τ' ⟨v, hw⟩ hr' => hk v g' w' a' (hr'.weaken hw))

theorem LOpS.guard {P : Program} {E : Env} {ops : Array Oper} {i j d : Nat} {o oj : Oper} {L : SL} {ex : Ex} {rs : List Slot} {want sh : Bool} (ho : ops[i]? = some o) (hg : o.guard = some (j, want))
    (hj : ops[j]? = some oj) (hd : oj.dst = some d) (hn : d < E.n) (hs : ∀ ν, den ν L (tk d) = .lf (.im sh (.bool want))) (h : SoundOp P E o L ex) (hc : AllP ex.c) :
    LOpS P E ops ⟨i, tk d :: ex.R, ex.ws, ex.nm, rs⟩ L := by
  intro ν τ hτ g w a Q K hr hk
  simp only [wpOp, ho]
  have hs' : τ (tk d) = .lf (.im sh (.bool want)) := (hτ _ (by simp)).trans (hs ν)
  rw [if_pos (by simp [Region.wanted, hg, yielded_eq hr hj hd hn hs'])]
  exact .inl (h hc ν τ (fun k hk => hτ k (by simp [hk])) g w a _ Q hr fun g' w' a' τ' ⟨v, hw⟩ hr' => hk v g' w' a' (hr'.weaken hw))

def GoodS (P : Program) (E : Env) (ops : Array Oper) : SL → List ItS → Prop
  | _, [] => True
  | L, t :: ts => LOpS P E ops t L ∧ t.rs = t.R.map (look L) ∧ GoodS P E ops (aftI L t) ts
def finS : SL → List ItS → SL
  | L, [] => L
  | L, t :: ts => finS (aftI L t) ts

theorem look_putX (k : Nat) : ∀ (ws L L' : SL), look L k = look L' k → look (putX L ws) k = look (putX L' ws) k
  | [], L, L', h => h
  | (k0, s) :: ws, L, L', h => by
    simp only [putX]
    refine look_putX k ws _ _ ?_
    rw [look_cons, look_cons, h]
theorem look_putX_ne (k : Nat) : ∀ (ws L : SL), k ∉ ws.map (·.1) → look (putX L ws) k = look L k
  | [], L, h => rfl
  | (k0, s) :: ws, L, h => by
    simp only [List.map_cons, List.mem_cons, not_or] at h
    simp only [putX]
    rw [look_putX_ne k ws _ h.2, look_cons, if_neg h.1]
theorem look_putX_in (k : Nat) : ∀ (ws L L' : SL), k ∈ ws.map (·.1) → look (putX L ws) k = look (putX L' ws) k
  | [], L, L', h => by simp at h
  | (k0, s) :: ws, L, L', h => by
    simp only [putX]
    by_cases hk : k ∈ ws.map (·.1)
    · exact look_putX_in k ws _ _ hk
    · simp only [List.map_cons, List.mem_cons] at h
      have e : k = k0 := by rcases h with h | h; exact h; exact absurd h hk
      rw [look_putX_ne k ws _ hk, look_putX_ne k ws _ hk, look_cons, look_cons, if_pos e, if_pos e]
theorem look_putX_mem (k : Nat) : ∀ (ws L : SL), k ∈ ws.map (·.1) → ∃ p ∈ ws, look (putX L ws) k = p.2
  | [], L, h => by simp at h
  | (k0, s) :: ws, L, h => by
    simp only [putX]
    by_cases hk : k ∈ ws.map (·.1)
    · obtain ⟨p, hp, e⟩ := look_putX_mem k ws ((k0, s) :: L) hk
      exact ⟨p, by simp [hp], e⟩
    · simp only [List.map_cons, List.mem_cons] at h
      have e : k = k0 := by rcases h with h | h; exact h; exact absurd h hk
      exact ⟨(k0, s), by simp, by rw [look_putX_ne k ws _ hk, look_cons, if_pos e]⟩

/-- Cleared of a name. -/
def cl1 (nm : Option Nat) (s : Slot) : Slot := match nm with
  | none => s
  | some b => bif s.has b then Slot.hole else s
theorem look_clean1 (nm : Option Nat) (L : SL) (k : Nat) : look (clean nm L) k = cl1 nm (look L k) := by
  cases nm with
  | none => rfl
  | some b =>
    rw [look_clean]
    unfold cl1
    cases h : (look L k).has b <;> simp [h]
theorem cl1_hole (nm : Option Nat) : cl1 nm Slot.hole = Slot.hole := by
  cases nm with
  | none => rfl
  | some b => simp [cl1, Slot.has, Part.has, Leaf.has]
theorem cl1_comm (a b : Option Nat) (s : Slot) : cl1 a (cl1 b s) = cl1 b (cl1 a s) := by
  cases a with
  | none => rfl
  | some x => cases b with
    | none => rfl
    | some y =>
      simp only [cl1]
      have hh : ∀ b, Slot.has b Slot.hole = false := fun _ => rfl
      cases hx : s.has x <;> cases hy : s.has y <;> simp only [cond_true, cond_false, hx, hy, hh]
def Leq (L L' : SL) : Prop := ∀ k, look L k = look L' k
theorem Leq.aft {L L' : SL} (h : Leq L L') (t : ItS) : Leq (aftI L t) (aftI L' t) := fun k => by
  unfold aftI
  exact look_putX k _ _ _ (by rw [look_clean1, look_clean1, h k])
theorem Leq.den {L L' : SL} (h : Leq L L') (ν : Nm) : den ν L = den ν L' := by
  funext k; simp only [V.den, h k]
theorem LOpS.congr {P : Program} {E : Env} {ops : Array Oper} {t : ItS} {L L' : SL} (h : LOpS P E ops t L) (he : ∀ k ∈ t.R, look L' k = look L k) : LOpS P E ops t L' :=
  fun ν τ hτ => h ν τ fun k hk => by rw [hτ k hk]; simp only [den, he k hk]
theorem GoodS.congr {P : Program} {E : Env} {ops : Array Oper} : ∀ {its : List ItS} {L L' : SL}, GoodS P E ops L its → Leq L L' → GoodS P E ops L' its
  | [], L, L', _, _ => trivial
  | t :: ts, L, L', ⟨h1, h2, h3⟩, he => ⟨h1.congr fun k _ => (he k).symm, by rw [h2]; exact List.map_congr_left fun k _ => he k, h3.congr (he.aft t)⟩
theorem finS_congr : ∀ {its : List ItS} {L L' : SL}, Leq L L' → Leq (finS L its) (finS L' its)
  | [], L, L', he => he
  | t :: ts, L, L', he => finS_congr (its := ts) (he.aft t)

theorem aft_comm {x t : ItS} (L : SL) (h1 : ∀ k ∈ x.keys, k ∉ t.keys) (h2 : freeOf x.nm t = true) (h3 : freeOf t.nm x = true) : Leq (aftI (aftI L x) t) (aftI (aftI L t) x) := by
  have keep : ∀ {a c : ItS}, freeOf a.nm c = true → ∀ (M : SL) k, k ∈ c.keys → cl1 a.nm (look (putX M c.ws) k) = look (putX M c.ws) k := by
    intro a c hf M k hk
    obtain ⟨p, hp, e⟩ := look_putX_mem k c.ws M hk
    rw [e]
    unfold freeOf at hf
    cases hn : a.nm with
    | none => rfl
    | some b =>
      rw [hn] at hf
      simp only [Bool.and_eq_true, List.all_eq_true, Bool.not_eq_true'] at hf
      simp only [cl1, hf.2 p hp, cond_false]
  intro k
  by_cases hx : k ∈ x.keys
  · have ht := h1 k hx
    have e1 : look (aftI (aftI L x) t) k = cl1 t.nm (look (aftI L x) k) := by unfold aftI; rw [look_putX_ne k _ _ ht, look_clean1]
    rw [e1]
    unfold aftI
    rw [keep h3 _ k hx]
    exact look_putX_in k _ _ _ hx
  · have e2 : look (aftI (aftI L t) x) k = cl1 x.nm (look (aftI L t) k) := by unfold aftI; rw [look_putX_ne k _ _ hx, look_clean1]
    rw [e2]
    by_cases ht : k ∈ t.keys
    · unfold aftI
      rw [keep h2 _ k ht]
      exact look_putX_in k _ _ _ ht
    · unfold aftI
      rw [look_putX_ne k _ _ ht, look_putX_ne k _ _ ht, look_clean1, look_clean1, look_putX_ne k _ _ hx, look_clean1, cl1_comm]

/-- An operation that is apart from all ahead of it may be first. -/
theorem GoodS.front {P : Program} {E : Env} {ops : Array Oper} {t : ItS} {post : List ItS} : ∀ {pre : List ItS} {L : SL}, GoodS P E ops L (pre ++ t :: post) → (∀ x ∈ pre, x.indep t = true) →
    LOpS P E ops t L ∧ t.rs = t.R.map (look L) ∧ GoodS P E ops (aftI L t) (pre ++ post) ∧ Leq (finS L (pre ++ t :: post)) (finS (aftI L t) (pre ++ post))
  | [], L, h, _ => ⟨h.1, h.2.1, h.2.2, fun k => rfl⟩
  | x :: pre, L, h, hi => by
    obtain ⟨h1, h2, h3⟩ := h
    obtain ⟨k1, k2, k3, k4⟩ := GoodS.front h3 (fun y hy => hi y (by simp [hy]))
    obtain ⟨⟨i1, i2, i3⟩, f1, f2⟩ := ItS.indep_spec (hi x (by simp))
    have e1 : ∀ k ∈ t.R, look L k = look (aftI L x) k := by
      intro k hk
      have hm : look (aftI L x) k ∈ t.rs := by rw [k2]; exact List.mem_map_of_mem hk
      have hx : k ∉ x.keys := fun hx => i1 k hx hk
      have e : look (aftI L x) k = cl1 x.nm (look L k) := by unfold aftI; rw [look_putX_ne k _ _ hx, look_clean1]
      rw [e] at hm ⊢
      unfold freeOf at f1
      cases hn : x.nm with
      | none => rfl
      | some b =>
        rw [hn] at f1 hm
        simp only [Bool.and_eq_true, List.all_eq_true, Bool.not_eq_true'] at f1
        have hh := (f1.1 _ hm).2
        cases hb : (look L k).has b with
        | false => simp only [cl1, hb, cond_false]
        | true => simp [cl1, hb, Slot.noHole] at hh
    have e2 : ∀ k ∈ x.R, look (aftI L t) k = look L k := by
      intro k hk
      have hm : look L k ∈ x.rs := by rw [h2]; exact List.mem_map_of_mem hk
      have ht : k ∉ t.keys := fun ht => i3 k ht hk
      unfold aftI
      rw [look_putX_ne k _ _ ht, look_clean1]
      unfold freeOf at f2
      cases hn : t.nm with
      | none => rfl
      | some b =>
        rw [hn] at f2
        simp only [Bool.and_eq_true, List.all_eq_true, Bool.not_eq_true'] at f2
        simp only [cl1, (f2.1 _ hm).1, cond_false]
    have hc := aft_comm L i2 f1 f2
    refine ⟨k1.congr e1, ?_, ⟨h1.congr e2, ?_, k3.congr hc⟩, ?_⟩
    · rw [k2]; exact List.map_congr_left fun k hk => (e1 k hk).symm
    · rw [h2]; exact List.map_congr_left fun k hk => (e2 k hk).symm
    · intro k
      simp only [List.cons_append, finS]
      rw [k4 k, finS_congr hc k]

/-- One operation waits for another, be it by way of others. -/
def reachS (ops : Array Oper) : Nat → Nat → Nat → Bool
  | 0, _, _ => false
  | f + 1, i, j => match ops[i]? with
    | none => false
    | some o => o.after.any fun e => Region.binds .any e && (e.on == j || (Nat.blt j e.on && reachS ops f e.on j))
/-- What those that are done wait for is done. -/
def ClosedL (ops : Array Oper) (listed : Array Bool) : Prop := ∀ i o, listed.getD i false = true → ops[i]? = some o → ∀ e ∈ o.after, Region.binds .any e = true → listed.getD e.on false = true
theorem ClosedL.reach {ops : Array Oper} {listed : Array Bool} (h : ClosedL ops listed) : ∀ {f i j : Nat} {o : Oper}, ops[i]? = some o → (∀ e ∈ o.after, Region.binds .any e = true → listed.getD e.on false = true) → reachS ops f i j = true → listed.getD j false = true
  | 0, i, j, o, _, _, hr => by cases hr
  | f + 1, i, j, o, ho, hall, hr => by
    simp only [reachS, ho, Array.any_eq_true, Bool.and_eq_true, Bool.or_eq_true, beq_iff_eq] at hr
    obtain ⟨n, hn, hb, hr⟩ := hr
    have h1 := hall _ (Array.getElem_mem hn) hb
    rcases hr with hr | ⟨-, hr⟩
    · rw [← hr]; exact h1
    · cases ho2 : ops[(o.after[n]).on]? with
      | none => cases f with
        | zero => cases hr
        | succ f => simp [reachS, ho2] at hr
      | some o2 => exact h.reach ho2 (h _ _ h1 ho2) hr

/-- Of two operations the first one is apart from the second one, or that one waits for it. -/
def orderS (ops : Array Oper) : List ItS → Bool
  | [] => true
  | x :: ts => ts.all (fun y => x.indep y || reachS ops 16 y.i x.i) && orderS ops ts

theorem orderS_mem {ops : Array Oper} : ∀ {pre : List ItS} {t : ItS} {post : List ItS}, orderS ops (pre ++ t :: post) = true → ∀ x ∈ pre, x.indep t = true ∨ reachS ops 16 t.i x.i = true
  | [], t, post, _, x, hx => by cases hx
  | y :: pre, t, post, h, x, hx => by
    simp only [List.cons_append, orderS, Bool.and_eq_true, List.all_eq_true, Bool.or_eq_true] at h
    rcases List.mem_cons.1 hx with rfl | hx
    · exact h.1 t (by simp)
    · exact orderS_mem h.2 x hx

theorem orderS_drop {ops : Array Oper} : ∀ {pre : List ItS} {t : ItS} {post : List ItS}, orderS ops (pre ++ t :: post) = true → orderS ops (pre ++ post) = true
  | [], t, post, h => by simp only [List.nil_append, orderS, Bool.and_eq_true] at h; exact h.2
  | y :: pre, t, post, h => by
    simp only [List.cons_append, orderS, Bool.and_eq_true, List.all_eq_true] at h ⊢
    exact ⟨fun z hz => h.1 z (by simp at hz ⊢; rcases hz with hz | hz <;> simp [hz]), orderS_drop h.2⟩

theorem wpAny_goodS {P : Program} {E : Env} {ops : Array Oper} {Q : Exit → Act → World → Prop} : ∀ (fuel : Nat) (its : List ItS) (listed : Array Bool) (ν : Nm) (L : SL) (g : Nat → Tag) (w : World) (a : Act), its.length ≤ fuel →
    Rel E g w a (den ν L) → GoodS P E ops L its → orderS ops its = true → (∀ i, listed.getD i true = false ↔ ∃ t ∈ its, t.i = i) → (its.map (·.i)).Nodup →
    (∀ t ∈ its, t.i < ops.size) →
    (∀ ν' g' w' a', Rel E g' w' a' (den ν' (finS L its)) → Q .normal a' w') → (∀ t ∈ its, ∀ o, ops[t.i]? = some o → ∀ e ∈ o.after, Region.binds .any e = true → e.on < t.i ∧ (listed.getD e.on false = true ∨ ∃ x ∈ its, x.i = e.on)) →
    (its.map (·.i)).Pairwise (· < ·) → ClosedL ops listed → wpAny P .any ops Q fuel listed a w := by
  intro fuel
  induction fuel with
  | zero =>
    intro its listed ν L g w a hl hr hgood hok hlist hnd hlt hQ hafter hsorted hcl
    obtain rfl := List.length_eq_zero_iff.1 (Nat.le_zero.1 hl)
    refine ⟨?_, hQ ν g w a hr⟩
    apply List.eq_nil_iff_forall_not_mem.2
    intro j hj
    obtain ⟨h1, _⟩ := mem_ready.1 hj
    obtain ⟨t, ht, _⟩ := (hlist j).1 h1
    cases ht
  | succ fuel ih =>
    intro its listed ν L g w a hl hr hgood hok hlist hnd hlt hQ hafter hsorted hcl
    refine ⟨?_, ?_⟩
    · intro hready
      cases its with
      | nil => exact hQ ν g w a hr
      | cons t ts =>
        -- the least one that waits is ready
        exfalso
        have hj : t.i ∈ Region.ready .any ops listed := by
          refine mem_ready.2 ⟨(hlist t.i).2 ⟨t, by simp, rfl⟩, ?_⟩
          have hlt' := hlt t (by simp)
          refine ⟨ops[t.i], Array.getElem?_eq_getElem hlt', fun e he hbd => ?_⟩
          obtain ⟨h1, h2⟩ := hafter t (by simp) _ (Array.getElem?_eq_getElem hlt') e he hbd
          rcases h2 with h2 | ⟨x, hx, hxe⟩
          · exact h2
          · exfalso
            rcases List.mem_cons.1 hx with rfl | hx
            · omega
            · simp only [List.map_cons, List.pairwise_cons] at hsorted
              have := hsorted.1 x.i (List.mem_map.2 ⟨x, hx, rfl⟩)
              omega
        rw [hready] at hj
        cases hj
    · intro j hj
      obtain ⟨h1, o, ho, hall⟩ := mem_ready.1 hj
      obtain ⟨t, ht, rfl⟩ := (hlist j).1 h1
      obtain ⟨pre, post, rfl⟩ := List.append_of_mem ht
      have hind : ∀ x ∈ pre, x.indep t = true := by
        intro x hx
        rcases orderS_mem hok x hx with h | h
        · exact h
        · exfalso
          have := hcl.reach ho hall h
          have h2 := (hlist x.i).2 ⟨x, by simp [hx], rfl⟩
          rw [Array.getD_eq_getD_getElem?] at this h2
          cases hq : listed[x.i]? with
          | none => rw [hq] at h2; cases h2
          | some b => rw [hq] at h2 this; simp at h2 this; rw [h2] at this; cases this
      obtain ⟨f1, -, f2, f3⟩ := GoodS.front hgood hind
      refine f1 ν (den ν L) (fun _ _ => rfl) g w a Q _ hr fun v g' w' a' hr0 => ?_
      have hr' : Rel E g' w' a' (den (setN ν t.nm v) (aftI L t)) := hr0.weaken (aft_weak (ex := ⟨t.R, t.ws, t.nm, []⟩) (Weak.refl _))
      have hmem : ∀ x, x ∈ pre ++ post ↔ (x ∈ pre ++ t :: post ∧ x.i ≠ t.i) := by
        intro x
        simp only [List.map_append, List.map_cons] at hnd
        have hn2 := List.nodup_append.1 hnd
        constructor
        · intro hx
          refine ⟨by simp at hx ⊢; rcases hx with hx | hx <;> simp [hx], fun e => ?_⟩
          rcases List.mem_append.1 hx with hx | hx
          · exact hn2.2.2 x.i (List.mem_map.2 ⟨x, hx, rfl⟩) t.i (by simp) e
          · have := (List.nodup_cons.1 hn2.2.1).1
            exact this (List.mem_map.2 ⟨x, hx, e⟩)
        · rintro ⟨hx, hne⟩
          simp at hx ⊢
          rcases hx with hx | hx | hx
          · exact .inl hx
          · subst hx; exact absurd rfl hne
          · exact .inr hx
      have hset : ∀ i, i ≠ t.i → (listed.setIfInBounds t.i true).getD i true = listed.getD i true := by
        intro i hi; rw [Array.getD_eq_getD_getElem?, Array.getD_eq_getD_getElem?, Array.getElem?_setIfInBounds_ne (fun e => hi e.symm)]
      have hself : (listed.setIfInBounds t.i true).getD t.i true = true := by
        rw [Array.getD_eq_getD_getElem?, Array.getElem?_setIfInBounds]
        simp only [if_true]
        split <;> rfl
      refine ih (pre ++ post) _ (setN ν t.nm v) (aftI L t) g' w' a' (by simp at hl ⊢; omega) hr' f2 (orderS_drop hok) ?_ ?_ (fun x hx => hlt x ((hmem x).1 hx).1) (fun ν' g' w' a' h => hQ ν' g' w' a' (by rw [f3.den ν']; exact h)) ?_ ?_ ?_
      · intro i
        by_cases hi : i = t.i
        · subst hi
          rw [hself]
          constructor
          · intro h; cases h
          · rintro ⟨x, hx, e⟩; exact absurd e ((hmem x).1 hx).2
        · rw [hset i hi, hlist i]
          constructor
          · rintro ⟨x, hx, rfl⟩; exact ⟨x, (hmem x).2 ⟨hx, hi⟩, rfl⟩
          · rintro ⟨x, hx, rfl⟩; exact ⟨x, ((hmem x).1 hx).1, rfl⟩
      · exact hnd.sublist (List.Sublist.map _ (List.Sublist.append_left (List.sublist_cons_self _ _) _))
      · intro x hx o' ho' e he hbd
        obtain ⟨h3, h4⟩ := hafter x ((hmem x).1 hx).1 o' ho' e he hbd
        refine ⟨h3, ?_⟩
        by_cases hi : e.on = t.i
        · left
          rw [hi, Array.getD_eq_getD_getElem?, Array.getElem?_setIfInBounds]
          simp only [if_true]
          have : t.i < listed.size := by
            have h5 := (hlist t.i).2 ⟨t, by simp, rfl⟩
            rw [Array.getD_eq_getD_getElem?] at h5
            cases hq : listed[t.i]? with
            | none => rw [hq] at h5; cases h5
            | some b => exact (Array.getElem?_eq_some_iff.1 hq).1
          simp [this]
        · rcases h4 with h4 | ⟨y, hy, hye⟩
          · left
            rw [Array.getD_eq_getD_getElem?, Array.getElem?_setIfInBounds_ne (fun e => hi e.symm), ← Array.getD_eq_getD_getElem?]; exact h4
          · exact .inr ⟨y, (hmem y).2 ⟨hy, by rw [hye]; exact hi⟩, hye⟩
      · exact hsorted.sublist (List.Sublist.map _ (List.Sublist.append_left (List.sublist_cons_self _ _) _))
      · intro i o' hi ho' e he hbd
        have keep : ∀ k, listed.getD k false = true → (listed.setIfInBounds t.i true).getD k false = true := by
          intro k hk
          rw [Array.getD_eq_getD_getElem?] at hk ⊢
          rw [Array.getElem?_setIfInBounds]
          by_cases e0 : t.i = k
          · subst e0
            cases hq : listed[t.i]? with
            | none => rw [hq] at hk; cases hk
            | some b => simp [(Array.getElem?_eq_some_iff.1 hq).1]
          · rw [if_neg e0]; exact hk
        by_cases e0 : i = t.i
        · subst e0
          rw [ho] at ho'
          cases ho'
          exact keep _ (hall e he hbd)
        · rw [Array.getD_eq_getD_getElem?, Array.getElem?_setIfInBounds_ne (fun e => e0 e.symm), ← Array.getD_eq_getD_getElem?] at hi
          exact keep _ (hcl i o' hi ho' e he hbd)

/-- Edges that bind lead back. -/
def edgesBackS (ops : Array Oper) : Bool := (List.range ops.size).all fun i => ((ops[i]?).map fun o => o.after.all fun e => !Region.binds .any e || decide (e.on < i)).getD true

theorem vw_region_drawS {P : Program} {E : Env} {L : SL} {ν : Nm} {R : Exit → St → Prop} {id : Nat} {ops : Array Oper} (hm : P.follows .mixedOrders = true) (its : List ItS) (hi : its.map (·.i) = List.range ops.size)
    (hgood : GoodS P E ops L its) (hok : orderS ops its = true) (hb : edgesBackS ops = true) (hR : ∀ ν', R .normal (den ν' (finS L its))) : VW P E (.region id ops true) (den ν L) R := by
  intro g w a Q hr hq
  refine wp_region_any hm ?_
  have hmem : ∀ i, (∃ t ∈ its, t.i = i) ↔ i < ops.size := by
    intro i
    have : i ∈ its.map (·.i) ↔ i < ops.size := by rw [hi, List.mem_range]
    rw [← this, List.mem_map]
  refine wpAny_goodS ops.size its _ ν L g _ a ?_ (hr.world rfl rfl rfl (Nat.le_refl _) fun _ _ => .inl rfl) hgood hok ?_ ?_ ?_ (fun ν' g' w' a' hr' => hq _ g' w' a' _ (hR ν') hr') ?_ ?_ ?_
  · have := congrArg List.length hi
    simp at this; omega
  · intro i
    rw [hmem i, Array.getD_eq_getD_getElem?, Array.getElem?_replicate]
    by_cases h : i < ops.size
    · simp [h]
    · simp [h]
  · rw [hi]; exact List.nodup_range
  · intro t ht; exact (hmem t.i).1 ⟨t, ht, rfl⟩
  · intro t ht o ho e he hbd
    have hlt := (hmem t.i).1 ⟨t, ht, rfl⟩
    have hb' := List.all_eq_true.1 hb t.i (List.mem_range.2 hlt)
    rw [ho] at hb'
    simp only [Option.map_some, Option.getD_some, Array.all_eq_true, Bool.or_eq_true, Bool.not_eq_true', decide_eq_true_eq] at hb'
    obtain ⟨n, hn, rfl⟩ := Array.mem_iff_getElem.1 he
    have := (hb' n hn).resolve_left (by rw [hbd]; exact Bool.noConfusion)
    exact ⟨this, .inr ((hmem _).2 (by omega))⟩
  · rw [hi]; exact List.pairwise_lt_range
  · intro i o h ho
    rw [Array.getD_eq_getD_getElem?, Array.getElem?_replicate] at h
    split at h <;> cases h
/-- A region that draws its order. -/
def runD (P : Program) (T : Tab) (n : Nat) (ops : List Oper) (W : Wits) : List Nat → SL → Option (SL × List Prop × List ItS)
  | [], L => some (L, [], [])
  | i :: is, L => match ops[i]? with
    | none => none
    | some o => match o.guard with
      | none => match exec P T n o L (W.at i) with
        | some ex => match runD P T n ops W is (aft L ex) with
          | none => none
          | some (L2, cs, its) => some (L2, ex.c ++ cs, ⟨i, ex.R, ex.ws, ex.nm, ex.R.map (look L)⟩ :: its)
        | none => none
      | some (j, want) => match guardX n ops L j with
        | none => none
        | some (b, d) => match wants want b with
          | true => match exec P T n o L (W.at i) with
            | some ex => match runD P T n ops W is (aft L ex) with
              | none => none
              | some (L2, cs, its) => some (L2, ex.c ++ cs, ⟨i, tk d :: ex.R, ex.ws, ex.nm, (tk d :: ex.R).map (look L)⟩ :: its)
            | none => none
          | false => match runD P T n ops W is (putX L (skipW o)) with
            | none => none
            | some (L2, cs, its) => some (L2, cs, ⟨i, [tk d], skipW o, none, [tk d].map (look L)⟩ :: its)

theorem runD_sound {P : Program} {E : Env} {T : Tab} {n : Nat} {ops : Array Oper} {W : Wits} (hT : TabOK P T) (hE : E.n = n) : ∀ (is : List Nat) (L L2 : SL) (cs : List Prop) (its : List ItS),
    runD P T n ops.toList W is L = some (L2, cs, its) → AllP cs → GoodS P E ops L its ∧ finS L its = L2 ∧ its.map (·.i) = is
  | [], L, L2, cs, its, h, _ => by cases h; exact ⟨trivial, rfl, rfl⟩
  | i :: is, L, L2, cs, its, h, hcs => by
    simp only [runD] at h
    split at h
    · cases h
    · rename_i o ho
      have ho' : ops[i]? = some o := by simpa using ho
      split at h
      · rename_i hg
        split at h
        · rename_i ex hex
          split at h
          · cases h
          · rename_i L3 cs3 its3 hrun
            cases h
            obtain ⟨h1, h2⟩ := hcs.app
            obtain ⟨k1, k2, k3⟩ := runD_sound (P := P) (E := E) hT hE is _ _ _ _ hrun h2
            exact ⟨⟨LOpS.exec ho' hg (exec_sound hT hE hex) h1, rfl, k1⟩, k2, by simp [k3]⟩
        · cases h
      · rename_i j want hg
        split at h
        · cases h
        · rename_i b d hgx
          obtain ⟨oj, hj, hd, hn, hs, hs0⟩ := guardX_spec (E := E) hE hgx
          have hj' : ops[j]? = some oj := by simpa using hj
          split at h
          · rename_i hw
            split at h
            · rename_i ex hex
              split at h
              · cases h
              · rename_i L3 cs3 its3 hrun
                cases h
                obtain ⟨h1, h2⟩ := hcs.app
                obtain ⟨k1, k2, k3⟩ := runD_sound (P := P) (E := E) hT hE is _ _ _ _ hrun h2
                obtain ⟨sh, hs⟩ := hs _ (wants_true hw)
                exact ⟨⟨LOpS.guard ho' hg hj' hd hn hs (exec_sound hT hE hex) h1, rfl, k1⟩, k2, by simp [k3]⟩
            · cases h
          · rename_i hw
            split at h
            · cases h
            · rename_i L3 cs3 its3 hrun
              cases h
              obtain ⟨k1, k2, k3⟩ := runD_sound (P := P) (E := E) hT hE is _ _ _ _ hrun hcs
              refine ⟨⟨LOpS.of fun ν => ?_, rfl, k1⟩, k2, by simp [k3]⟩
              unfold skipW
              cases hde : o.dst with
              | none => exact LOp.skip0 ho' hg hj' hd hn (skips_of hs hs0 hw ν) hde
              | some e => exact LOp.skip ho' hg hj' hd hn (skips_of hs hs0 hw ν) hde

def runR (P : Program) (T : Tab) (n : Nat) (ops : Array Oper) (dr : Bool) (W : Wits) (L : SL) (keys : List Nat) : Option (SL × List Prop) :=
  match dr with
  | false => match runO P T n ops.toList W (List.range ops.size) L with
    | some (L2, cs) => some (keys.map fun k => (k, look L2 k), cs)
    | none => none
  | true => match runD P T n ops.toList W (List.range ops.size) L with
    | some (L2, cs, its) => bif orderS ops its && edgesBackS ops then some (keys.map fun k => (k, look L2 k), cs) else none
    | none => none

theorem keep_weak (ν : Nm) (L : SL) : ∀ (keys : List Nat), Weak (den ν L) (den ν (keys.map fun k => (k, look L k)))
  | [], k => .inr rfl
  | k0 :: keys, k => by
    have ih := keep_weak ν L keys k
    simp only [den, List.map_cons, look_cons] at ih ⊢
    by_cases e : k = k0
    · subst e; left; simp
    · rw [if_neg e]; exact ih

/-- Code at a state that is written as a list. -/
structure XW (P : Program) (E : Env) (c : Code) (L : SL) (R : Exit → SL → Prop) : Prop where
  run : ∀ ν, VW P E c (den ν L) fun e τ => ∃ ν' L', R e L' ∧ Weak τ (den ν' L')

/-- What is known all through a body. -/
structure Cx (P : Program) (T : Tab) (n : Nat) (E : Env) : Prop where
  tab : TabOK P T
  n : E.n = n
  mixed : P.follows .mixedOrders = true
  alone : ∀ b, ¬ E.may b

theorem xw_region {P : Program} {T : Tab} {n : Nat} {E : Env} {id : Nat} {ops : Array Oper} {dr : Bool} {L L' : SL} {W : Wits} {cs : List Prop} {R : Exit → SL → Prop} (c : Cx P T n E)
    (hcs : AllP cs) (h : runR P T n ops dr W L (L'.map Prod.fst) = some (L', cs)) (hR : R .normal L') : XW P E (.region id ops dr) L R := by
  constructor
  intro ν
  unfold runR at h
  split at h
  · split at h
    · rename_i L2 cs2 hrun
      simp only [Option.some.injEq, Prod.mk.injEq] at h
      obtain ⟨h1, rfl⟩ := h
      refine vw_region (runO_sound c.tab c.n _ L L2 cs2 hrun hcs (fun ν' => ?_) ν)
      refine ⟨ν', L', hR, ?_⟩
      have := keep_weak ν' L2 (L'.map Prod.fst)
      rwa [h1] at this
    · cases h
  · split at h
    · rename_i L2 cs2 its hrun
      cases hb : orderS ops its && edgesBackS ops with
      | false => rw [hb] at h; cases h
      | true =>
        rw [hb] at h
        simp only [cond_true, Option.some.injEq, Prod.mk.injEq] at h
        obtain ⟨h1, rfl⟩ := h
        rw [Bool.and_eq_true] at hb
        obtain ⟨k1, k2, k3⟩ := runD_sound (P := P) (E := E) c.tab c.n _ _ _ _ _ hrun hcs
        refine vw_region_drawS c.mixed its k3 k1 hb.1 hb.2 fun ν' => ⟨ν', L', hR, ?_⟩
        rw [k2]
        have := keep_weak ν' L2 (L'.map Prod.fst)
        rwa [h1] at this
    · cases h

def seqX (next : SL → Prop) (R : Exit → SL → Prop) : Exit → SL → Prop
  | .normal, L => next L
  | e, L => R e L

theorem xw_seq {P : Program} {E : Env} {x y : Code} {L : SL} {R : Exit → SL → Prop} (h : XW P E x L (seqX (fun L' => XW P E y L' R) R)) : XW P E (.seq x y) L R := by
  constructor
  intro ν
  refine vw_seq ((h.run ν).mono fun e τ hh => ?_)
  obtain ⟨ν', L', h1, h2⟩ := hh
  cases e with
  | normal => exact vw_turn (Turn.weaken h2) fun τ' e0 => by subst e0; exact XW.run h1 ν'
  | _ => exact ⟨ν', L', h1, h2⟩

/-- A region, and what follows. -/
theorem vx {P : Program} {T : Tab} {n : Nat} {E : Env} {id : Nat} {ops : Array Oper} {dr : Bool} {L : SL} {y : Code} {cs : List Prop} {R : Exit → SL → Prop} (c : Cx P T n E) (L' : SL) (W : Wits)
    (hcs : AllP cs) (h : runR P T n ops dr W L (L'.map Prod.fst) = some (L', cs)) (hy : XW P E y L' R) : XW P E (.seq (.region id ops dr) y) L R := xw_seq (xw_region c hcs h hy)

theorem vxe {P : Program} {T : Tab} {n : Nat} {E : Env} {id : Nat} {ops : Array Oper} {dr : Bool} {L : SL} {cs : List Prop} {R : Exit → SL → Prop} (c : Cx P T n E) (L' : SL) (W : Wits)
    (hcs : AllP cs) (h : runR P T n ops dr W L (L'.map Prod.fst) = some (L', cs)) (hR : R .normal L') : XW P E (.region id ops dr) L R := xw_region c hcs h hR

theorem xw_skip {P : Program} {E : Env} {L : SL} {R : Exit → SL → Prop} (h : R .normal L) : XW P E .skip L R := ⟨fun ν => vw_skip ⟨ν, L, h, Weak.refl _⟩⟩
theorem xw_ret {P : Program} {E : Env} {L : SL} {R : Exit → SL → Prop} (h : R .ret L) : XW P E .ret L R := ⟨fun ν => vw_ret ⟨ν, L, h, Weak.refl _⟩⟩
theorem xw_exit {P : Program} {E : Env} {L : SL} {R : Exit → SL → Prop} {id : Nat} (h : R (.exit id) L) : XW P E (.exit id) L R := ⟨fun ν => vw_exit ⟨ν, L, h, Weak.refl _⟩⟩

theorem xw_cond {P : Program} {E : Env} {c : Operand} {x y : Code} {L : SL} {R : Exit → SL → Prop} {sh : Bool} (b : Bool) (hc : ox L c = .one (.lf (.im sh (.bool b))))
    (ht : b = true → XW P E x L R) (hf : b = false → XW P E y L R) : XW P E (.cond c x y) L R := ⟨fun ν =>
  vw_cond (b := b) (sh := sh) (im_den (R := ok c) (ν := ν) (L := L) (fun _ _ => rfl) (fun _ h => h) hc) (fun e => (ht e).run ν) (fun e => (hf e).run ν)⟩

def blockX (id : Nat) (R : Exit → SL → Prop) : Exit → SL → Prop
  | .exit i, L => match Nat.beq i id with
    | true => R .normal L
    | false => R (.exit i) L
  | e, L => R e L

theorem xw_block {P : Program} {E : Env} {id : Nat} {c : Code} {L : SL} {R : Exit → SL → Prop} (h : XW P E c L (blockX id R)) : XW P E (.block id c) L R := by
  constructor
  intro ν
  refine vw_block ((h.run ν).mono fun e τ hh => ?_)
  obtain ⟨ν', L', h1, h2⟩ := hh
  cases e with
  | exit i =>
    simp only [blockX] at h1
    simp only [blockR]
    cases hb : Nat.beq i id with
    | true => rw [hb] at h1; rw [if_pos (Nat.eq_of_beq_eq_true hb)]; exact ⟨ν', L', h1, h2⟩
    | false => rw [hb] at h1; rw [if_neg (Nat.ne_of_beq_eq_false hb)]; exact ⟨ν', L', h1, h2⟩
  | _ => exact ⟨ν', L', h1, h2⟩

theorem xw_loop {P : Program} {E : Env} {c : Code} {L : SL} {R : Exit → SL → Prop} (I : Nat → SL → Prop) (n : Nat) (h0 : I n L)
    (round : ∀ n L, I n L → XW P E c L (seqX (fun L' => ∃ m, m < n ∧ I m L') R)) : XW P E (.loop c) L R := by
  constructor
  intro ν
  refine vw_loop (fun n τ => ∃ ν' L', I n L' ∧ Weak τ (den ν' L')) n ⟨ν, L, h0, Weak.refl _⟩ fun n τ hh => ?_
  obtain ⟨ν', L', h1, h2⟩ := hh
  refine vw_turn (Turn.weaken h2) fun τ' e0 => ?_
  subst e0
  refine ((round n L' h1).run ν').mono fun e τ hh => ?_
  obtain ⟨ν2, L2, h3, h4⟩ := hh
  cases e with
  | normal => obtain ⟨m, hm, hi⟩ := h3; exact ⟨m, hm, ν2, L2, hi, h4⟩
  | _ => exact ⟨ν2, L2, h3, h4⟩

theorem XW.mono {P : Program} {E : Env} {c : Code} {L : SL} {R R' : Exit → SL → Prop} (h : XW P E c L R) (hR : ∀ e L', R e L' → R' e L') : XW P E c L R' := ⟨fun ν =>
  (h.run ν).mono fun e τ ⟨ν', L', h1, h2⟩ => ⟨ν', L', hR e L' h1, h2⟩⟩

/-- The variable of a temporary becomes shared data. -/
def frz (t : Nat) (L : SL) : SL := match look L (tk t) with
  | .one (.lf (.u b _ e sz rows)) => (tk t, .lf (.im true (.sl sz rows))) :: clean (some b) L
  | _ => L

theorem xw_frz {P : Program} {E : Env} {c : Code} {L : SL} {R : Exit → SL → Prop} (t : Nat) (L' : SL) (h : frz t L = L') (hc : XW P E c L' R) : XW P E c L R := by
  subst h
  constructor
  intro ν
  unfold frz at hc
  split at hc
  · rename_i b cc e sz rows hl
    have hk : den ν L (tk t) = renS ν (.one (.lf (.u b cc e sz rows))) := by simp only [den, hl]
    simp only [renS, renP, renL] at hk
    refine vw_turn (M := (· = den ν ((tk t, Slot.lf (.im true (.sl sz rows))) :: clean (some b) L))) ?_ fun τ e0 => by subst e0; exact hc.run ν
    have hw : Weak (upd (den ν L) (tk t) (.lf (.im true (.sl sz rows)))) (den ν ((tk t, Slot.lf (.im true (.sl sz rows))) :: clean (some b) L)) := by
      rw [den_cons]
      refine upd_weak ?_ _ _
      intro k
      simp only [den, look_clean]
      split
      · exact .inr rfl
      · exact .inl rfl
    have key : Turn E (den ν L) (· = upd (den ν L) (tk t) (.lf (.im true (.sl sz rows)))) := by
      cases hν : ν b with
      | some q => rw [hν] at hk; exact turn_freeze t q.1 q.2 e sz rows hk
      | none =>
        rw [hν] at hk
        cases rows with
        | nil => exact turn_nil t sz hk
        | cons r rs => exact fun g w a hr => (bad_tmp hr hk).elim
    exact fun g w a hr => let ⟨g', τ, e0, hr'⟩ := key g w a hr; ⟨g', _, rfl, (e0 ▸ hr').weaken hw⟩
  · exact hc.run ν

/-- Names are changed, one to one. -/
def mapN (f : Nat → Nat) : Leaf → Leaf
  | .u b c e sz rows => .u (f b) c e sz rows
  | .hd b n c => .hd (f b) n c
  | .ptr b off => .ptr (f b) off
  | l => l
def Slot.mapN (f : Nat → Nat) : Slot → Slot
  | .one (.lf l) => .one (.lf (V.mapN f l))
  | .one (.agg ls) => .one (.agg (ls.map (V.mapN f)))
  | .tup ps => .tup (ps.map fun | .lf l => .lf (V.mapN f l) | .agg ls => .agg (ls.map (V.mapN f)))
  | .cell b ls => .cell (f b) (ls.map (V.mapN f))
  | .obj b T e s => .obj (f b) T e s

theorem renL_mapN {ν : Nm} {f g : Nat → Nat} (hg : ∀ b, g (f b) = b) (l : Leaf) : renL (fun b => ν (g b)) (mapN f l) = renL ν l := by
  cases l <;> simp only [mapN, renL, hg]

theorem renS_mapN {ν : Nm} {f g : Nat → Nat} (hg : ∀ b, g (f b) = b) (s : Slot) : renS (fun b => ν (g b)) (s.mapN f) = renS ν s := by
  have hm : ∀ ls : List Leaf, (ls.map (mapN f)).map (renL fun b => ν (g b)) = ls.map (renL ν) := fun ls => by
    rw [List.map_map]; exact List.map_congr_left fun l _ => renL_mapN hg l
  match s with
  | .one (.lf l) => simp only [Slot.mapN, renS, renP, renL_mapN hg]
  | .one (.agg ls) => simp only [Slot.mapN, renS, renP, hm]
  | .tup ps =>
    simp only [Slot.mapN, renS, List.map_map]
    congr 1
    refine List.map_congr_left fun p _ => ?_
    cases p <;> simp only [Function.comp_apply, renP, renL_mapN hg, hm]
  | .cell b ls => simp only [Slot.mapN, renS, hm, hg]
  | .obj b T e s => simp only [Slot.mapN, renS, hg]

theorem look_map (f : Slot → Slot) (hf : f Slot.hole = Slot.hole) : ∀ (L : SL) (k : Nat), look (L.map fun p => (p.1, f p.2)) k = f (look L k)
  | [], k => hf.symm
  | (k0, s) :: r, k => by
    simp only [List.map_cons, look_cons]
    split
    · rfl
    · exact look_map f hf r k

/-- One name is given for another that is free: the two change places. -/
def swapN (a b : Nat) (x : Nat) : Nat := bif Nat.beq x a then b else bif Nat.beq x b then a else x
theorem swapN_swapN (a b x : Nat) : swapN a b (swapN a b x) = x := by
  have h : ∀ y, swapN a b y = if y = a then b else if y = b then a else y := fun y => by
    unfold swapN
    cases h1 : Nat.beq y a with
    | true => rw [if_pos (Nat.eq_of_beq_eq_true h1)]; rfl
    | false =>
      rw [if_neg (Nat.ne_of_beq_eq_false h1)]
      cases h2 : Nat.beq y b with
      | true => rw [if_pos (Nat.eq_of_beq_eq_true h2)]; rfl
      | false => rw [if_neg (Nat.ne_of_beq_eq_false h2)]; rfl
  rw [h x]
  by_cases h1 : x = a
  · rw [if_pos h1, h]
    by_cases h2 : b = a
    · rw [if_pos h2, h2, h1]
    · rw [if_neg h2, if_pos rfl, h1]
  · rw [if_neg h1]
    by_cases h2 : x = b
    · rw [if_pos h2, h, if_pos rfl, h2]
    · rw [if_neg h2, h, if_neg h1, if_neg h2]

def swapL (a b : Nat) (L : SL) : SL := L.map fun p => (p.1, p.2.mapN (swapN a b))

theorem xw_swap {P : Program} {E : Env} {c : Code} {L : SL} {R : Exit → SL → Prop} (a b : Nat) (L' : SL) (h : swapL a b L = L') (hc : XW P E c L' R) : XW P E c L R := by
  subst h
  constructor
  intro ν
  have e : den (fun x => ν (swapN a b x)) (swapL a b L) = den ν L := by
    funext k
    simp only [den, swapL]
    rw [look_map (Slot.mapN (swapN a b)) rfl]
    exact renS_mapN (swapN_swapN a b) _
  rw [← e]
  exact hc.run _
end Go.Proofs.YtahciphhopiipaaGreatDoor.V
