/- A region that draws its order: what its operations make hangs on what they read, so every order comes to the same. -/
import Derived.Test.YtahciphhopiipaaGreatDoorV10
import Derived.Orders
set_option linter.unusedVariables false
set_option linter.unusedSimpArgs false
namespace Go.Proofs.YtahciphhopiipaaGreatDoor.V
open Go Go.RowKit

/-- Several keys turn. -/
def updL (σ : St) : List (Nat × Slot) → St
  | [] => σ
  | (k, s) :: ws => updL (upd σ k s) ws

theorem updL_ne {ws : List (Nat × Slot)} : ∀ {σ : St} {k : Nat}, k ∉ ws.map (·.1) → updL σ ws k = σ k := by
  induction ws with
  | nil => intro σ k _; rfl
  | cons p ws ih =>
    intro σ k h
    simp only [List.map_cons, List.mem_cons, not_or] at h
    simp only [updL]
    rw [ih h.2, upd_ne _ _ h.1]

theorem updL_upd {ws : List (Nat × Slot)} : ∀ {σ : St} {k : Nat} {s : Slot}, k ∉ ws.map (·.1) → updL (upd σ k s) ws = upd (updL σ ws) k s := by
  induction ws with
  | nil => intro σ k s _; rfl
  | cons p ws ih =>
    intro σ k s h
    simp only [List.map_cons, List.mem_cons, not_or] at h
    simp only [updL]
    rw [upd_comm _ _ _ h.1, ih h.2]

theorem updL_comm {ws ws' : List (Nat × Slot)} : ∀ {σ : St}, (∀ k ∈ ws.map (·.1), k ∉ ws'.map (·.1)) → updL (updL σ ws) ws' = updL (updL σ ws') ws := by
  induction ws with
  | nil => intro σ _; rfl
  | cons p ws ih =>
    intro σ h
    simp only [updL]
    rw [ih (fun k hk => h k (by simp [hk])), updL_upd (h p.1 (by simp))]

/-- An operation of a region by what it reads and what it turns. -/
structure It where
  i : Nat
  R : List Nat
  ws : List (Nat × Slot)

def It.keys (t : It) : List Nat := t.ws.map (·.1)

/-- Wherever the keys that it reads are as they are here, the operation turns its keys, and no other. -/
def LOp (P : Program) (E : Env) (ops : Array Oper) (t : It) (σ : St) : Prop :=
  ∀ τ, (∀ k ∈ t.R, τ k = σ k) → ∀ g w a (Q : Exit → Act → World → Prop) (K : Act → World → Prop), Rel E g w a τ →
    (∀ g' w' a', Rel E g' w' a' (updL τ t.ws) → K a' w') → wpOp P ops Q t.i K a w

theorem LOp.step {P : Program} {E : Env} {ops : Array Oper} {i : Nat} {R : List Nat} {ws : List (Nat × Slot)} {σ : St} {o : Oper} (ho : ops[i]? = some o) (hg : o.guard = none)
    (h : ∀ τ, (∀ k ∈ R, τ k = σ k) → Step P E o τ (· = updL τ ws)) : LOp P E ops ⟨i, R, ws⟩ σ := by
  intro τ hτ g w a Q K hr hk
  simp only [wpOp, ho]
  rw [if_pos (by simp [Region.wanted, hg])]
  exact .inl (h τ hτ g w a _ Q hr fun g' w' a' τ' e hr' => hk g' w' a' (e ▸ hr'))

theorem LOp.guard {P : Program} {E : Env} {ops : Array Oper} {i j d : Nat} {R : List Nat} {ws : List (Nat × Slot)} {σ : St} {o oj : Oper} {want b sh : Bool} (ho : ops[i]? = some o) (hg : o.guard = some (j, want))
    (hj : ops[j]? = some oj) (hd : oj.dst = some d) (hn : d < E.n) (hs : σ (tk d) = .lf (.im sh (.bool b))) (hb : b = want) (hR : tk d ∈ R)
    (h : ∀ τ, (∀ k ∈ R, τ k = σ k) → Step P E o τ (· = updL τ ws)) : LOp P E ops ⟨i, R, ws⟩ σ := by
  intro τ hτ g w a Q K hr hk
  simp only [wpOp, ho]
  have hs' : τ (tk d) = .lf (.im sh (.bool b)) := (hτ _ hR).trans hs
  rw [if_pos (by simp [Region.wanted, hg, yielded_eq hr hj hd hn hs', hb])]
  exact .inl (h τ hτ g w a _ Q hr fun g' w' a' τ' e hr' => hk g' w' a' (e ▸ hr'))

theorem LOp.skip {P : Program} {E : Env} {ops : Array Oper} {i j d e : Nat} {σ : St} {o oj : Oper} {want : Bool} (ho : ops[i]? = some o) (hg : o.guard = some (j, want))
    (hj : ops[j]? = some oj) (hd : oj.dst = some d) (hn : d < E.n) (hs : Skips want (σ (tk d))) (hde : o.dst = some e) :
    LOp P E ops ⟨i, [tk d], [(tk e, Slot.tup [])]⟩ σ := by
  intro τ hτ g w a Q K hr hk
  simp only [wpOp, ho]
  have hs' : Skips want (τ (tk d)) := by rw [hτ _ (by simp)]; exact hs
  rw [if_neg (by simp only [Region.wanted, hg, yielded_ne hr hj hd hn hs']; exact Bool.false_ne_true), hde]
  exact hk _ w _ (hr.skipTo e)

/-- The operations one after the other, in the order of the text. -/
def Good (P : Program) (E : Env) (ops : Array Oper) : St → List It → Prop
  | _, [] => True
  | σ, t :: ts => LOp P E ops t σ ∧ Good P E ops (updL σ t.ws) ts

def goAll (σ : St) : List It → St
  | [] => σ
  | t :: ts => goAll (updL σ t.ws) ts

/-- Neither turns what the other one reads or turns. -/
def It.indep (x y : It) : Bool := x.keys.all (fun k => !y.R.contains k && !y.keys.contains k) && y.keys.all (fun k => !x.R.contains k)

theorem It.indep_spec {x y : It} (h : x.indep y = true) : (∀ k ∈ x.keys, k ∉ y.R) ∧ (∀ k ∈ x.keys, k ∉ y.keys) ∧ (∀ k ∈ y.keys, k ∉ x.R) := by
  simp only [It.indep, Bool.and_eq_true, List.all_eq_true, Bool.not_eq_true', List.contains_eq_mem, decide_eq_false_iff_not] at h
  exact ⟨fun k hk => (h.1 k hk).1, fun k hk => (h.1 k hk).2, h.2⟩

theorem LOp.back {P : Program} {E : Env} {ops : Array Oper} {t : It} {σ : St} {ws : List (Nat × Slot)} (h : LOp P E ops t (updL σ ws)) (hd : ∀ k ∈ ws.map (·.1), k ∉ t.R) : LOp P E ops t σ :=
  fun τ hτ => h τ fun k hk => by rw [hτ k hk, updL_ne]; exact fun hm => hd k hm hk
theorem LOp.forth {P : Program} {E : Env} {ops : Array Oper} {t : It} {σ : St} {ws : List (Nat × Slot)} (h : LOp P E ops t σ) (hd : ∀ k ∈ ws.map (·.1), k ∉ t.R) : LOp P E ops t (updL σ ws) :=
  fun τ hτ => h τ fun k hk => by rw [hτ k hk, updL_ne]; exact fun hm => hd k hm hk

/-- An operation that is apart from all ahead of it may be first. -/
theorem Good.front {P : Program} {E : Env} {ops : Array Oper} {t : It} {post : List It} : ∀ {pre : List It} {σ : St}, Good P E ops σ (pre ++ t :: post) → (∀ x ∈ pre, x.indep t = true) →
    LOp P E ops t σ ∧ Good P E ops (updL σ t.ws) (pre ++ post) ∧ goAll σ (pre ++ t :: post) = goAll (updL σ t.ws) (pre ++ post)
  | [], σ, h, _ => ⟨h.1, h.2, rfl⟩
  | x :: pre, σ, h, hi => by
    obtain ⟨h1, h2⟩ := h
    obtain ⟨k1, k2, k3⟩ := Good.front h2 (fun y hy => hi y (by simp [hy]))
    obtain ⟨i1, i2, i3⟩ := It.indep_spec (hi x (by simp))
    refine ⟨k1.back i1, ⟨h1.forth i3, ?_⟩, ?_⟩
    · rw [updL_comm (fun k hk hk' => i2 k hk' hk)]; exact k2
    · simp only [List.cons_append, goAll]
      rw [k3, updL_comm (fun k hk hk' => i2 k hk hk')]

/-- Of two operations the first one is apart from the second one, or that one waits for it. -/
def orderOK (ops : Array Oper) : List It → Bool
  | [] => true
  | x :: ts => ts.all (fun y => x.indep y || ((ops[y.i]?).map (fun o => o.after.any fun e => e.on == x.i && Region.binds .any e)).getD false) && orderOK ops ts

theorem orderOK_mem {ops : Array Oper} : ∀ {pre : List It} {t : It} {post : List It}, orderOK ops (pre ++ t :: post) = true → ∀ x ∈ pre, x.indep t = true ∨ ∃ o, ops[t.i]? = some o ∧ ∃ e ∈ o.after, e.on = x.i ∧ Region.binds .any e = true
  | [], t, post, _, x, hx => by cases hx
  | y :: pre, t, post, h, x, hx => by
    simp only [List.cons_append, orderOK, Bool.and_eq_true, List.all_eq_true, Bool.or_eq_true] at h
    rcases List.mem_cons.1 hx with rfl | hx
    · rcases h.1 t (by simp) with h | h
      · exact .inl h
      · right
        cases ho : ops[t.i]? with
        | none => rw [ho] at h; cases h
        | some o =>
          rw [ho] at h
          simp only [Option.map_some, Option.getD_some, Array.any_eq_true, Bool.and_eq_true, beq_iff_eq] at h
          obtain ⟨n, hn, h1, h2⟩ := h
          exact ⟨o, rfl, o.after[n], Array.getElem_mem hn, h1, h2⟩
    · exact orderOK_mem h.2 x hx

theorem orderOK_drop {ops : Array Oper} : ∀ {pre : List It} {t : It} {post : List It}, orderOK ops (pre ++ t :: post) = true → orderOK ops (pre ++ post) = true
  | [], t, post, h => by simp only [List.nil_append, orderOK, Bool.and_eq_true] at h; exact h.2
  | y :: pre, t, post, h => by
    simp only [List.cons_append, orderOK, Bool.and_eq_true, List.all_eq_true] at h ⊢
    exact ⟨fun z hz => h.1 z (by simp at hz ⊢; rcases hz with hz | hz <;> simp [hz]), orderOK_drop h.2⟩

theorem wpAny_good {P : Program} {E : Env} {ops : Array Oper} {Q : Exit → Act → World → Prop} : ∀ (fuel : Nat) (its : List It) (listed : Array Bool) (σ : St) (g : Nat → Tag) (w : World) (a : Act), its.length ≤ fuel →
    Rel E g w a σ → Good P E ops σ its → orderOK ops its = true → (∀ i, listed.getD i true = false ↔ ∃ t ∈ its, t.i = i) → (its.map (·.i)).Nodup →
    (∀ t ∈ its, t.i < ops.size) →
    (∀ g' w' a', Rel E g' w' a' (goAll σ its) → Q .normal a' w') → (∀ t ∈ its, ∀ o, ops[t.i]? = some o → ∀ e ∈ o.after, e.on < t.i ∧ (listed.getD e.on false = true ∨ ∃ x ∈ its, x.i = e.on)) →
    (its.map (·.i)).Pairwise (· < ·) → wpAny P .any ops Q fuel listed a w := by
  intro fuel
  induction fuel with
  | zero =>
    intro its listed σ g w a hl hr hgood hok hlist hnd hlt hQ hafter hsorted
    obtain rfl := List.length_eq_zero_iff.1 (Nat.le_zero.1 hl)
    refine ⟨?_, hQ g w a hr⟩
    apply List.eq_nil_iff_forall_not_mem.2
    intro j hj
    obtain ⟨h1, _⟩ := mem_ready.1 hj
    obtain ⟨t, ht, _⟩ := (hlist j).1 h1
    cases ht
  | succ fuel ih =>
    intro its listed σ g w a hl hr hgood hok hlist hnd hlt hQ hafter hsorted
    refine ⟨?_, ?_⟩
    · intro hready
      cases its with
      | nil => exact hQ g w a hr
      | cons t ts =>
        -- the least one that waits is ready
        exfalso
        have hj : t.i ∈ Region.ready .any ops listed := by
          refine mem_ready.2 ⟨(hlist t.i).2 ⟨t, by simp, rfl⟩, ?_⟩
          have hlt' := hlt t (by simp)
          refine ⟨ops[t.i], Array.getElem?_eq_getElem hlt', fun e he _ => ?_⟩
          obtain ⟨h1, h2⟩ := hafter t (by simp) _ (Array.getElem?_eq_getElem hlt') e he
          rcases h2 with h2 | ⟨x, hx, hxe⟩
          · exact h2
          · exfalso
            rcases List.mem_cons.1 hx with rfl | hx
            · omega
            · simp only [List.map_cons, List.pairwise_cons] at hsorted
              have := hsorted.1 x.i (List.mem_map.2 ⟨x, hx, rfl⟩)
              omega
        rw [hready] at hj
        cases hj
    · intro j hj
      obtain ⟨h1, o, ho, hall⟩ := mem_ready.1 hj
      obtain ⟨t, ht, rfl⟩ := (hlist j).1 h1
      obtain ⟨pre, post, rfl⟩ := List.append_of_mem ht
      have hind : ∀ x ∈ pre, x.indep t = true := by
        intro x hx
        rcases orderOK_mem hok x hx with h | ⟨o', ho', e, he, hei, hbd⟩
        · exact h
        · exfalso
          rw [ho] at ho'
          cases ho'
          have := hall e he hbd
          rw [hei] at this
          have h2 := (hlist x.i).2 ⟨x, by simp [hx], rfl⟩
          rw [Array.getD_eq_getD_getElem?] at this h2
          cases hq : listed[x.i]? with
          | none => rw [hq] at h2; cases h2
          | some b => rw [hq] at h2 this; simp at h2 this; rw [h2] at this; cases this
      obtain ⟨f1, f2, f3⟩ := Good.front hgood hind
      refine f1 σ (fun _ _ => rfl) g w a Q _ hr fun g' w' a' hr' => ?_
      have hmem : ∀ x, x ∈ pre ++ post ↔ (x ∈ pre ++ t :: post ∧ x.i ≠ t.i) := by
        intro x
        simp only [List.map_append, List.map_cons] at hnd
        have hn2 := List.nodup_append.1 hnd
        constructor
        · intro hx
          refine ⟨by simp at hx ⊢; rcases hx with hx | hx <;> simp [hx], fun e => ?_⟩
          rcases List.mem_append.1 hx with hx | hx
          · exact hn2.2.2 x.i (List.mem_map.2 ⟨x, hx, rfl⟩) t.i (by simp) e
          · have := (List.nodup_cons.1 hn2.2.1).1
            exact this (List.mem_map.2 ⟨x, hx, e⟩)
        · rintro ⟨hx, hne⟩
          simp at hx ⊢
          rcases hx with hx | hx | hx
          · exact .inl hx
          · subst hx; exact absurd rfl hne
          · exact .inr hx
      have hset : ∀ i, i ≠ t.i → (listed.setIfInBounds t.i true).getD i true = listed.getD i true := by
        intro i hi; rw [Array.getD_eq_getD_getElem?, Array.getD_eq_getD_getElem?, Array.getElem?_setIfInBounds_ne (fun e => hi e.symm)]
      have hself : (listed.setIfInBounds t.i true).getD t.i true = true := by
        rw [Array.getD_eq_getD_getElem?, Array.getElem?_setIfInBounds]
        simp only [if_true]
        split <;> rfl
      refine ih (pre ++ post) _ (updL σ t.ws) g' w' a' (by simp at hl ⊢; omega) hr' f2 (orderOK_drop hok) ?_ ?_ (fun x hx => hlt x ((hmem x).1 hx).1) (by rw [← f3]; exact hQ) ?_ ?_
      · intro i
        by_cases hi : i = t.i
        · subst hi
          rw [hself]
          constructor
          · intro h; cases h
          · rintro ⟨x, hx, e⟩; exact absurd e ((hmem x).1 hx).2
        · rw [hset i hi, hlist i]
          constructor
          · rintro ⟨x, hx, rfl⟩; exact ⟨x, (hmem x).2 ⟨hx, hi⟩, rfl⟩
          · rintro ⟨x, hx, rfl⟩; exact ⟨x, ((hmem x).1 hx).1, rfl⟩
      · exact hnd.sublist (List.Sublist.map _ (List.Sublist.append_left (List.sublist_cons_self _ _) _))
      · intro x hx o' ho' e he
        obtain ⟨h3, h4⟩ := hafter x ((hmem x).1 hx).1 o' ho' e he
        refine ⟨h3, ?_⟩
        by_cases hi : e.on = t.i
        · left
          rw [hi, Array.getD_eq_getD_getElem?, Array.getElem?_setIfInBounds]
          simp only [if_true]
          have : t.i < listed.size := by
            have h5 := (hlist t.i).2 ⟨t, by simp, rfl⟩
            rw [Array.getD_eq_getD_getElem?] at h5
            cases hq : listed[t.i]? with
            | none => rw [hq] at h5; cases h5
            | some b => exact (Array.getElem?_eq_some_iff.1 hq).1
          simp [this]
        · rcases h4 with h4 | ⟨y, hy, hye⟩
          · left
            rw [Array.getD_eq_getD_getElem?, Array.getElem?_setIfInBounds_ne (fun e => hi e.symm), ← Array.getD_eq_getD_getElem?]; exact h4
          · exact .inr ⟨y, (hmem y).2 ⟨hy, by rw [hye]; exact hi⟩, hye⟩
      · exact hsorted.sublist (List.Sublist.map _ (List.Sublist.append_left (List.sublist_cons_self _ _) _))

/-- Edges lead back. -/
def edgesBack (ops : Array Oper) : Bool := (List.range ops.size).all fun i => ((ops[i]?).map fun o => o.after.all fun e => decide (e.on < i)).getD true

theorem vw_region_draw {P : Program} {E : Env} {σ : St} {R : Exit → St → Prop} {id : Nat} {ops : Array Oper} (hm : P.follows .mixedOrders = true) (its : List It) (hi : its.map (·.i) = List.range ops.size)
    (hgood : Good P E ops σ its) (hok : orderOK ops its = true) (hb : edgesBack ops = true) (hR : R .normal (goAll σ its)) : VW P E (.region id ops true) σ R := by
  intro g w a Q hr hq
  refine wp_region_any hm ?_
  have hmem : ∀ i, (∃ t ∈ its, t.i = i) ↔ i < ops.size := by
    intro i
    have : i ∈ its.map (·.i) ↔ i < ops.size := by rw [hi, List.mem_range]
    rw [← this, List.mem_map]
  refine wpAny_good ops.size its _ σ g _ a ?_ (hr.world rfl rfl rfl (Nat.le_refl _) fun _ _ => .inl rfl) hgood hok ?_ ?_ ?_ (fun g' w' a' hr' => hq _ g' w' a' _ hR hr') ?_ ?_
  · have := congrArg List.length hi
    simp at this; omega
  · intro i
    rw [hmem i, Array.getD_eq_getD_getElem?, Array.getElem?_replicate]
    by_cases h : i < ops.size
    · simp [h]
    · simp [h]
  · rw [hi]; exact List.nodup_range
  · intro t ht; exact (hmem t.i).1 ⟨t, ht, rfl⟩
  · intro t ht o ho e he
    have hlt := (hmem t.i).1 ⟨t, ht, rfl⟩
    have hb' := List.all_eq_true.1 hb t.i (List.mem_range.2 hlt)
    rw [ho] at hb'
    simp only [Option.map_some, Option.getD_some, Array.all_eq_true, decide_eq_true_eq] at hb'
    obtain ⟨n, hn, rfl⟩ := Array.mem_iff_getElem.1 he
    have := hb' n hn
    exact ⟨this, .inr ((hmem _).2 (by omega))⟩
  · rw [hi]; exact List.pairwise_lt_range
end Go.Proofs.YtahciphhopiipaaGreatDoor.V
