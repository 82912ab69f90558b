/- Code: regions, sequences, tests, loops. -/
import Derived.Test.YtahciphhopiipaaGreatDoorV6
set_option linter.unusedVariables false
set_option linter.unusedSimpArgs false
namespace Go.Proofs.YtahciphhopiipaaGreatDoor.V
open Go

/-- What is known may be said otherwise, without an operation. -/
def Turn (E : Env) (σ : St) (R : St → Prop) : Prop := ∀ g w a, Rel E g w a σ → ∃ g' τ, R τ ∧ Rel E g' w a τ

theorem Turn.weaken {E : Env} {σ τ : St} (h : ∀ k, τ k = σ k ∨ τ k = Slot.hole) : Turn E σ (· = τ) := fun g w a hr => ⟨g, τ, rfl, hr.weaken h⟩

/-- Operations of a region, in an order. -/
def OpsW (P : Program) (E : Env) (ops : Array Oper) (l : List Nat) (σ : St) (R : St → Prop) : Prop :=
  ∀ g w a (Q : Exit → Act → World → Prop), Rel E g w a σ → (∀ g' w' a' τ, R τ → Rel E g' w' a' τ → Q .normal a' w') → wpOps P ops Q l a w

theorem ops_nil {P : Program} {E : Env} {ops : Array Oper} {σ : St} {R : St → Prop} (h : R σ) : OpsW P E ops [] σ R := fun g w a Q hr hq => hq g w a σ h hr

theorem ops_turn {P : Program} {E : Env} {ops : Array Oper} {l : List Nat} {σ : St} {R M : St → Prop} (ht : Turn E σ M) (h : ∀ τ, M τ → OpsW P E ops l τ R) : OpsW P E ops l σ R :=
  fun g w a Q hr hq => let ⟨g', τ, hm, hr'⟩ := ht g w a hr; h τ hm g' w a Q hr' hq

theorem ops_step {P : Program} {E : Env} {ops : Array Oper} {i : Nat} {l : List Nat} {σ : St} {R M : St → Prop} {o : Oper} (ho : ops[i]? = some o) (hg : o.guard = none)
    (hs : Step P E o σ M) (h : ∀ τ, M τ → OpsW P E ops l τ R) : OpsW P E ops (i :: l) σ R := by
  intro g w a Q hr hq
  simp only [wpOps, ho]
  rw [if_pos (by simp [Region.wanted, hg])]
  exact .inl (hs g w a _ Q hr fun g' w' a' τ hm hr' => h τ hm g' w' a' Q hr' hq)

/-- One state behind the operation. -/
theorem ops_one {P : Program} {E : Env} {ops : Array Oper} {i : Nat} {l : List Nat} {σ τ : St} {R : St → Prop} {o : Oper} (ho : ops[i]? = some o) (hg : o.guard = none)
    (hs : Step P E o σ (· = τ)) (h : OpsW P E ops l τ R) : OpsW P E ops (i :: l) σ R := ops_step ho hg hs fun _ e => e ▸ h

theorem yielded_eq {E : Env} {g : Nat → Tag} {w : World} {a : Act} {σ : St} (h : Rel E g w a σ) {ops : Array Oper} {j d : Nat} {oj : Oper} {b sh : Bool} (hj : ops[j]? = some oj) (hd : oj.dst = some d)
    (hn : d < E.n) (hs : σ (tk d) = .lf (.im sh (.bool b))) : yielded ops a.tmps j = some b := by
  have e := opd_bool h (x := .tmp d) hs
  have e2 : a.tmps.getD d undef = .bool b := e
  have hlt : d < a.tmps.size := by rw [h.many]; exact hn
  have e3 : a.tmps[d]? = some (.bool b) := by
    rw [Array.getElem?_eq_getElem hlt]
    rw [Array.getD_eq_getD_getElem?, Array.getElem?_eq_getElem hlt] at e2
    simpa using e2
  simp [yielded, hj, hd, e3]

theorem ops_guard {P : Program} {E : Env} {ops : Array Oper} {i j d : Nat} {l : List Nat} {σ : St} {R M : St → Prop} {o oj : Oper} {want b sh : Bool} (ho : ops[i]? = some o) (hg : o.guard = some (j, want))
    (hj : ops[j]? = some oj) (hd : oj.dst = some d) (hn : d < E.n) (hs : σ (tk d) = .lf (.im sh (.bool b))) (hb : b = want)
    (hst : Step P E o σ M) (h : ∀ τ, M τ → OpsW P E ops l τ R) : OpsW P E ops (i :: l) σ R := by
  intro g w a Q hr hq
  simp only [wpOps, ho]
  rw [if_pos (by simp [Region.wanted, hg, yielded_eq hr hj hd hn hs, hb])]
  exact .inl (hst g w a _ Q hr fun g' w' a' τ hm hr' => h τ hm g' w' a' Q hr' hq)

/-- What a guard's place holds where the operation behind it is not done. -/
def Skips (want : Bool) : Slot → Prop
  | .one (.lf (.im _ (.bool b))) => b = !want
  | .tup [] => True
  | _ => False
theorem yielded_ne {E : Env} {g : Nat → Tag} {w : World} {a : Act} {σ : St} (h : Rel E g w a σ) {ops : Array Oper} {j d : Nat} {oj : Oper} {want : Bool} (hj : ops[j]? = some oj) (hd : oj.dst = some d)
    (hn : d < E.n) (hs : Skips want (σ (tk d))) : (yielded ops a.tmps j == some want) = false := by
  unfold Skips at hs
  split at hs
  · rename_i sh b e
    rw [yielded_eq h hj hd hn e, hs]
    cases want <;> rfl
  · rename_i e
    have h1 := h.slot d
    rw [e] at h1
    obtain ⟨vs, h2, h3, -⟩ := h1
    have hlt : d < a.tmps.size := by rw [h.many]; exact hn
    have e3 : a.tmps[d]? = some (.tuple vs) := by
      rw [Array.getElem?_eq_getElem hlt]
      rw [Array.getD_eq_getD_getElem?, Array.getElem?_eq_getElem hlt] at h2
      simpa using h2
    simp [yielded, hj, hd, e3]
  · exact hs.elim
theorem Rel.skipTo {E : Env} {g : Nat → Tag} {w : World} {a : Act} {σ : St} (hr : Rel E g w a σ) (e : Nat) : Rel E (drop (tk e) g) w (a.put (some e) undef) (upd σ (tk e) (.tup [])) := by
  have h := ((hr.forget (tk e)).act e undef (upd_same ..)).putSlot e (.tup []) ?_
  · rwa [upd_upd] at h
  · have e1 : (a.put (some e) undef).tmps.getD e undef = undef := by
      simp only [Act.put, Array.getD_eq_getD_getElem?]
      rw [Array.getElem?_setIfInBounds]
      simp
      split <;> simp
    rw [e1]
    exact ⟨#[], rfl, rfl, fun i p x h => by simp at h⟩
theorem ops_skip {P : Program} {E : Env} {ops : Array Oper} {i j d : Nat} {l : List Nat} {σ : St} {R : St → Prop} {o oj : Oper} {want : Bool} (ho : ops[i]? = some o) (hg : o.guard = some (j, want))
    (hj : ops[j]? = some oj) (hd : oj.dst = some d) (hn : d < E.n) (hs : Skips want (σ (tk d))) (e : Nat) (hde : o.dst = some e)
    (h : OpsW P E ops l (upd σ (tk e) (.tup [])) R) : OpsW P E ops (i :: l) σ R := by
  intro g w a Q hr hq
  simp only [wpOps, ho]
  rw [if_neg (by simp only [Region.wanted, hg, yielded_ne hr hj hd hn hs]; exact Bool.false_ne_true), hde]
  exact h _ w _ Q (hr.skipTo e) hq

/-- Code at a state. -/
def VW (P : Program) (E : Env) (c : Code) (σ : St) (R : Exit → St → Prop) : Prop :=
  ∀ g w a (Q : Exit → Act → World → Prop), Rel E g w a σ → (∀ e g' w' a' τ, R e τ → Rel E g' w' a' τ → Q e a' w') → c.wp P Q a w

theorem vw_turn {P : Program} {E : Env} {c : Code} {σ : St} {R : Exit → St → Prop} {M : St → Prop} (ht : Turn E σ M) (h : ∀ τ, M τ → VW P E c τ R) : VW P E c σ R :=
  fun g w a Q hr hq => let ⟨g', τ, hm, hr'⟩ := ht g w a hr; h τ hm g' w a Q hr' hq

theorem VW.mono {P : Program} {E : Env} {c : Code} {σ : St} {R R' : Exit → St → Prop} (h : VW P E c σ R) (hR : ∀ e τ, R e τ → R' e τ) : VW P E c σ R' :=
  fun g w a Q hr hq => h g w a Q hr fun e g' w' a' τ hrr hr' => hq e g' w' a' τ (hR e τ hrr) hr'

theorem vw_skip {P : Program} {E : Env} {σ : St} {R : Exit → St → Prop} (h : R .normal σ) : VW P E .skip σ R := fun g w a Q hr hq => wp_skip (hq _ g w a σ h hr)
theorem vw_ret {P : Program} {E : Env} {σ : St} {R : Exit → St → Prop} (h : R .ret σ) : VW P E .ret σ R := fun g w a Q hr hq => wp_ret (hq _ g w a σ h hr)
theorem vw_exit {P : Program} {E : Env} {σ : St} {R : Exit → St → Prop} {id : Nat} (h : R (.exit id) σ) : VW P E (.exit id) σ R := fun g w a Q hr hq => wp_exit (hq _ g w a σ h hr)

theorem vw_region {P : Program} {E : Env} {σ : St} {R : Exit → St → Prop} {id : Nat} {ops : Array Oper} (h : OpsW P E ops (List.range ops.size) σ (R .normal)) : VW P E (.region id ops false) σ R :=
  fun g w a Q hr hq => wp_region (h g w a Q hr fun g' w' a' τ hm hr' => hq _ g' w' a' τ hm hr')

/-- What a sequence's first part may end with. -/
def seqR (next : St → Prop) (R : Exit → St → Prop) : Exit → St → Prop
  | .normal, τ => next τ
  | e, τ => R e τ

theorem vw_seq {P : Program} {E : Env} {x y : Code} {σ : St} {R : Exit → St → Prop} (h : VW P E x σ (seqR (fun τ => VW P E y τ R) R)) : VW P E (.seq x y) σ R := by
  intro g w a Q hr hq
  refine wp_seq (h g w a _ hr ?_)
  intro e g' w' a' τ hm hr'
  cases e with
  | normal => exact hm g' w' a' Q hr' hq
  | exit id => exact hq _ g' w' a' τ hm hr'
  | goto l => exact hq _ g' w' a' τ hm hr'
  | ret => exact hq _ g' w' a' τ hm hr'
  | panic c => exact hq _ g' w' a' τ hm hr'
  | outgrown => exact hq _ g' w' a' τ hm hr'

theorem vw_cond {P : Program} {E : Env} {c : Operand} {x y : Code} {σ : St} {R : Exit → St → Prop} {b sh : Bool} (hc : opd σ c = .lf (.im sh (.bool b)))
    (ht : b = true → VW P E x σ R) (hf : b = false → VW P E y σ R) : VW P E (.cond c x y) σ R := by
  intro g w a Q hr hq
  refine wp_cond (opd_bool hr hc) ?_
  cases b with
  | true => exact ht rfl g w a Q hr hq
  | false => exact hf rfl g w a Q hr hq

def blockR (id : Nat) (R : Exit → St → Prop) : Exit → St → Prop
  | .exit i, τ => if i = id then R .normal τ else R (.exit i) τ
  | e, τ => R e τ

theorem vw_block {P : Program} {E : Env} {id : Nat} {c : Code} {σ : St} {R : Exit → St → Prop} (h : VW P E c σ (blockR id R)) : VW P E (.block id c) σ R := by
  intro g w a Q hr hq
  refine wp_block (h g w a _ hr ?_)
  intro e g' w' a' τ hm hr'
  cases e with
  | exit i =>
    by_cases e : i = id
    · simp only [blockR, e, if_true] at hm
      simp only [Exit.inBlock, e, if_true]
      exact hq _ g' w' a' τ hm hr'
    · simp only [blockR, e, if_false] at hm
      simp only [Exit.inBlock, e, if_false]
      exact hq _ g' w' a' τ hm hr'
  | normal => exact hq _ g' w' a' τ hm hr'
  | goto l => exact hq _ g' w' a' τ hm hr'
  | ret => exact hq _ g' w' a' τ hm hr'
  | panic c => exact hq _ g' w' a' τ hm hr'
  | outgrown => exact hq _ g' w' a' τ hm hr'

theorem vw_loop {P : Program} {E : Env} {c : Code} {σ : St} {R : Exit → St → Prop} (I : Nat → St → Prop) (n : Nat) (h0 : I n σ)
    (round : ∀ n τ, I n τ → VW P E c τ (seqR (fun τ' => ∃ m, m < n ∧ I m τ') R)) : VW P E (.loop c) σ R := by
  intro g w a Q hr hq
  refine wp_loop_ghost (fun n a w => ∃ g τ, I n τ ∧ Rel E g w a τ) n ⟨g, σ, h0, hr⟩ ?_
  rintro n a w ⟨g, τ, hi, hr⟩
  refine round n τ hi g w a _ hr ?_
  intro e g' w' a' τ' hm hr'
  cases e with
  | normal => obtain ⟨m, hm, hi⟩ := hm; exact ⟨m, hm, g', τ', hi, hr'⟩
  | exit id => exact hq _ g' w' a' τ' hm hr'
  | goto l => exact hq _ g' w' a' τ' hm hr'
  | ret => exact hq _ g' w' a' τ' hm hr'
  | panic c => exact hq _ g' w' a' τ' hm hr'
  | outgrown => exact hq _ g' w' a' τ' hm hr'
end Go.Proofs.YtahciphhopiipaaGreatDoor.V
