/- Cuts: of data with a bound on what may grow, of texts. -/
import Derived.Test.YtahciphhopiipaaGreatDoorX2
import Derived.Laws.Strings2
set_option linter.unusedVariables false
set_option linter.unusedSimpArgs false
namespace Go.Proofs.YtahciphhopiipaaGreatDoor.V
open Go Go.RowKit

/-- A cut of a text. -/
theorem step_slice_str {P : Program} {E : Env} {o : Oper} {σ : St} (d : Nat) (t : TypeId) (x : Operand) (lo hi : Option Operand) (lv hv : Option Int) (s : ByteArray) (l hh : Nat) {sh : Bool}
    (ho : o.op = .slice t x lo hi none) (hd : o.dst = some d) (hn : d < E.n) (he : P.underlying t = some .string)
    (hx : opd σ x = .lf (.im sh (.str s))) (h1 : bnd σ lo = some lv) (h2 : bnd σ hi = some hv) (hl : lv.getD 0 = (l : Int)) (hhv : hv.getD (s.size : Int) = (hh : Int)) (hle : l ≤ hh) (hhle : hh ≤ s.size) :
    Step P E o σ (· = upd σ (tk d) (.lf (.im true (.str (s.extract l hh))))) := by
  refine Step.of_run fun g w a h => ?_
  have e1 := opd_str h hx
  refine ⟨.string (s.extract l hh), w, drop (tk d) g, _, .inl ?_, rfl, ?_⟩
  · have hlo : ∀ v, lo = some v → ∃ k, a.eval v = .int k (l : Int) := by
      intro v hv0
      subst hv0
      simp only [bnd] at h1
      split at h1
      · rename_i sh' k n' hop
        cases h1
        simp at hl
        subst hl
        exact ⟨k, opd_int h hop⟩
      · cases h1
    have hlo0 : lo = none → l = 0 := by
      intro hv0; subst hv0; cases h1; simp at hl; omega
    have hhi : ∀ v, hi = some v → ∃ k, a.eval v = .int k (hh : Int) := by
      intro v hv0
      subst hv0
      simp only [bnd] at h2
      split at h2
      · rename_i sh' k n' hop
        cases h2
        simp at hhv
        subst hhv
        exact ⟨k, opd_int h hop⟩
      · cases h2
    have hhi0 : hi = none → hh = s.size := by
      intro hv0; subst hv0; cases h2; simp at hhv; omega
    simp only [execOp, ho, e1, Sem.run_bind]
    rw [Go.run_sliceAt_string w t _ _ _ _ he]
    cases lo with
    | none =>
      have := hlo0 rfl
      subst this
      cases hi with
      | none =>
        have := hhi0 rfl
        subst this
        (try simp only [Option.map_none, Option.map_some]); rw [run_slice_string_all w t s he]; rfl
      | some v =>
        obtain ⟨k, hk⟩ := hhi v rfl
        (try simp only [Option.map_none, Option.map_some]); rw [hk, run_slice_string_h w t s he k hh (by omega) (by omega)]
        simp
    | some u =>
      obtain ⟨k1, hk1⟩ := hlo u rfl
      cases hi with
      | none =>
        have := hhi0 rfl
        subst this
        (try simp only [Option.map_none, Option.map_some]); rw [hk1, run_slice_string_l w t s he k1 l (by omega) (by omega)]
        simp
      | some v =>
        obtain ⟨k, hk⟩ := hhi v rfl
        (try simp only [Option.map_none, Option.map_some]); rw [hk, hk1, run_slice_string w t s k1 k l hh he (by omega) (by omega) (by omega)]
        simp
  · rw [hd]
    exact h.set d _ _ hn fun g' hg' => .str _

/-- A cut of data with a bound on what may grow. -/
theorem step_slice3 {P : Program} {E : Env} {o : Oper} {σ : St} (d : Nat) (t e sz : Nat) (x : Operand) (hi mx : Operand) (rows : List (List SV)) (hh m : Nat) {sh s2 s3 : Bool} {k2 k3 : IntKind}
    (ho : o.op = .slice t x none (some hi) (some mx)) (hd : o.dst = some d) (hn : d < E.n) (he : P.elem t = e ∧ P.underlying t = some (.slice e)) (hz : (P.info? e).map (·.size) = some sz)
    (hx : opd σ x = .lf (.im sh (.sl sz rows))) (h2 : opd σ hi = .lf (.im s2 (.int k2 (hh : Int)))) (h3 : opd σ mx = .lf (.im s3 (.int k3 (m : Int)))) (hle : hh ≤ m) (hhle : m ≤ rows.length) :
    Step P E o σ (· = upd σ (tk d) (.lf (.im sh (.sl sz (rows.take hh))))) := by
  refine Step.of_run fun g w a h => ?_
  have hxr := opd_im h hx
  obtain ⟨ad, n, cap, e1, e2, hcap⟩ := SRep.slice_form hxr
  rw [e1] at hxr
  have hcut := hxr.cut 0 hh m (Nat.zero_le _) (by omega) hle (by omega)
  have hund : P.underlying t = some (.slice (P.elem t)) := by rw [he.1]; exact he.2
  refine ⟨sliced ad 0 hh m sz, w, drop (tk d) g, _, .inl ?_, rfl, ?_⟩
  · have hz' : (sizeOf (P.elem t)).run P w = .ok sz w := by rw [he.1]; exact run_sizeOf hz
    simp only [execOp, ho, e1, Sem.run_bind]
    rw [run_sliceAt_slice w t _ _ _ _ hund]
    simp only [Option.map_none, Option.map_some]
    rw [opd_int h h2, opd_int h h3, run_slice_hm w t ad n cap hund k2 k3 hh m (by omega) (by omega) (by omega), hz']
    simp
  · rw [hd]
    refine h.set d _ _ hn fun g' hg' => ?_
    have := hcut.mono (S' := Imm g' sh) (fun _ _ => rfl) fun b hb => hg' _ _ hb
    show SRep _ _ _ _
    simpa using this

/-- 'append' of nothing to nothing. -/
theorem step_append_nil0 {P : Program} {E : Env} {o : Oper} {σ : St} (d : Nat) (t ty e sz bytes : Nat) (x y : Operand)
    (ho : o.op = .call { callee := .builtin .append, args := #[x, y], argTypes := #[t, t] }) (hty : o.type = ty) (hd : o.dst = some d) (hn : d < E.n) (he : Elem P t e sz bytes)
    (hx : opd σ x = .lf .nil) {shy : Bool} (hy : opd σ y = .lf (.im shy (.sl sz []))) : Step P E o σ (· = upd σ (tk d) (.lf .nil)) := by
  refine Step.of_run fun g w a h => ?_
  have hvx := opd_nil h hx
  have hyr := opd_im h hy
  obtain ⟨ay, m, cy, hvy, hm, hcy⟩ := SRep.slice_form hyr
  obtain ⟨i, z, hi, hz, hsz, hby, hzs⟩ := he.ok
  have hexec : execOp a.eval o = (do pure (Next.value (← Builtin.append_ #[t, t] o.type #[a.eval x, a.eval y])) : Sem Next) := by
    simp [execOp, ho, resolve, invoke, builtin]
  simp at hm
  subst hm
  have hrun := run_append_zero (P := P) (w := w) t o.type e i he.und hi none 0 0 (Nat.le_refl _) ay cy
  refine ⟨.slice none 0 0, w, drop (tk d) g, _, .inl ?_, rfl, by rw [hd]; exact h.set d _ _ hn fun g' hg' => rfl⟩
  rw [hexec, hvx, hvy, Sem.run_bind, hrun]; rfl

theorem Step.turn {P : Program} {E : Env} {o : Oper} {σ : St} {M N : St → Prop} (h : Step P E o σ M) (ht : ∀ τ, M τ → Turn E τ N) : Step P E o σ N :=
  fun g w a next Q hr hn => h g w a next Q hr fun g' w' a' σ' hp hr' => let ⟨g2, τ2, h2, hr2⟩ := ht σ' hp g' w' a' hr'; hn g2 w' a' τ2 h2 hr2

/-- A new owned slice is taken as shared. -/
theorem Step.frozen {P : Program} {E : Env} {o : Oper} {σ : St} {d e sz : Nat} {rows : List (List SV)} (h : Step P E o σ fun τ => ∃ b c, τ = upd σ (tk d) (.lf (.u b c e sz rows))) :
    Step P E o σ (· = upd σ (tk d) (.lf (.im true (.sl sz rows)))) :=
  h.turn fun τ ⟨b, c, e0⟩ => by
    subst e0
    intro g w a hr
    obtain ⟨g', τ', h1, h2⟩ := turn_freeze d b c e sz rows (upd_same ..) g w a hr
    subst h1
    rw [upd_upd] at h2
    exact ⟨g', _, rfl, h2⟩
end Go.Proofs.YtahciphhopiipaaGreatDoor.V
