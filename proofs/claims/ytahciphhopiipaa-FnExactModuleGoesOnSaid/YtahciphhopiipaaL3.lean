/- Whatever two modules it is called with, FnExactModuleGoesOn returns true and leaves them as they were. No condition. -/
import Derived.Test.YtahciphhopiipaaRows
import Derived.Test.YtahciphhopiipaaT3
import Derived.Test.YtahciphhopiipaaY0
import Derived.WalkKit
import Derived.ProofKit
import Derived.OpenShut
import Derived.ShutString
import Derived.ChangeOld
import Derived.SizedLaws
import Derived.KernelRfl
set_option linter.unusedVariables false
namespace Go.Proofs.Ytahciphhopiipaa.fnExactModuleGoesOn
open Go Go.RowKit Go.ChangeShapes Go.WideShapes Go.ChangeAt Go.Proofs.Ytahciphhopiipaa Go.Proofs.Ytahciphhopiipaa.V
open Go.ChangeMaps (open_string shut_string)
open V
theorem rd3 : Rd Try.prog 3 (fun l => ∃ x : Int, okInt x ∧ l = rI x) := (Rd.int Try.underlying3).mono fun l ⟨n, h, e⟩ => ⟨n, h, e⟩
theorem rd9 : Rd Try.prog 9 (fun l => ∃ x : ByteArray, okStr x ∧ l = rS x) := (Rd.str Try.underlying9).mono fun l ⟨n, h, e⟩ => ⟨n, h, e⟩
theorem rd43 : Rd Try.prog 43 (fun l => ∃ x : List ByteArray, okL okStr x ∧ l = (fun xs => [SV.sl 1 (xs.map rS)]) x) :=
  (Rd.list Try.underlying43 (by kernel_rfl) (by decide) (of_decide_eq_true (by kernel_rfl)) rd9).mono fun l ⟨xs, h, e⟩ => ⟨xs, h, e⟩
theorem rd64 : Rd Try.prog 64 (fun l => ∃ x : Rec, Rec.ok x ∧ l = rRec x) := by
  refine (Rd.struct Try.underlying64 (oe := 2) (by kernel_rfl) (.cons (c := 1) rfl rd3 (by kernel_rfl) (.cons (c := 1) rfl rd43 (by kernel_rfl) .nil))).mono ?_
  rintro l (_ | ⟨h0, h⟩)
  rcases h with (_ | ⟨h1, h⟩)
  cases h
  obtain ⟨x0, k0, rfl⟩ := h0
  obtain ⟨x1, k1, rfl⟩ := h1
  exact ⟨⟨x0, x1⟩, okRec k0 k1, rfl⟩
theorem rd22 : Rd Try.prog 22 (fun l => ∃ x : List Rec, okL Rec.ok x ∧ l = (fun xs => [SV.sl 2 (xs.map rRec)]) x) :=
  (Rd.list Try.underlying22 (by kernel_rfl) (by decide) (of_decide_eq_true (by kernel_rfl)) rd64).mono fun l ⟨xs, h, e⟩ => ⟨xs, h, e⟩
theorem rd24 : Rd Try.prog 24 (fun l => ∃ x : List Int, okL okInt x ∧ l = (fun xs => [SV.sl 1 (xs.map rI)]) x) :=
  (Rd.list Try.underlying24 (by kernel_rfl) (by decide) (of_decide_eq_true (by kernel_rfl)) rd3).mono fun l ⟨xs, h, e⟩ => ⟨xs, h, e⟩
theorem rd107 : Rd Try.prog 107 (fun l => ∃ x : Ins, Ins.ok x ∧ l = rIns x) := by
  refine (Rd.struct Try.underlying107 (oe := 3) (by kernel_rfl) (.cons (c := 1) rfl rd9 (by kernel_rfl) (.cons (c := 1) rfl rd3 (by kernel_rfl) (.cons (c := 1) rfl rd3 (by kernel_rfl) .nil)))).mono ?_
  rintro l (_ | ⟨h0, h⟩)
  rcases h with (_ | ⟨h1, h⟩)
  rcases h with (_ | ⟨h2, h⟩)
  cases h
  obtain ⟨x0, k0, rfl⟩ := h0
  obtain ⟨x1, k1, rfl⟩ := h1
  obtain ⟨x2, k2, rfl⟩ := h2
  exact ⟨⟨x0, x1, x2⟩, okIns k0 k1 k2, rfl⟩
theorem rd66 : Rd Try.prog 66 (fun l => ∃ x : List Ins, okL Ins.ok x ∧ l = (fun xs => [SV.sl 3 (xs.map rIns)]) x) :=
  (Rd.list Try.underlying66 (by kernel_rfl) (by decide) (of_decide_eq_true (by kernel_rfl)) rd107).mono fun l ⟨xs, h, e⟩ => ⟨xs, h, e⟩
theorem rd68 : Rd Try.prog 68 (fun l => ∃ x : Fn, Fn.ok x ∧ l = rFn x) := by
  refine (Rd.struct Try.underlying68 (oe := 6) (by kernel_rfl) (.cons (c := 1) rfl rd3 (by kernel_rfl) (.cons (c := 1) rfl rd43 (by kernel_rfl) (.cons (c := 1) rfl rd43 (by kernel_rfl) (.cons (c := 1) rfl rd43 (by kernel_rfl) (.cons (c := 1) rfl rd24 (by kernel_rfl) (.cons (c := 1) rfl rd66 (by kernel_rfl) .nil))))))).mono ?_
  rintro l (_ | ⟨h0, h⟩)
  rcases h with (_ | ⟨h1, h⟩)
  rcases h with (_ | ⟨h2, h⟩)
  rcases h with (_ | ⟨h3, h⟩)
  rcases h with (_ | ⟨h4, h⟩)
  rcases h with (_ | ⟨h5, h⟩)
  cases h
  obtain ⟨x0, k0, rfl⟩ := h0
  obtain ⟨x1, k1, rfl⟩ := h1
  obtain ⟨x2, k2, rfl⟩ := h2
  obtain ⟨x3, k3, rfl⟩ := h3
  obtain ⟨x4, k4, rfl⟩ := h4
  obtain ⟨x5, k5, rfl⟩ := h5
  exact ⟨⟨x0, x1, x2, x3, x4, x5⟩, okFn k0 k1 k2 k3 k4 k5, rfl⟩
theorem rd23 : Rd Try.prog 23 (fun l => ∃ x : List Fn, okL Fn.ok x ∧ l = (fun xs => [SV.sl 6 (xs.map rFn)]) x) :=
  (Rd.list Try.underlying23 (by kernel_rfl) (by decide) (of_decide_eq_true (by kernel_rfl)) rd68).mono fun l ⟨xs, h, e⟩ => ⟨xs, h, e⟩
theorem rd26 : Rd Try.prog 26 (fun l => ∃ x : Mod, Mod.ok x ∧ l = rMod x) := by
  refine (Rd.struct Try.underlying26 (oe := 3) (by kernel_rfl) (.cons (c := 1) rfl rd22 (by kernel_rfl) (.cons (c := 1) rfl rd23 (by kernel_rfl) (.cons (c := 1) rfl rd24 (by kernel_rfl) .nil)))).mono ?_
  rintro l (_ | ⟨h0, h⟩)
  rcases h with (_ | ⟨h1, h⟩)
  rcases h with (_ | ⟨h2, h⟩)
  cases h
  obtain ⟨x0, k0, rfl⟩ := h0
  obtain ⟨x1, k1, rfl⟩ := h1
  obtain ⟨x2, k2, rfl⟩ := h2
  exact ⟨⟨x0, x1, x2⟩, okMod k0 k1 k2, rfl⟩
theorem own : ownKnob Try.prog.godebug = none := by kernel_rfl
theorem laidOut : laidOutB Try.prog = true := by kernel_rfl
set_option maxRecDepth 100000 in
theorem lifted (os : Os) (started : os.Started) (H : Type) (enc : TypeId × Value → H) :
    ReturnsInHanded {} Try.checked os 3 .any (Rows.fnExactModuleGoesOnSpec.pre6 enc Try.prog Try.f3 Rows.fnExactModuleGoesOnRow.domain false) (Rows.fnExactModuleGoesOnSpec.post enc Try.prog Try.f3 false true false false) := by
  refine returnsInHanded_of_change_sized (C := Try.checked) own started (by kernel_rfl) Try.func3
    (ChangeSpec.witness6 (enc := enc) (C := Try.checked) false ⟨#[], #[.agg #[(.slice none 0 0), (.slice none 0 0), (.slice none 0 0)], .agg #[(.slice none 0 0), (.slice none 0 0), (.slice none 0 0)]], []⟩ 8 (by kernel_rfl) (by kernel_rfl) (by kernel_rfl) (by kernel_rfl)) ?_
  intro W base args ds gs before hval0 hW hcnd hsz0 _
  have hsz : (DataW.weightsEach Try.prog (Try.f3.params.toList ++ Rows.fnExactModuleGoesOnSpec.plain.varTypes Try.prog) (ds ++ gs)).all (· ≤ reachBytes) = true := hsz0
  have hval : ∀ (j : Nat) t v, Try.f3.params[j]? = some t → args[j]? = some v → Value.okWide Try.prog W .any base t v := hval0
  have hW' := hW
  obtain ⟨p, q, hA0, hV, rfl, hfz, hnd⟩ := hW
  have hA : DataW.TrodAll enc Try.prog W 0 (fun _ => true) true Try.f3.params.toList args.toList ds p := hA0
  rw [Try.params3] at hA hval hsz
  obtain ⟨v0, vs0, d0, ds0, p0, q0, hargs, rfl, rfl, h0, r0⟩ := trodAll_cons hA
  obtain ⟨v1, vs1, d1, ds1, p1, q1, rfl, rfl, rfl, h1, r1⟩ := trodAll_cons r0
  obtain ⟨rfl, rfl, rfl⟩ := trodAll_nil r1
  obtain rfl : args = #[v0, v1] := by cases args; simp_all
  obtain ⟨rfl, rfl⟩ := trodVars_none hV
  have k0 := h0
  have lt0 : ∀ x ∈ p0, x.block < W.heap.size := by obtain ⟨m, hm⟩ := k0; exact DataW.trod_lt m _ _ _ hm
  obtain ⟨l0, ⟨a, ka, e0⟩, a0⟩ := Rd.agg rd26 Try.underlying26 (hval 0 26 v0 rfl rfl) h0 (weights_at hsz 0 rfl rfl)
  subst e0
  have k1 := h1
  have lt1 : ∀ x ∈ p1, x.block < W.heap.size := by obtain ⟨m, hm⟩ := k1; exact DataW.trod_lt m _ _ _ hm
  obtain ⟨l1, ⟨b, kb, e1⟩, a1⟩ := Rd.agg rd26 Try.underlying26 (hval 1 26 v1 rfl rfl) h1 (weights_at hsz 1 rfl rfl)
  subst e1
  clear hA0 hval0 hsz0 hsz
  refine (law_calls (args := [.agg ((rMod a).map (Leaf.im true)), .agg ((rMod b).map (Leaf.im true))]) (law_v a b ka kb) W trivial #[v0, v1] rfl (args2 a0 a1)).mono fun e W' ⟨he, bel⟩ => ?_
  subst he
  exact ⟨_, rfl, _, _, _, [], _, [], hW', trodAll_mk1 (shut_bool Try.underlying4 _), (trodAll_cons_mk (Below.trod laidOut (by kernel_rfl) (of_decide_eq_true (by kernel_rfl)) k0 bel lt0) (trodAll_cons_mk (Below.trod laidOut (by kernel_rfl) (of_decide_eq_true (by kernel_rfl)) k1 bel lt1) trodAll_mk0)), rfl, bel.frame _, fun h => by cases h⟩
theorem over : Rows.fnExactModuleGoesOnRow.holds Try.pinned (OpenSpec.ofChange Rows.fnExactModuleGoesOnSpec) :=
  OpenClaim.holds_of_wide 3 Try.f3 rfl rfl rfl rfl rfl rfl rfl ⟨rfl, rfl, rfl, rfl, rfl⟩ rfl rfl rfl rfl rfl (by kernel_rfl) Try.func3 (by kernel_rfl)
    (of_decide_eq_true (by kernel_rfl)) (by unfold Func.isWrapper; first | (rw [if_pos (by decide +kernel)]; kernel_rfl) | (rw [if_neg (by decide +kernel)]; exact ⟨rfl, rfl⟩))
    (fun os started H enc _ => lifted os started H enc)
theorem proved : Rows.FnExactModuleGoesOnSaid := over
end Go.Proofs.Ytahciphhopiipaa.fnExactModuleGoesOn
namespace Go.Proofs.Ytahciphhopiipaa
/-- The row, under a short name, for the claim. -/
theorem fnExactModuleGoesOn_holds : Rows.FnExactModuleGoesOnSaid := fnExactModuleGoesOn.proved
#print axioms fnExactModuleGoesOn_holds
end Go.Proofs.Ytahciphhopiipaa
