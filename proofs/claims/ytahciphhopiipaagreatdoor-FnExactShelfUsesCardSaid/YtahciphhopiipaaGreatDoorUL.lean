/- Whatever shelf and number it is called with, FnExactShelfUses returns true and leaves them as they were. Condition: strings.asciiSpace and unicode.White_Space begin as the program lays them (the card ties that). -/
import Derived.Test.YtahciphhopiipaaGreatDoorRows
import Derived.Test.YtahciphhopiipaaGreatDoorCards
import Derived.Test.YtahciphhopiipaaGreatDoorTie
import Derived.Test.YtahciphhopiipaaGreatDoorR3
import Derived.Test.YtahciphhopiipaaGreatDoorY0
import Derived.WalkKit
import Derived.ProofKit
import Derived.OpenShut
import Derived.ShutString
import Derived.ChangeOld
import Derived.SizedLaws
import Derived.KernelRfl
import Derived.LaidMore
import Derived.Stop.Joined
import Derived.Lib.LaidU8
import Derived.SevenTiedAt
set_option linter.unusedVariables false
namespace Go.Proofs.YtahciphhopiipaaGreatDoor.fnExactShelfUses
open Go Go.RowKit Go.ChangeShapes Go.WideShapes Go.ChangeAt Go.Proofs.YtahciphhopiipaaGreatDoor Go.Proofs.YtahciphhopiipaaGreatDoor.V
open Go.ChangeMaps (open_string shut_string)
open V
theorem rd3 : Rd Tryz.prog 3 (fun l => ∃ x : Int, okInt x ∧ l = rI x) := (Rd.int Tryz.underlying3).mono fun l ⟨n, h, e⟩ => ⟨n, h, e⟩
theorem rd9 : Rd Tryz.prog 9 (fun l => ∃ x : ByteArray, okStr x ∧ l = rS x) := (Rd.str Tryz.underlying9).mono fun l ⟨n, h, e⟩ => ⟨n, h, e⟩
theorem rd64 : Rd Tryz.prog 64 (fun l => ∃ x : List ByteArray, okL okStr x ∧ l = (fun xs => [SV.sl 1 (xs.map rS)]) x) :=
  (Rd.list Tryz.underlying64 (by kernel_rfl) (by decide) (of_decide_eq_true (by kernel_rfl)) rd9).mono fun l ⟨xs, h, e⟩ => ⟨xs, h, e⟩
theorem rd108 : Rd Tryz.prog 108 (fun l => ∃ x : Rec, Rec.ok x ∧ l = rRec x) := by
  refine (Rd.struct Tryz.underlying108 (oe := 2) (by kernel_rfl) (.cons (c := 1) rfl rd3 (by kernel_rfl) (.cons (c := 1) rfl rd64 (by kernel_rfl) .nil))).mono ?_
  rintro l (_ | ⟨h0, h⟩)
  rcases h with (_ | ⟨h1, h⟩)
  cases h
  obtain ⟨x0, k0, rfl⟩ := h0
  obtain ⟨x1, k1, rfl⟩ := h1
  exact ⟨⟨x0, x1⟩, okRec k0 k1, rfl⟩
theorem rd44 : Rd Tryz.prog 44 (fun l => ∃ x : List Rec, okL Rec.ok x ∧ l = (fun xs => [SV.sl 2 (xs.map rRec)]) x) :=
  (Rd.list Tryz.underlying44 (by kernel_rfl) (by decide) (of_decide_eq_true (by kernel_rfl)) rd108).mono fun l ⟨xs, h, e⟩ => ⟨xs, h, e⟩
theorem rd24 : Rd Tryz.prog 24 (fun l => ∃ x : List Int, okL okInt x ∧ l = (fun xs => [SV.sl 1 (xs.map rI)]) x) :=
  (Rd.list Tryz.underlying24 (by kernel_rfl) (by decide) (of_decide_eq_true (by kernel_rfl)) rd3).mono fun l ⟨xs, h, e⟩ => ⟨xs, h, e⟩
theorem rd142 : Rd Tryz.prog 142 (fun l => ∃ x : Ins, Ins.ok x ∧ l = rIns x) := by
  refine (Rd.struct Tryz.underlying142 (oe := 3) (by kernel_rfl) (.cons (c := 1) rfl rd9 (by kernel_rfl) (.cons (c := 1) rfl rd3 (by kernel_rfl) (.cons (c := 1) rfl rd3 (by kernel_rfl) .nil)))).mono ?_
  rintro l (_ | ⟨h0, h⟩)
  rcases h with (_ | ⟨h1, h⟩)
  rcases h with (_ | ⟨h2, h⟩)
  cases h
  obtain ⟨x0, k0, rfl⟩ := h0
  obtain ⟨x1, k1, rfl⟩ := h1
  obtain ⟨x2, k2, rfl⟩ := h2
  exact ⟨⟨x0, x1, x2⟩, okIns k0 k1 k2, rfl⟩
theorem rd110 : Rd Tryz.prog 110 (fun l => ∃ x : List Ins, okL Ins.ok x ∧ l = (fun xs => [SV.sl 3 (xs.map rIns)]) x) :=
  (Rd.list Tryz.underlying110 (by kernel_rfl) (by decide) (of_decide_eq_true (by kernel_rfl)) rd142).mono fun l ⟨xs, h, e⟩ => ⟨xs, h, e⟩
theorem rd112 : Rd Tryz.prog 112 (fun l => ∃ x : Fn, Fn.ok x ∧ l = rFn x) := by
  refine (Rd.struct Tryz.underlying112 (oe := 6) (by kernel_rfl) (.cons (c := 1) rfl rd3 (by kernel_rfl) (.cons (c := 1) rfl rd64 (by kernel_rfl) (.cons (c := 1) rfl rd64 (by kernel_rfl) (.cons (c := 1) rfl rd64 (by kernel_rfl) (.cons (c := 1) rfl rd24 (by kernel_rfl) (.cons (c := 1) rfl rd110 (by kernel_rfl) .nil))))))).mono ?_
  rintro l (_ | ⟨h0, h⟩)
  rcases h with (_ | ⟨h1, h⟩)
  rcases h with (_ | ⟨h2, h⟩)
  rcases h with (_ | ⟨h3, h⟩)
  rcases h with (_ | ⟨h4, h⟩)
  rcases h with (_ | ⟨h5, h⟩)
  cases h
  obtain ⟨x0, k0, rfl⟩ := h0
  obtain ⟨x1, k1, rfl⟩ := h1
  obtain ⟨x2, k2, rfl⟩ := h2
  obtain ⟨x3, k3, rfl⟩ := h3
  obtain ⟨x4, k4, rfl⟩ := h4
  obtain ⟨x5, k5, rfl⟩ := h5
  exact ⟨⟨x0, x1, x2, x3, x4, x5⟩, okFn k0 k1 k2 k3 k4 k5, rfl⟩
theorem rd45 : Rd Tryz.prog 45 (fun l => ∃ x : List Fn, okL Fn.ok x ∧ l = (fun xs => [SV.sl 6 (xs.map rFn)]) x) :=
  (Rd.list Tryz.underlying45 (by kernel_rfl) (by decide) (of_decide_eq_true (by kernel_rfl)) rd112).mono fun l ⟨xs, h, e⟩ => ⟨xs, h, e⟩
theorem rd47 : Rd Tryz.prog 47 (fun l => ∃ x : Mod, Mod.ok x ∧ l = rMod x) := by
  refine (Rd.struct Tryz.underlying47 (oe := 3) (by kernel_rfl) (.cons (c := 1) rfl rd44 (by kernel_rfl) (.cons (c := 1) rfl rd45 (by kernel_rfl) (.cons (c := 1) rfl rd24 (by kernel_rfl) .nil)))).mono ?_
  rintro l (_ | ⟨h0, h⟩)
  rcases h with (_ | ⟨h1, h⟩)
  rcases h with (_ | ⟨h2, h⟩)
  cases h
  obtain ⟨x0, k0, rfl⟩ := h0
  obtain ⟨x1, k1, rfl⟩ := h1
  obtain ⟨x2, k2, rfl⟩ := h2
  exact ⟨⟨x0, x1, x2⟩, okMod k0 k1 k2, rfl⟩
theorem rd22 : Rd Tryz.prog 22 (fun l => ∃ x : List Mod, okL Mod.ok x ∧ l = (fun xs => [SV.sl 3 (xs.map rMod)]) x) :=
  (Rd.list Tryz.underlying22 (by kernel_rfl) (by decide) (of_decide_eq_true (by kernel_rfl)) rd47).mono fun l ⟨xs, h, e⟩ => ⟨xs, h, e⟩
theorem own : ownKnob Tryz.prog.godebug = none := by kernel_rfl
theorem laidOut : laidOutB Tryz.prog = true := by kernel_rfl
theorem gTab : Tryz.prog.globalNamed "strings.asciiSpace" = some 0 := by kernel_rfl
/-- The door's own heap meets the condition. -/
theorem door_met (os : Os) (args : Array Value) : laidMetH Tryz.prog Rows.fnExactShelfUsesRow.laid ((World.doorLaid Tryz.prog 3000 os).forCall (fun _ _ => 0) ⟨#[], args, []⟩).memory :=
  laidMetH_of_parts3 (fuel := 8) (laidMet_of_run' 8 (by kernel_rfl) (by kernel_rfl)) (by kernel_rfl) (by kernel_rfl)
theorem of_laid {W : World} (h : laidMetH Tryz.prog Rows.fnExactShelfUsesRow.laid W) : V.Lw W := by
  rw [MakeChecks.laidMetH_plain _ _ _ (by kernel_rfl)] at h
  obtain ⟨g, t, cs, fuel, p, hg, ht, hv, hd⟩ := Lib.laidMet.reads h (n := "strings.asciiSpace") (d := Lib.tabData .u8 Lib.asciiSpaceTab) (by exact List.mem_cons_of_mem _ (List.mem_cons.2 (.inl (by kernel_rfl))))
  obtain rfl := Option.some.inj (gTab.symm.trans hg)
  have hty : (Tryz.prog.globals[0]?).map (·.type) = some 179 := by kernel_rfl
  obtain rfl := Option.some.inj (hty.symm.trans ht)
  have htab : Lib.TabIs Tryz.prog W "strings.asciiSpace" .u8 Lib.asciiSpaceTab := by
    unfold Lib.TabIs
    rw [hv, ← Lib.cells_of_tab Tryz.underlying179 Tryz.underlying5 (by kernel_rfl) (by kernel_rfl) hd]
  intro c hc
  rw [htab.cell gTab c (by rw [Lib.asciiSpaceTab_length]; exact hc), Lib.asciiSpaceTab_at c hc]
set_option maxRecDepth 100000 in
theorem lifted (os : Os) (started : os.Started) (H : Type) (enc : TypeId × Value → H) :
    ReturnsInHanded {} Tryz.checked os 3 .any (fun w args => (Rows.fnExactShelfUsesSpec.pre enc Tryz.prog Tryz.f3 [] false w args ∧ laidMetH Tryz.prog Rows.fnExactShelfUsesRow.laid w) ∧ sizedMet enc Tryz.prog Tryz.f3 (OpenSpec.ofChange Rows.fnExactShelfUsesSpec) false w args)
      (Rows.fnExactShelfUsesSpec.post enc Tryz.prog Tryz.f3 false true false false) := by
  refine returnsInHanded_of_change_and (C := Tryz.checked) (X := fun w _ => laidMetH Tryz.prog Rows.fnExactShelfUsesRow.laid w) (fun _ _ _ hh h => h.of_heap hh) own started (by kernel_rfl) Tryz.func3
    (ChangeSpec.witness_shaped (enc := enc) (C := Tryz.checked) (os := os) (X := fun w _ => laidMetH Tryz.prog Rows.fnExactShelfUsesRow.laid w) false (World.doorLaid Tryz.prog 3000 os) #[.slice none 0 0, .int .i64 0] 8 rfl (World.shaped_of_RefB (by kernel_rfl) (by kernel_rfl)) (by kernel_rfl) (by kernel_rfl) (by kernel_rfl) (door_met os _)) ?_
  intro W base args ds gs before hval0 hW hcnd hsz0 hL _
  have hsz : (DataW.weightsEach Tryz.prog (Tryz.f3.params.toList ++ Rows.fnExactShelfUsesSpec.plain.varTypes Tryz.prog) (ds ++ gs)).all (· ≤ reachBytes) = true := hsz0
  have hval : ∀ (j : Nat) t v, Tryz.f3.params[j]? = some t → args[j]? = some v → Value.okWide Tryz.prog W .any base t v := hval0
  have hW' := hW
  obtain ⟨p, q, hA0, hV, rfl, hfz, hnd⟩ := hW
  have hA : DataW.TrodAll enc Tryz.prog W 0 (fun _ => true) true Tryz.f3.params.toList args.toList ds p := hA0
  rw [Tryz.params3] at hA hval hsz
  obtain ⟨v0, vs0, d0, ds0, p0, q0, hargs, rfl, rfl, h0, r0⟩ := trodAll_cons hA
  obtain ⟨v1, vs1, d1, ds1, p1, q1, rfl, rfl, rfl, h1, r1⟩ := trodAll_cons r0
  obtain ⟨rfl, rfl, rfl⟩ := trodAll_nil r1
  obtain rfl : args = #[v0, v1] := by cases args; simp_all
  obtain ⟨rfl, rfl⟩ := trodVars_none hV
  have k0 := h0
  have lt0 : ∀ x ∈ p0, x.block < W.heap.size := by obtain ⟨m, hm⟩ := k0; exact DataW.trod_lt m _ _ _ hm
  obtain ⟨l0, ⟨l0, m0, e0⟩, a0⟩ := Rd.one rd22 (cells_slice Tryz.underlying22 (hval 0 22 v0 rfl rfl)) h0 (weights_at hsz 0 rfl rfl)
  cases e0
  have k1 := h1
  have lt1 : ∀ x ∈ p1, x.block < W.heap.size := by obtain ⟨m, hm⟩ := k1; exact DataW.trod_lt m _ _ _ hm
  obtain ⟨l1, ⟨l1, m1, e1⟩, a1⟩ := Rd.one rd3 (cells_int Tryz.underlying3 (hval 1 3 v1 rfl rfl)) h1 (weights_at hsz 1 rfl rfl)
  cases e1
  clear hA0 hval0 hsz0 hsz
  have a1n : SRep _ W v1 (.int .i64 l1) := a1
  obtain rfl := a1n.num
  refine (law_uses l0 l1 (okLen m0) m0.2 W (of_laid hL) v0 a0).mono fun e W' ⟨he, bel⟩ => ?_
  subst he
  exact ⟨_, rfl, _, _, _, [], _, [], hW', trodAll_mk1 (shut_bool Tryz.underlying4 _), (trodAll_cons_mk (Below.trod laidOut (by kernel_rfl) (of_decide_eq_true (by kernel_rfl)) k0 bel lt0) (trodAll_cons_mk (Below.trod laidOut (by kernel_rfl) (of_decide_eq_true (by kernel_rfl)) k1 bel lt1) trodAll_mk0)), rfl, bel.frame _, fun h => by cases h⟩
theorem over : Rows.fnExactShelfUsesRow.holds Tryz.pinned (OpenSpec.ofChange Rows.fnExactShelfUsesSpec) :=
  OpenClaim.holds_of_wide 3 Tryz.f3 rfl rfl rfl rfl rfl rfl rfl ⟨rfl, rfl, rfl, rfl, rfl⟩ rfl rfl rfl rfl rfl (by kernel_rfl) Tryz.func3 (by kernel_rfl)
    (of_decide_eq_true (by kernel_rfl)) (by unfold Func.isWrapper; first | (rw [if_pos (by decide +kernel)]; kernel_rfl) | (rw [if_neg (by decide +kernel)]; exact ⟨rfl, rfl⟩))
    (fun os started H enc _ => lifted os started H enc)
theorem proved : Rows.FnExactShelfUsesSaid := over
end Go.Proofs.YtahciphhopiipaaGreatDoor.fnExactShelfUses
namespace Go.Proofs.YtahciphhopiipaaGreatDoor
/-- The row, under a short name, for the claim. -/
theorem fnExactShelfUses_holds : Rows.FnExactShelfUsesSaid := fnExactShelfUses.proved
#print axioms fnExactShelfUses_holds
end Go.Proofs.YtahciphhopiipaaGreatDoor
namespace Go.Proofs.YtahciphhopiipaaGreatDoor
/-- The tied card. -/
theorem fnExactShelfUses_card : Rows.FnExactShelfUsesCardSaid :=
  Claim7.holds_tied_plain_at .later [] [.listed, .data] true (true, "36d553f41be6ebd3657145299afb02858ca949bf7932361f3f1b47a8f68f1d27") false
    fnExactShelfUses_holds (fun _ h => by cases h) (by kernel_rfl) (fun _ h => by cases h) fnExactShelfUses_row_tie rfl ⟨rfl, rfl⟩ (by kernel_rfl) rfl
    (fun f fn hf hfn => by
      obtain rfl : f = 3 := Option.some.inj ((show Tryz.prog.funcNamed "loop.example/heirlooms/laws.FnExactShelfUses" = some 3 by kernel_rfl).symm.trans hf) |>.symm
      obtain rfl : fn = Tryz.f3 := (Option.some.inj (Tryz.func3.symm.trans hfn)).symm
      exact ⟨by kernel_rfl, fun j t ht => by
        rw [Tryz.params3] at ht
        have hm : t ∈ [22, 3] := by simpa using Array.mem_of_getElem? ht
        have hall : ([22, 3].all fun u => !Tryz.prog.wantsStandIn u) = true := by kernel_rfl
        exact (show Tryz.prog.wantsStandIn t = false by simpa using List.all_eq_true.1 hall t hm)⟩)
    (by kernel_rfl)
#print axioms fnExactShelfUses_card
end Go.Proofs.YtahciphhopiipaaGreatDoor
