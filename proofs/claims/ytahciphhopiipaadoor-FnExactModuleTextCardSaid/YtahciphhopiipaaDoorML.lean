/- Whatever module it is called with, FnExactModuleText returns true and leaves it as it was. Condition: the five tables of the library that the row lists begin as the program lays them (the card ties that). -/
import Derived.Test.YtahciphhopiipaaDoorRows
import Derived.Test.YtahciphhopiipaaDoorCards
import Derived.Test.YtahciphhopiipaaDoorTie
import Derived.Test.YtahciphhopiipaaDoorM5
import Derived.Test.YtahciphhopiipaaDoorY0
import Derived.WalkKit
import Derived.ProofKit
import Derived.OpenShut
import Derived.ShutString
import Derived.ChangeOld
import Derived.SizedLaws
import Derived.KernelRfl
import Derived.LaidMore
import Derived.Stop.Joined
import Derived.Lib.LaidU8
import Derived.SevenTiedAt
set_option linter.unusedVariables false
namespace Go.Proofs.YtahciphhopiipaaDoor.fnExactModuleText
open Go Go.RowKit Go.ChangeShapes Go.WideShapes Go.ChangeAt Go.Proofs.YtahciphhopiipaaDoor Go.Proofs.YtahciphhopiipaaDoor.V
open Go.ChangeMaps (open_string shut_string)
open V
theorem rd3 : Rd Tryd.prog 3 (fun l => ∃ x : Int, okInt x ∧ l = rI x) := (Rd.int Tryd.underlying3).mono fun l ⟨n, h, e⟩ => ⟨n, h, e⟩
theorem rd9 : Rd Tryd.prog 9 (fun l => ∃ x : ByteArray, okStr x ∧ l = rS x) := (Rd.str Tryd.underlying9).mono fun l ⟨n, h, e⟩ => ⟨n, h, e⟩
theorem rd49 : Rd Tryd.prog 49 (fun l => ∃ x : List ByteArray, okL okStr x ∧ l = (fun xs => [SV.sl 1 (xs.map rS)]) x) :=
  (Rd.list Tryd.underlying49 (by kernel_rfl) (by decide) (of_decide_eq_true (by kernel_rfl)) rd9).mono fun l ⟨xs, h, e⟩ => ⟨xs, h, e⟩
theorem rd88 : Rd Tryd.prog 88 (fun l => ∃ x : Rec, Rec.okr x ∧ l = rRec x) := by
  refine (Rd.struct Tryd.underlying88 (oe := 2) (by kernel_rfl) (.cons (c := 1) rfl rd3 (by kernel_rfl) (.cons (c := 1) rfl rd49 (by kernel_rfl) .nil))).mono ?_
  rintro l (_ | ⟨h0, h⟩)
  rcases h with (_ | ⟨h1, h⟩)
  cases h
  obtain ⟨x0, k0, rfl⟩ := h0
  obtain ⟨x1, k1, rfl⟩ := h1
  exact ⟨⟨x0, x1⟩, okRecr k0 k1, rfl⟩
theorem rd29 : Rd Tryd.prog 29 (fun l => ∃ x : List Rec, okL Rec.okr x ∧ l = (fun xs => [SV.sl 2 (xs.map rRec)]) x) :=
  (Rd.list Tryd.underlying29 (by kernel_rfl) (by decide) (of_decide_eq_true (by kernel_rfl)) rd88).mono fun l ⟨xs, h, e⟩ => ⟨xs, h, e⟩
theorem rd31 : Rd Tryd.prog 31 (fun l => ∃ x : List Int, okL okInt x ∧ l = (fun xs => [SV.sl 1 (xs.map rI)]) x) :=
  (Rd.list Tryd.underlying31 (by kernel_rfl) (by decide) (of_decide_eq_true (by kernel_rfl)) rd3).mono fun l ⟨xs, h, e⟩ => ⟨xs, h, e⟩
theorem rd131 : Rd Tryd.prog 131 (fun l => ∃ x : Ins, Ins.okr x ∧ l = rIns x) := by
  refine (Rd.struct Tryd.underlying131 (oe := 3) (by kernel_rfl) (.cons (c := 1) rfl rd9 (by kernel_rfl) (.cons (c := 1) rfl rd3 (by kernel_rfl) (.cons (c := 1) rfl rd3 (by kernel_rfl) .nil)))).mono ?_
  rintro l (_ | ⟨h0, h⟩)
  rcases h with (_ | ⟨h1, h⟩)
  rcases h with (_ | ⟨h2, h⟩)
  cases h
  obtain ⟨x0, k0, rfl⟩ := h0
  obtain ⟨x1, k1, rfl⟩ := h1
  obtain ⟨x2, k2, rfl⟩ := h2
  exact ⟨⟨x0, x1, x2⟩, okInsr k0 k1 k2, rfl⟩
theorem rd90 : Rd Tryd.prog 90 (fun l => ∃ x : List Ins, okL Ins.okr x ∧ l = (fun xs => [SV.sl 3 (xs.map rIns)]) x) :=
  (Rd.list Tryd.underlying90 (by kernel_rfl) (by decide) (of_decide_eq_true (by kernel_rfl)) rd131).mono fun l ⟨xs, h, e⟩ => ⟨xs, h, e⟩
theorem rd92 : Rd Tryd.prog 92 (fun l => ∃ x : Fn, Fn.okr x ∧ l = rFn x) := by
  refine (Rd.struct Tryd.underlying92 (oe := 6) (by kernel_rfl) (.cons (c := 1) rfl rd3 (by kernel_rfl) (.cons (c := 1) rfl rd49 (by kernel_rfl) (.cons (c := 1) rfl rd49 (by kernel_rfl) (.cons (c := 1) rfl rd49 (by kernel_rfl) (.cons (c := 1) rfl rd31 (by kernel_rfl) (.cons (c := 1) rfl rd90 (by kernel_rfl) .nil))))))).mono ?_
  rintro l (_ | ⟨h0, h⟩)
  rcases h with (_ | ⟨h1, h⟩)
  rcases h with (_ | ⟨h2, h⟩)
  rcases h with (_ | ⟨h3, h⟩)
  rcases h with (_ | ⟨h4, h⟩)
  rcases h with (_ | ⟨h5, h⟩)
  cases h
  obtain ⟨x0, k0, rfl⟩ := h0
  obtain ⟨x1, k1, rfl⟩ := h1
  obtain ⟨x2, k2, rfl⟩ := h2
  obtain ⟨x3, k3, rfl⟩ := h3
  obtain ⟨x4, k4, rfl⟩ := h4
  obtain ⟨x5, k5, rfl⟩ := h5
  exact ⟨⟨x0, x1, x2, x3, x4, x5⟩, okFnr k0 k1 k2 k3 k4 k5, rfl⟩
theorem rd30 : Rd Tryd.prog 30 (fun l => ∃ x : List Fn, okL Fn.okr x ∧ l = (fun xs => [SV.sl 6 (xs.map rFn)]) x) :=
  (Rd.list Tryd.underlying30 (by kernel_rfl) (by decide) (of_decide_eq_true (by kernel_rfl)) rd92).mono fun l ⟨xs, h, e⟩ => ⟨xs, h, e⟩
theorem rd33 : Rd Tryd.prog 33 (fun l => ∃ x : Mod, Mod.okr x ∧ l = rMod x) := by
  refine (Rd.struct Tryd.underlying33 (oe := 3) (by kernel_rfl) (.cons (c := 1) rfl rd29 (by kernel_rfl) (.cons (c := 1) rfl rd30 (by kernel_rfl) (.cons (c := 1) rfl rd31 (by kernel_rfl) .nil)))).mono ?_
  rintro l (_ | ⟨h0, h⟩)
  rcases h with (_ | ⟨h1, h⟩)
  rcases h with (_ | ⟨h2, h⟩)
  cases h
  obtain ⟨x0, k0, rfl⟩ := h0
  obtain ⟨x1, k1, rfl⟩ := h1
  obtain ⟨x2, k2, rfl⟩ := h2
  exact ⟨⟨x0, x1, x2⟩, okModr k0 k1 k2, rfl⟩
theorem own : ownKnob Tryd.prog.godebug = none := by kernel_rfl
theorem laidOut : laidOutB Tryd.prog = true := by kernel_rfl
theorem gTab0 : Tryd.prog.globalNamed "internal/strconv.uint64pow10" = some 0 := by kernel_rfl
theorem gTab1 : Tryd.prog.globalNamed "strings.asciiSpace" = some 1 := by kernel_rfl
/-- The door's own heap meets the condition. -/
theorem door_met (os : Os) (args : Array Value) : laidMetH Tryd.prog Rows.fnExactModuleTextRow.laid ((World.doorLaid Tryd.prog 3000 os).forCall (fun _ _ => 0) ⟨#[], args, []⟩).memory :=
  laidMetH_of_parts3 (fuel := 8) (laidMet_of_run' 8 (by kernel_rfl) (by kernel_rfl)) (by kernel_rfl) (by kernel_rfl)
set_option maxRecDepth 100000 in
theorem of_laid {W : World} (h : laidMetH Tryd.prog Rows.fnExactModuleTextRow.laid W) : V.Lw W := by
  rw [MakeChecks.laidMetH_plain _ _ _ (by kernel_rfl)] at h
  have h0 : Lib.TabIs Tryd.prog W "internal/strconv.uint64pow10" .u64 Lib.pow10Tab := by
    obtain ⟨g, t, cs, fuel, p, hg, ht, hv, hd⟩ := Lib.laidMet.reads h (n := "internal/strconv.uint64pow10") (d := Lib.tabData .u64 Lib.pow10Tab) (by exact List.mem_cons_of_mem _ (List.mem_cons_of_mem _ (List.mem_cons.2 (.inl (by kernel_rfl)))))
    obtain rfl := Option.some.inj (gTab0.symm.trans hg)
    have hty : (Tryd.prog.globals[0]?).map (·.type) = some 147 := by kernel_rfl
    obtain rfl := Option.some.inj (hty.symm.trans ht)
    unfold Lib.TabIs
    rw [hv, ← Lib.cells_of_tab (k := .u64) (zs := Lib.pow10Tab) Tryd.underlying147 Tryd.underlying136 (by kernel_rfl) (by kernel_rfl) hd]
  have h1 : Lib.TabIs Tryd.prog W "strings.asciiSpace" .u8 Lib.asciiSpaceTab := by
    obtain ⟨g, t, cs, fuel, p, hg, ht, hv, hd⟩ := Lib.laidMet.reads h (n := "strings.asciiSpace") (d := Lib.tabData .u8 Lib.asciiSpaceTab) (by exact List.mem_cons_of_mem _ (List.mem_cons_of_mem _ (List.mem_cons_of_mem _ (List.mem_cons_of_mem _ (List.mem_cons.2 (.inl (by kernel_rfl)))))))
    obtain rfl := Option.some.inj (gTab1.symm.trans hg)
    have hty : (Tryd.prog.globals[1]?).map (·.type) = some 153 := by kernel_rfl
    obtain rfl := Option.some.inj (hty.symm.trans ht)
    unfold Lib.TabIs
    rw [hv, ← Lib.cells_of_tab (k := .u8) (zs := Lib.asciiSpaceTab) Tryd.underlying153 Tryd.underlying5 (by kernel_rfl) (by kernel_rfl) hd]
  refine ⟨fun c hc => ?_, ?_⟩
  · rw [h1.cell gTab1 c (by rw [Lib.asciiSpaceTab_length]; exact hc), Lib.asciiSpaceTab_at c hc]
  · unfold Lib.TabIs World.var? at h0
    rw [gTab0, Option.bind_some] at h0
    split at h0
    · rename_i cs e fz hh
      refine ⟨e, fz, ?_⟩
      rw [hh]
      cases h0
      simp only [Lib.pow10Tab, V.pow10s, List.map_map]
      rfl
    · cases h0
set_option maxRecDepth 100000 in
theorem lifted (os : Os) (started : os.Started) (H : Type) (enc : TypeId × Value → H) :
    ReturnsInHanded {} Tryd.checked os 4 .any (fun w args => (Rows.fnExactModuleTextSpec.pre enc Tryd.prog Tryd.f4 [] false w args ∧ laidMetH Tryd.prog Rows.fnExactModuleTextRow.laid w) ∧ sizedMet enc Tryd.prog Tryd.f4 (OpenSpec.ofChange Rows.fnExactModuleTextSpec) false w args)
      (Rows.fnExactModuleTextSpec.post enc Tryd.prog Tryd.f4 false true false false) := by
  refine returnsInHanded_of_change_and (C := Tryd.checked) (X := fun w _ => laidMetH Tryd.prog Rows.fnExactModuleTextRow.laid w) (fun _ _ _ hh h => h.of_heap hh) own started (by kernel_rfl) Tryd.func4
    (ChangeSpec.witness_shaped (enc := enc) (C := Tryd.checked) (os := os) (X := fun w _ => laidMetH Tryd.prog Rows.fnExactModuleTextRow.laid w) false (World.doorLaid Tryd.prog 3000 os) #[.agg #[(.slice none 0 0), (.slice none 0 0), (.slice none 0 0)]] 8 rfl (World.shaped_of_RefB (by kernel_rfl) (by kernel_rfl)) (by kernel_rfl) (by kernel_rfl) (by kernel_rfl) (door_met os _)) ?_
  intro W base args ds gs before hval0 hW hcnd hsz0 hL _
  have hsz : (DataW.weightsEach Tryd.prog (Tryd.f4.params.toList ++ Rows.fnExactModuleTextSpec.plain.varTypes Tryd.prog) (ds ++ gs)).all (· ≤ reachBytes) = true := hsz0
  have hval : ∀ (j : Nat) t v, Tryd.f4.params[j]? = some t → args[j]? = some v → Value.okWide Tryd.prog W .any base t v := hval0
  have hW' := hW
  obtain ⟨p, q, hA0, hV, rfl, hfz, hnd⟩ := hW
  have hA : DataW.TrodAll enc Tryd.prog W 0 (fun _ => true) true Tryd.f4.params.toList args.toList ds p := hA0
  rw [Tryd.params4] at hA hval hsz
  obtain ⟨v0, vs0, d0, ds0, p0, q0, hargs, rfl, rfl, h0, r0⟩ := trodAll_cons hA
  obtain ⟨rfl, rfl, rfl⟩ := trodAll_nil r0
  obtain rfl : args = #[v0] := by cases args; simp_all
  obtain ⟨rfl, rfl⟩ := trodVars_none hV
  have k0 := h0
  have lt0 : ∀ x ∈ p0, x.block < W.heap.size := by obtain ⟨m, hm⟩ := k0; exact DataW.trod_lt m _ _ _ hm
  obtain ⟨l0, ⟨l0, m0, e0⟩, a0⟩ := Rd.agg rd33 Tryd.underlying33 (hval 0 33 v0 rfl rfl) h0 (weights_at hsz 0 rfl rfl)
  subst e0
  clear hA0 hval0 hsz0 hsz
  refine (law_calls (args := [.agg ((rMod l0).map (Leaf.im true))]) (law_text l0 m0.1 m0.2) W (of_laid hL) #[v0] rfl (args1 a0)).mono fun e W' ⟨he, bel⟩ => ?_
  subst he
  exact ⟨_, rfl, _, _, _, [], _, [], hW', trodAll_mk1 (shut_bool Tryd.underlying4 _), (trodAll_cons_mk (Below.trod laidOut (by kernel_rfl) (of_decide_eq_true (by kernel_rfl)) k0 bel lt0) trodAll_mk0), rfl, bel.frame _, fun h => by cases h⟩
theorem over : Rows.fnExactModuleTextRow.holds Tryd.pinned (OpenSpec.ofChange Rows.fnExactModuleTextSpec) :=
  OpenClaim.holds_of_wide 4 Tryd.f4 rfl rfl rfl rfl rfl rfl rfl ⟨rfl, rfl, rfl, rfl, rfl⟩ rfl rfl rfl rfl rfl (by kernel_rfl) Tryd.func4 (by kernel_rfl)
    (of_decide_eq_true (by kernel_rfl)) (by unfold Func.isWrapper; first | (rw [if_pos (by decide +kernel)]; kernel_rfl) | (rw [if_neg (by decide +kernel)]; exact ⟨rfl, rfl⟩))
    (fun os started H enc _ => lifted os started H enc)
theorem proved : Rows.FnExactModuleTextSaid := over
end Go.Proofs.YtahciphhopiipaaDoor.fnExactModuleText
namespace Go.Proofs.YtahciphhopiipaaDoor
/-- The row, under a short name, for the claim. -/
theorem fnExactModuleText_holds : Rows.FnExactModuleTextSaid := fnExactModuleText.proved
#print axioms fnExactModuleText_holds
end Go.Proofs.YtahciphhopiipaaDoor
namespace Go.Proofs.YtahciphhopiipaaDoor
/-- The tied card. -/
theorem fnExactModuleText_card : Rows.FnExactModuleTextCardSaid :=
  Claim7.holds_tied_plain_at .later [] [.data, .data, .data, .listed, .data] true (true, "f4b776fd0b864cf8903fbdcce7fbaa593b5426ab02f630bbeccae45d540cf04b") false
    fnExactModuleText_holds (fun _ h => by cases h) (by kernel_rfl) (fun _ h => by cases h) fnExactModuleText_row_tie rfl ⟨rfl, rfl⟩ (by kernel_rfl) rfl
    (fun f fn hf hfn => by
      obtain rfl : f = 4 := Option.some.inj ((show Tryd.prog.funcNamed "loop.example/heirlooms/laws.FnExactModuleText" = some 4 by kernel_rfl).symm.trans hf) |>.symm
      obtain rfl : fn = Tryd.f4 := (Option.some.inj (Tryd.func4.symm.trans hfn)).symm
      exact ⟨by kernel_rfl, fun j t ht => by
        rw [Tryd.params4] at ht
        have hm : t ∈ [33] := by simpa using Array.mem_of_getElem? ht
        have hall : ([33].all fun u => !Tryd.prog.wantsStandIn u) = true := by kernel_rfl
        exact (show Tryd.prog.wantsStandIn t = false by simpa using List.all_eq_true.1 hall t hm)⟩)
    (by kernel_rfl)
#print axioms fnExactModuleText_card
end Go.Proofs.YtahciphhopiipaaDoor
