/- The functions that mark. -/
import Derived.Test.YtahciphhopiipaaGreatDoorL4
set_option linter.unusedVariables false
set_option linter.unusedSimpArgs false
namespace Go.Proofs.YtahciphhopiipaaGreatDoor
open Go Go.RowKit V
theorem sum_len {α : Type} {f : α → Nat} {l : List α} (h : ∀ x, 1 ≤ f x) : l.length ≤ (l.map f).sum := by
  induction l with
  | nil => simp
  | cons x xs ih => have := h x; simp only [List.length_cons, List.map_cons, List.sum_cons]; omega
set_option maxRecDepth 100000 in
theorem markInt (l : List Int) : MarkC Tryz.prog 12 (.sl 1 (l.map rI)) (l.length) := by
  intro n0 S w0 v k hsh hsoft hn0 hsz hlaw hk hk2
  obtain ⟨ad, n, cap, rfl, hn⟩ := hsh.form
  rw [List.length_map] at hn
  subst hn
  have hN : l.length ≤ 4611686018427387904 := by omega
  refine Calls.mono (mark_fn (NT := 19) (tl := 18) (kv := fun i => k + ((i : Nat) : Int)) (J := fun _ w => Mk S w0 w) Tryz.func12 rfl rfl rfl rfl rfl rfl rfl rfl ⟨rfl, rfl, rfl⟩ ⟨rfl, rfl, rfl⟩ ⟨rfl, rfl, rfl⟩ ⟨rfl, rfl, rfl⟩ ⟨rfl, rfl, rfl⟩ ⟨rfl, rfl, rfl⟩ ⟨rfl, rfl, rfl⟩ ⟨rfl, rfl, rfl⟩ ⟨rfl, rfl, rfl⟩ ⟨rfl, rfl, rfl⟩ ⟨rfl, rfl, rfl⟩ rfl Tryz.underlying24 hN ?_ w0 (Mk.refl S w0) (kz := k) (by simp)) fun en w h => ⟨by rw [h.1], h.2⟩
  intro i a w hi A hm
  obtain ⟨x, hx⟩ := get_lt' hi
  have hr := map_at (f := rI) hx
  obtain ⟨b, off, rfl, -⟩ := hsh.row hr
  obtain ⟨hS, cur0, eb0, y0, hh0, hcur0, hp0, hcell0, hy0⟩ := cell_at (j := 0) hsh hsoft hm hr rfl
  cases hy0
  refine wp_seq (rg_st0 (NT := 19) rfl ⟨rfl, rfl, rfl⟩ ⟨rfl, rfl, rfl⟩ ⟨rfl, rfl, rfl⟩ ⟨rfl, rfl, rfl⟩ ⟨rfl, rfl, rfl⟩ (by kernel_rfl) Tryz.underlying24 (by kernel_rfl) (by kernel_rfl) A hi hh0 hp0 fun a A => ?_)
  have hm := hm.trans (Mk.store (v := .int .i64 (k + ((i : Nat) : Int))) hS hh0 hp0 hcur0 (.inr (.inl ⟨_, _, _, rfl, rfl⟩)))
  refine rg_inc (NT := 19) rfl ⟨rfl, rfl, rfl⟩ ⟨rfl, rfl, rfl⟩ ⟨rfl, rfl, rfl⟩ (by kernel_rfl) (by decide) (by omega) (by omega) A fun a A => ?_
  refine ⟨rfl, ?_, hm⟩
  rw [show k + ((i + 1 : Nat) : Int) = (k + ((i : Nat) : Int)) + 1 from by omega]
  exact A
set_option maxRecDepth 100000 in
theorem markStr (l : List ByteArray) : MarkC Tryz.prog 60 (.sl 1 (l.map rS)) (l.length) := by
  intro n0 S w0 v k hsh hsoft hn0 hsz hlaw hk hk2
  obtain ⟨ad, n, cap, rfl, hn⟩ := hsh.form
  rw [List.length_map] at hn
  subst hn
  have hN : l.length ≤ 4611686018427387904 := by omega
  refine Calls.mono (mark_fn (NT := 20) (tl := 19) (kv := fun i => k + ((i : Nat) : Int)) (J := fun _ w => Mk S w0 w) Tryz.func60 rfl rfl rfl rfl rfl rfl rfl rfl ⟨rfl, rfl, rfl⟩ ⟨rfl, rfl, rfl⟩ ⟨rfl, rfl, rfl⟩ ⟨rfl, rfl, rfl⟩ ⟨rfl, rfl, rfl⟩ ⟨rfl, rfl, rfl⟩ ⟨rfl, rfl, rfl⟩ ⟨rfl, rfl, rfl⟩ ⟨rfl, rfl, rfl⟩ ⟨rfl, rfl, rfl⟩ ⟨rfl, rfl, rfl⟩ rfl Tryz.underlying64 hN ?_ w0 (Mk.refl S w0) (kz := k) (by simp)) fun en w h => ⟨by rw [h.1], h.2⟩
  intro i a w hi A hm
  obtain ⟨x, hx⟩ := get_lt' hi
  have hr := map_at (f := rS) hx
  obtain ⟨b, off, rfl, -⟩ := hsh.row hr
  obtain ⟨hS, cur0, eb0, y0, hh0, hcur0, hp0, hcell0, hy0⟩ := cell_at (j := 0) hsh hsoft hm hr rfl
  cases hy0
  refine wp_seq (rg_tx0 (NT := 20) rfl ⟨rfl, rfl, rfl⟩ ⟨rfl, rfl, rfl⟩ ⟨rfl, rfl, rfl⟩ ⟨rfl, rfl, rfl⟩ ⟨rfl, rfl, rfl⟩ ⟨rfl, rfl, rfl⟩ (by kernel_rfl) Tryz.underlying64 (by kernel_rfl) (by kernel_rfl) (Text.of Tryz.func92 rfl (by kernel_rfl)) A hi hh0 hp0 (text_calls (mark_text _ (by omega)) _ ((hm.laid hn0 hsz hlaw) _ fun _ _ => rfl)) fun a w2 t A hB => ?_)
  have hm := hm.trans ((Mk.below hB (hm.soft hsoft)).trans (Mk.store (v := .string t) hS ((hB.block b (Array.getElem?_eq_some_iff.1 hh0).1).trans hh0) hp0 hcur0 (.inr (.inr ⟨_, _, rfl, rfl⟩))))
  refine rg_inc (NT := 20) rfl ⟨rfl, rfl, rfl⟩ ⟨rfl, rfl, rfl⟩ ⟨rfl, rfl, rfl⟩ (by kernel_rfl) (by decide) (by omega) (by omega) A fun a A => ?_
  refine ⟨rfl, ?_, hm⟩
  rw [show k + ((i + 1 : Nat) : Int) = (k + ((i : Nat) : Int)) + 1 from by omega]
  exact A
set_option maxRecDepth 100000 in
theorem markIns (l : List Ins) : MarkC Tryz.prog 61 (.sl 3 (l.map rIns)) ((l.map cIns).sum) := by
  intro n0 S w0 v k hsh hsoft hn0 hsz hlaw hk hk2
  obtain ⟨ad, n, cap, rfl, hn⟩ := hsh.form
  rw [List.length_map] at hn
  subst hn
  have hN : l.length ≤ 4611686018427387904 := by have := sum_len (f := cIns) (l := l) (by intro x; unfold cIns; omega); omega
  refine Calls.mono (mark_fn (NT := 35) (tl := 34) (kv := fun i => k + ((sumTo cIns l i : Nat) : Int)) (J := fun _ w => Mk S w0 w) Tryz.func61 rfl rfl rfl rfl rfl rfl rfl rfl ⟨rfl, rfl, rfl⟩ ⟨rfl, rfl, rfl⟩ ⟨rfl, rfl, rfl⟩ ⟨rfl, rfl, rfl⟩ ⟨rfl, rfl, rfl⟩ ⟨rfl, rfl, rfl⟩ ⟨rfl, rfl, rfl⟩ ⟨rfl, rfl, rfl⟩ ⟨rfl, rfl, rfl⟩ ⟨rfl, rfl, rfl⟩ ⟨rfl, rfl, rfl⟩ rfl Tryz.underlying72 hN ?_ w0 (Mk.refl S w0) (kz := k) (by simp [sumTo])) fun en w h => ⟨by rw [h.1]; simp only [sumTo_all (Nat.le_refl _)], h.2⟩
  intro i a w hi A hm
  obtain ⟨x, hx⟩ := get_lt' hi
  have hr := map_at (f := rIns) hx
  obtain ⟨b, off, rfl, -⟩ := hsh.row hr
  have hle := sumTo_le cIns l (i + 1)
  have hsu := sumTo_succ (f := cIns) hx
  have hcx : cIns x = 3 := rfl
  obtain ⟨hS, cur0, eb0, y0, hh0, hcur0, hp0, hcell0, hy0⟩ := cell_at (j := 0) hsh hsoft hm hr rfl
  cases hy0
  refine wp_seq (rg_tx (NT := 35) rfl ⟨rfl, rfl, rfl⟩ ⟨rfl, rfl, rfl⟩ ⟨rfl, rfl, rfl⟩ ⟨rfl, rfl, rfl⟩ ⟨rfl, rfl, rfl⟩ ⟨rfl, rfl, rfl⟩ ⟨rfl, rfl, rfl⟩ (by kernel_rfl) Tryz.underlying72 (by kernel_rfl) ⟨_, _, 1, Tryz.underlying80, rfl, rfl, by kernel_rfl, by decide⟩ (by kernel_rfl) (Text.of Tryz.func92 rfl (by kernel_rfl)) A hi hh0 hp0 (text_calls (mark_text _ (by omega)) _ ((hm.laid hn0 hsz hlaw) _ fun _ _ => rfl)) fun a w2 t A hB => ?_)
  have hm := hm.trans ((Mk.below hB (hm.soft hsoft)).trans (Mk.store (v := .string t) hS ((hB.block b (Array.getElem?_eq_some_iff.1 hh0).1).trans hh0) hp0 hcur0 (.inr (.inr ⟨_, _, rfl, rfl⟩))))
  refine wp_seq (rg_inc (NT := 35) rfl ⟨rfl, rfl, rfl⟩ ⟨rfl, rfl, rfl⟩ ⟨rfl, rfl, rfl⟩ (by kernel_rfl) (by decide) (by omega) (by omega) A fun a A => ?_)
  obtain ⟨hS, cur2, eb2, y2, hh2, hcur2, hp2, hcell2, hy2⟩ := cell_at (j := 1) hsh hsoft hm hr rfl
  cases hy2
  refine wp_seq (rg_st (NT := 35) rfl ⟨rfl, rfl, rfl⟩ ⟨rfl, rfl, rfl⟩ ⟨rfl, rfl, rfl⟩ ⟨rfl, rfl, rfl⟩ ⟨rfl, rfl, rfl⟩ ⟨rfl, rfl, rfl⟩ (by kernel_rfl) Tryz.underlying72 (by kernel_rfl) ⟨_, _, 1, Tryz.underlying80, rfl, rfl, by kernel_rfl, by decide⟩ (by kernel_rfl) A hi hh2 hp2 fun a A => ?_)
  have hm := hm.trans (Mk.store (v := .int .i64 ((k + ((sumTo cIns l i : Nat) : Int)) + 1)) hS hh2 hp2 hcur2 (.inr (.inl ⟨_, _, _, rfl, rfl⟩)))
  refine wp_seq (rg_inc (NT := 35) rfl ⟨rfl, rfl, rfl⟩ ⟨rfl, rfl, rfl⟩ ⟨rfl, rfl, rfl⟩ (by kernel_rfl) (by decide) (by omega) (by omega) A fun a A => ?_)
  obtain ⟨hS, cur4, eb4, y4, hh4, hcur4, hp4, hcell4, hy4⟩ := cell_at (j := 2) hsh hsoft hm hr rfl
  cases hy4
  refine wp_seq (rg_st (NT := 35) rfl ⟨rfl, rfl, rfl⟩ ⟨rfl, rfl, rfl⟩ ⟨rfl, rfl, rfl⟩ ⟨rfl, rfl, rfl⟩ ⟨rfl, rfl, rfl⟩ ⟨rfl, rfl, rfl⟩ (by kernel_rfl) Tryz.underlying72 (by kernel_rfl) ⟨_, _, 1, Tryz.underlying80, rfl, rfl, by kernel_rfl, by decide⟩ (by kernel_rfl) A hi hh4 hp4 fun a A => ?_)
  have hm := hm.trans (Mk.store (v := .int .i64 (((k + ((sumTo cIns l i : Nat) : Int)) + 1) + 1)) hS hh4 hp4 hcur4 (.inr (.inl ⟨_, _, _, rfl, rfl⟩)))
  refine rg_inc (NT := 35) rfl ⟨rfl, rfl, rfl⟩ ⟨rfl, rfl, rfl⟩ ⟨rfl, rfl, rfl⟩ (by kernel_rfl) (by decide) (by omega) (by omega) A fun a A => ?_
  refine ⟨rfl, ?_, hm⟩
  rw [show k + ((sumTo cIns l (i + 1) : Nat) : Int) = (((k + ((sumTo cIns l i : Nat) : Int)) + 1) + 1) + 1 from by rw [hsu, hcx]; omega]
  exact A
set_option maxRecDepth 100000 in
theorem markRec (l : List Rec) : MarkC Tryz.prog 29 (.sl 2 (l.map rRec)) ((l.map cRec).sum) := by
  intro n0 S w0 v k hsh hsoft hn0 hsz hlaw hk hk2
  obtain ⟨ad, n, cap, rfl, hn⟩ := hsh.form
  rw [List.length_map] at hn
  subst hn
  have hN : l.length ≤ 4611686018427387904 := by have := sum_len (f := cRec) (l := l) (by intro x; unfold cRec; omega); omega
  refine Calls.mono (mark_fn (NT := 27) (tl := 26) (kv := fun i => k + ((sumTo cRec l i : Nat) : Int)) (J := fun _ w => Mk S w0 w) Tryz.func29 rfl rfl rfl rfl rfl rfl rfl rfl ⟨rfl, rfl, rfl⟩ ⟨rfl, rfl, rfl⟩ ⟨rfl, rfl, rfl⟩ ⟨rfl, rfl, rfl⟩ ⟨rfl, rfl, rfl⟩ ⟨rfl, rfl, rfl⟩ ⟨rfl, rfl, rfl⟩ ⟨rfl, rfl, rfl⟩ ⟨rfl, rfl, rfl⟩ ⟨rfl, rfl, rfl⟩ ⟨rfl, rfl, rfl⟩ rfl Tryz.underlying50 hN ?_ w0 (Mk.refl S w0) (kz := k) (by simp [sumTo])) fun en w h => ⟨by rw [h.1]; simp only [sumTo_all (Nat.le_refl _)], h.2⟩
  intro i a w hi A hm
  obtain ⟨x, hx⟩ := get_lt' hi
  have hr := map_at (f := rRec) hx
  obtain ⟨b, off, rfl, -⟩ := hsh.row hr
  have hle := sumTo_le cRec l (i + 1)
  have hsu := sumTo_succ (f := cRec) hx
  have hcx : cRec x = 1 + x.fields.length := rfl
  obtain ⟨hS, cur0, eb0, y0, hh0, hcur0, hp0, hcell0, hy0⟩ := cell_at (j := 0) hsh hsoft hm hr rfl
  cases hy0
  refine wp_seq (rg_st (NT := 27) rfl ⟨rfl, rfl, rfl⟩ ⟨rfl, rfl, rfl⟩ ⟨rfl, rfl, rfl⟩ ⟨rfl, rfl, rfl⟩ ⟨rfl, rfl, rfl⟩ ⟨rfl, rfl, rfl⟩ (by kernel_rfl) Tryz.underlying50 (by kernel_rfl) ⟨_, _, 1, Tryz.underlying66, rfl, rfl, by kernel_rfl, by decide⟩ (by kernel_rfl) A hi hh0 hp0 fun a A => ?_)
  have hm := hm.trans (Mk.store (v := .int .i64 (k + ((sumTo cRec l i : Nat) : Int))) hS hh0 hp0 hcur0 (.inr (.inl ⟨_, _, _, rfl, rfl⟩)))
  refine wp_seq (rg_inc (NT := 27) rfl ⟨rfl, rfl, rfl⟩ ⟨rfl, rfl, rfl⟩ ⟨rfl, rfl, rfl⟩ (by kernel_rfl) (by decide) (by omega) (by omega) A fun a A => ?_)
  obtain ⟨hS, cur2, eb2, y2, hh2, hcur2, hp2, hcell2, hy2⟩ := cell_at (j := 1) hsh hsoft hm hr rfl
  refine rg_call (NT := 27) (k' := ((k + ((sumTo cRec l i : Nat) : Int)) + 1) + ((x.fields.length : Nat) : Int)) rfl ⟨rfl, rfl, rfl⟩ ⟨rfl, rfl, rfl⟩ ⟨rfl, rfl, rfl⟩ ⟨rfl, rfl, rfl⟩ ⟨rfl, rfl, rfl⟩ ⟨rfl, rfl, rfl⟩ ⟨rfl, rfl, rfl⟩ ⟨rfl, rfl, rfl⟩ (by kernel_rfl) (by decide) Tryz.underlying50 (by kernel_rfl) ⟨_, _, 1, Tryz.underlying66, rfl, rfl, by kernel_rfl, by decide⟩ (Ty.one Tryz.underlying64 (by kernel_rfl) (fun _ h => by cases h) (fun _ _ h => by cases h)) (Text.of Tryz.func60 rfl (by kernel_rfl)) A hi hcell2 (markStr x.fields n0 S _ _ _ hy2 (hm.soft hsoft) hn0 (Nat.le_trans hsz hm.size) (hm.laid hn0 hsz hlaw) (by omega) (by omega)) fun a w A hm2 => ?_
  have hm := hm.trans hm2
  refine ⟨rfl, ?_, hm⟩
  rw [show k + ((sumTo cRec l (i + 1) : Nat) : Int) = ((k + ((sumTo cRec l i : Nat) : Int)) + 1) + ((x.fields.length : Nat) : Int) from by rw [hsu, hcx]; omega]
  exact A
set_option maxRecDepth 100000 in
theorem markFn (l : List Fn) : MarkC Tryz.prog 30 (.sl 6 (l.map rFn)) ((l.map cFn).sum) := by
  intro n0 S w0 v k hsh hsoft hn0 hsz hlaw hk hk2
  obtain ⟨ad, n, cap, rfl, hn⟩ := hsh.form
  rw [List.length_map] at hn
  subst hn
  have hN : l.length ≤ 4611686018427387904 := by have := sum_len (f := cFn) (l := l) (by intro x; unfold cFn; omega); omega
  refine Calls.mono (mark_fn (NT := 55) (tl := 54) (kv := fun i => k + ((sumTo cFn l i : Nat) : Int)) (J := fun _ w => Mk S w0 w) Tryz.func30 rfl rfl rfl rfl rfl rfl rfl rfl ⟨rfl, rfl, rfl⟩ ⟨rfl, rfl, rfl⟩ ⟨rfl, rfl, rfl⟩ ⟨rfl, rfl, rfl⟩ ⟨rfl, rfl, rfl⟩ ⟨rfl, rfl, rfl⟩ ⟨rfl, rfl, rfl⟩ ⟨rfl, rfl, rfl⟩ ⟨rfl, rfl, rfl⟩ ⟨rfl, rfl, rfl⟩ ⟨rfl, rfl, rfl⟩ rfl Tryz.underlying51 hN ?_ w0 (Mk.refl S w0) (kz := k) (by simp [sumTo])) fun en w h => ⟨by rw [h.1]; simp only [sumTo_all (Nat.le_refl _)], h.2⟩
  intro i a w hi A hm
  obtain ⟨x, hx⟩ := get_lt' hi
  have hr := map_at (f := rFn) hx
  obtain ⟨b, off, rfl, -⟩ := hsh.row hr
  have hle := sumTo_le cFn l (i + 1)
  have hsu := sumTo_succ (f := cFn) hx
  have hcx : cFn x = 1 + x.args.length + x.rets.length + x.locals.length + x.takes.length + (x.code.map cIns).sum := rfl
  obtain ⟨hS, cur0, eb0, y0, hh0, hcur0, hp0, hcell0, hy0⟩ := cell_at (j := 0) hsh hsoft hm hr rfl
  cases hy0
  refine wp_seq (rg_st (NT := 55) rfl ⟨rfl, rfl, rfl⟩ ⟨rfl, rfl, rfl⟩ ⟨rfl, rfl, rfl⟩ ⟨rfl, rfl, rfl⟩ ⟨rfl, rfl, rfl⟩ ⟨rfl, rfl, rfl⟩ (by kernel_rfl) Tryz.underlying51 (by kernel_rfl) ⟨_, _, 1, Tryz.underlying74, rfl, rfl, by kernel_rfl, by decide⟩ (by kernel_rfl) A hi hh0 hp0 fun a A => ?_)
  have hm := hm.trans (Mk.store (v := .int .i64 (k + ((sumTo cFn l i : Nat) : Int))) hS hh0 hp0 hcur0 (.inr (.inl ⟨_, _, _, rfl, rfl⟩)))
  refine wp_seq (rg_inc (NT := 55) rfl ⟨rfl, rfl, rfl⟩ ⟨rfl, rfl, rfl⟩ ⟨rfl, rfl, rfl⟩ (by kernel_rfl) (by decide) (by omega) (by omega) A fun a A => ?_)
  obtain ⟨hS, cur2, eb2, y2, hh2, hcur2, hp2, hcell2, hy2⟩ := cell_at (j := 1) hsh hsoft hm hr rfl
  refine wp_seq (rg_call (NT := 55) (k' := ((k + ((sumTo cFn l i : Nat) : Int)) + 1) + ((x.args.length : Nat) : Int)) rfl ⟨rfl, rfl, rfl⟩ ⟨rfl, rfl, rfl⟩ ⟨rfl, rfl, rfl⟩ ⟨rfl, rfl, rfl⟩ ⟨rfl, rfl, rfl⟩ ⟨rfl, rfl, rfl⟩ ⟨rfl, rfl, rfl⟩ ⟨rfl, rfl, rfl⟩ (by kernel_rfl) (by decide) Tryz.underlying51 (by kernel_rfl) ⟨_, _, 1, Tryz.underlying74, rfl, rfl, by kernel_rfl, by decide⟩ (Ty.one Tryz.underlying64 (by kernel_rfl) (fun _ h => by cases h) (fun _ _ h => by cases h)) (Text.of Tryz.func60 rfl (by kernel_rfl)) A hi hcell2 (markStr x.args n0 S _ _ _ hy2 (hm.soft hsoft) hn0 (Nat.le_trans hsz hm.size) (hm.laid hn0 hsz hlaw) (by omega) (by omega)) fun a w A hm2 => ?_)
  have hm := hm.trans hm2
  obtain ⟨hS, cur3, eb3, y3, hh3, hcur3, hp3, hcell3, hy3⟩ := cell_at (j := 2) hsh hsoft hm hr rfl
  refine wp_seq (rg_call (NT := 55) (k' := (((k + ((sumTo cFn l i : Nat) : Int)) + 1) + ((x.args.length : Nat) : Int)) + ((x.rets.length : Nat) : Int)) rfl ⟨rfl, rfl, rfl⟩ ⟨rfl, rfl, rfl⟩ ⟨rfl, rfl, rfl⟩ ⟨rfl, rfl, rfl⟩ ⟨rfl, rfl, rfl⟩ ⟨rfl, rfl, rfl⟩ ⟨rfl, rfl, rfl⟩ ⟨rfl, rfl, rfl⟩ (by kernel_rfl) (by decide) Tryz.underlying51 (by kernel_rfl) ⟨_, _, 1, Tryz.underlying74, rfl, rfl, by kernel_rfl, by decide⟩ (Ty.one Tryz.underlying64 (by kernel_rfl) (fun _ h => by cases h) (fun _ _ h => by cases h)) (Text.of Tryz.func60 rfl (by kernel_rfl)) A hi hcell3 (markStr x.rets n0 S _ _ _ hy3 (hm.soft hsoft) hn0 (Nat.le_trans hsz hm.size) (hm.laid hn0 hsz hlaw) (by omega) (by omega)) fun a w A hm3 => ?_)
  have hm := hm.trans hm3
  obtain ⟨hS, cur4, eb4, y4, hh4, hcur4, hp4, hcell4, hy4⟩ := cell_at (j := 3) hsh hsoft hm hr rfl
  refine wp_seq (rg_call (NT := 55) (k' := ((((k + ((sumTo cFn l i : Nat) : Int)) + 1) + ((x.args.length : Nat) : Int)) + ((x.rets.length : Nat) : Int)) + ((x.locals.length : Nat) : Int)) rfl ⟨rfl, rfl, rfl⟩ ⟨rfl, rfl, rfl⟩ ⟨rfl, rfl, rfl⟩ ⟨rfl, rfl, rfl⟩ ⟨rfl, rfl, rfl⟩ ⟨rfl, rfl, rfl⟩ ⟨rfl, rfl, rfl⟩ ⟨rfl, rfl, rfl⟩ (by kernel_rfl) (by decide) Tryz.underlying51 (by kernel_rfl) ⟨_, _, 1, Tryz.underlying74, rfl, rfl, by kernel_rfl, by decide⟩ (Ty.one Tryz.underlying64 (by kernel_rfl) (fun _ h => by cases h) (fun _ _ h => by cases h)) (Text.of Tryz.func60 rfl (by kernel_rfl)) A hi hcell4 (markStr x.locals n0 S _ _ _ hy4 (hm.soft hsoft) hn0 (Nat.le_trans hsz hm.size) (hm.laid hn0 hsz hlaw) (by omega) (by omega)) fun a w A hm4 => ?_)
  have hm := hm.trans hm4
  obtain ⟨hS, cur5, eb5, y5, hh5, hcur5, hp5, hcell5, hy5⟩ := cell_at (j := 4) hsh hsoft hm hr rfl
  refine wp_seq (rg_call (NT := 55) (k' := (((((k + ((sumTo cFn l i : Nat) : Int)) + 1) + ((x.args.length : Nat) : Int)) + ((x.rets.length : Nat) : Int)) + ((x.locals.length : Nat) : Int)) + ((x.takes.length : Nat) : Int)) rfl ⟨rfl, rfl, rfl⟩ ⟨rfl, rfl, rfl⟩ ⟨rfl, rfl, rfl⟩ ⟨rfl, rfl, rfl⟩ ⟨rfl, rfl, rfl⟩ ⟨rfl, rfl, rfl⟩ ⟨rfl, rfl, rfl⟩ ⟨rfl, rfl, rfl⟩ (by kernel_rfl) (by decide) Tryz.underlying51 (by kernel_rfl) ⟨_, _, 1, Tryz.underlying74, rfl, rfl, by kernel_rfl, by decide⟩ (Ty.one Tryz.underlying24 (by kernel_rfl) (fun _ h => by cases h) (fun _ _ h => by cases h)) (Text.of Tryz.func12 rfl (by kernel_rfl)) A hi hcell5 (markInt x.takes n0 S _ _ _ hy5 (hm.soft hsoft) hn0 (Nat.le_trans hsz hm.size) (hm.laid hn0 hsz hlaw) (by omega) (by omega)) fun a w A hm5 => ?_)
  have hm := hm.trans hm5
  obtain ⟨hS, cur6, eb6, y6, hh6, hcur6, hp6, hcell6, hy6⟩ := cell_at (j := 5) hsh hsoft hm hr rfl
  refine rg_call (NT := 55) (k' := ((((((k + ((sumTo cFn l i : Nat) : Int)) + 1) + ((x.args.length : Nat) : Int)) + ((x.rets.length : Nat) : Int)) + ((x.locals.length : Nat) : Int)) + ((x.takes.length : Nat) : Int)) + (((x.code.map cIns).sum : Nat) : Int)) rfl ⟨rfl, rfl, rfl⟩ ⟨rfl, rfl, rfl⟩ ⟨rfl, rfl, rfl⟩ ⟨rfl, rfl, rfl⟩ ⟨rfl, rfl, rfl⟩ ⟨rfl, rfl, rfl⟩ ⟨rfl, rfl, rfl⟩ ⟨rfl, rfl, rfl⟩ (by kernel_rfl) (by decide) Tryz.underlying51 (by kernel_rfl) ⟨_, _, 1, Tryz.underlying74, rfl, rfl, by kernel_rfl, by decide⟩ (Ty.one Tryz.underlying72 (by kernel_rfl) (fun _ h => by cases h) (fun _ _ h => by cases h)) (Text.of Tryz.func61 rfl (by kernel_rfl)) A hi hcell6 (markIns x.code n0 S _ _ _ hy6 (hm.soft hsoft) hn0 (Nat.le_trans hsz hm.size) (hm.laid hn0 hsz hlaw) (by omega) (by omega)) fun a w A hm6 => ?_
  have hm := hm.trans hm6
  refine ⟨rfl, ?_, hm⟩
  rw [show k + ((sumTo cFn l (i + 1) : Nat) : Int) = ((((((k + ((sumTo cFn l i : Nat) : Int)) + 1) + ((x.args.length : Nat) : Int)) + ((x.rets.length : Nat) : Int)) + ((x.locals.length : Nat) : Int)) + ((x.takes.length : Nat) : Int)) + (((x.code.map cIns).sum : Nat) : Int) from by rw [hsu, hcx]; omega]
  exact A
set_option maxRecDepth 100000 in
theorem markMod (l : List Mod) (hlen : l.length ≤ 4611686018427387904) : MarkC Tryz.prog 11 (.sl 3 (l.map rMod)) ((l.map cMod).sum) := by
  intro n0 S w0 v k hsh hsoft hn0 hsz hlaw hk hk2
  obtain ⟨ad, n, cap, rfl, hn⟩ := hsh.form
  rw [List.length_map] at hn
  subst hn
  have hN : l.length ≤ 4611686018427387904 := by exact hlen
  refine Calls.mono (mark_fn (NT := 34) (tl := 33) (kv := fun i => k + ((sumTo cMod l i : Nat) : Int)) (J := fun _ w => Mk S w0 w) Tryz.func11 rfl rfl rfl rfl rfl rfl rfl rfl ⟨rfl, rfl, rfl⟩ ⟨rfl, rfl, rfl⟩ ⟨rfl, rfl, rfl⟩ ⟨rfl, rfl, rfl⟩ ⟨rfl, rfl, rfl⟩ ⟨rfl, rfl, rfl⟩ ⟨rfl, rfl, rfl⟩ ⟨rfl, rfl, rfl⟩ ⟨rfl, rfl, rfl⟩ ⟨rfl, rfl, rfl⟩ ⟨rfl, rfl, rfl⟩ rfl Tryz.underlying26 hN ?_ w0 (Mk.refl S w0) (kz := k) (by simp [sumTo])) fun en w h => ⟨by rw [h.1]; simp only [sumTo_all (Nat.le_refl _)], h.2⟩
  intro i a w hi A hm
  obtain ⟨x, hx⟩ := get_lt' hi
  have hr := map_at (f := rMod) hx
  obtain ⟨b, off, rfl, -⟩ := hsh.row hr
  have hle := sumTo_le cMod l (i + 1)
  have hsu := sumTo_succ (f := cMod) hx
  have hcx : cMod x = (x.records.map cRec).sum + (x.funcs.map cFn).sum + x.friends.length := rfl
  obtain ⟨hS, cur0, eb0, y0, hh0, hcur0, hp0, hcell0, hy0⟩ := cell_at (j := 0) hsh hsoft hm hr rfl
  refine wp_seq (rg_call (NT := 34) (k' := (k + ((sumTo cMod l i : Nat) : Int)) + (((x.records.map cRec).sum : Nat) : Int)) rfl ⟨rfl, rfl, rfl⟩ ⟨rfl, rfl, rfl⟩ ⟨rfl, rfl, rfl⟩ ⟨rfl, rfl, rfl⟩ ⟨rfl, rfl, rfl⟩ ⟨rfl, rfl, rfl⟩ ⟨rfl, rfl, rfl⟩ ⟨rfl, rfl, rfl⟩ (by kernel_rfl) (by decide) Tryz.underlying26 (by kernel_rfl) ⟨_, _, 1, Tryz.underlying53, rfl, rfl, by kernel_rfl, by decide⟩ (Ty.one Tryz.underlying50 (by kernel_rfl) (fun _ h => by cases h) (fun _ _ h => by cases h)) (Text.of Tryz.func29 rfl (by kernel_rfl)) A hi hcell0 (markRec x.records n0 S _ _ _ hy0 (hm.soft hsoft) hn0 (Nat.le_trans hsz hm.size) (hm.laid hn0 hsz hlaw) (by omega) (by omega)) fun a w A hm0 => ?_)
  have hm := hm.trans hm0
  obtain ⟨hS, cur1, eb1, y1, hh1, hcur1, hp1, hcell1, hy1⟩ := cell_at (j := 1) hsh hsoft hm hr rfl
  refine wp_seq (rg_call (NT := 34) (k' := ((k + ((sumTo cMod l i : Nat) : Int)) + (((x.records.map cRec).sum : Nat) : Int)) + (((x.funcs.map cFn).sum : Nat) : Int)) rfl ⟨rfl, rfl, rfl⟩ ⟨rfl, rfl, rfl⟩ ⟨rfl, rfl, rfl⟩ ⟨rfl, rfl, rfl⟩ ⟨rfl, rfl, rfl⟩ ⟨rfl, rfl, rfl⟩ ⟨rfl, rfl, rfl⟩ ⟨rfl, rfl, rfl⟩ (by kernel_rfl) (by decide) Tryz.underlying26 (by kernel_rfl) ⟨_, _, 1, Tryz.underlying53, rfl, rfl, by kernel_rfl, by decide⟩ (Ty.one Tryz.underlying51 (by kernel_rfl) (fun _ h => by cases h) (fun _ _ h => by cases h)) (Text.of Tryz.func30 rfl (by kernel_rfl)) A hi hcell1 (markFn x.funcs n0 S _ _ _ hy1 (hm.soft hsoft) hn0 (Nat.le_trans hsz hm.size) (hm.laid hn0 hsz hlaw) (by omega) (by omega)) fun a w A hm1 => ?_)
  have hm := hm.trans hm1
  obtain ⟨hS, cur2, eb2, y2, hh2, hcur2, hp2, hcell2, hy2⟩ := cell_at (j := 2) hsh hsoft hm hr rfl
  refine rg_call (NT := 34) (k' := (((k + ((sumTo cMod l i : Nat) : Int)) + (((x.records.map cRec).sum : Nat) : Int)) + (((x.funcs.map cFn).sum : Nat) : Int)) + ((x.friends.length : Nat) : Int)) rfl ⟨rfl, rfl, rfl⟩ ⟨rfl, rfl, rfl⟩ ⟨rfl, rfl, rfl⟩ ⟨rfl, rfl, rfl⟩ ⟨rfl, rfl, rfl⟩ ⟨rfl, rfl, rfl⟩ ⟨rfl, rfl, rfl⟩ ⟨rfl, rfl, rfl⟩ (by kernel_rfl) (by decide) Tryz.underlying26 (by kernel_rfl) ⟨_, _, 1, Tryz.underlying53, rfl, rfl, by kernel_rfl, by decide⟩ (Ty.one Tryz.underlying24 (by kernel_rfl) (fun _ h => by cases h) (fun _ _ h => by cases h)) (Text.of Tryz.func12 rfl (by kernel_rfl)) A hi hcell2 (markInt x.friends n0 S _ _ _ hy2 (hm.soft hsoft) hn0 (Nat.le_trans hsz hm.size) (hm.laid hn0 hsz hlaw) (by omega) (by omega)) fun a w A hm2 => ?_
  have hm := hm.trans hm2
  refine ⟨rfl, ?_, hm⟩
  rw [show k + ((sumTo cMod l (i + 1) : Nat) : Int) = (((k + ((sumTo cMod l i : Nat) : Int)) + (((x.records.map cRec).sum : Nat) : Int)) + (((x.funcs.map cFn).sum : Nat) : Int)) + ((x.friends.length : Nat) : Int) from by rw [hsu, hcx]; omega]
  exact A
end Go.Proofs.YtahciphhopiipaaGreatDoor
