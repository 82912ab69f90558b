/- The law, walked. -/
import Derived.Test.YtahciphhopiipaaGreatDoorR2
import Derived.Test.YtahciphhopiipaaGreatDoorU1
set_option linter.unusedVariables false
set_option linter.unusedSimpArgs false
namespace Go.Proofs.YtahciphhopiipaaGreatDoor
open Go Go.RowKit V

theorem dargs1 {N : Nat} {w : World} {v0 : Value} {x0 : SV} (h0 : DataIn N w v0 x0) : ∀ (i : Nat) x v, [x0][i]? = some x → (#[v0] : Array Value)[i]? = some v → DataIn N w v x := by
  intro i x v h1 h2
  match i with
  | 0 => simp at h1 h2; subst h1; subst h2; exact h0
  | i + 1 => simp at h1
theorem dargs2 {N : Nat} {w : World} {v0 v1 : Value} {x0 x1 : SV} (h0 : DataIn N w v0 x0) (h1 : DataIn N w v1 x1) : ∀ (i : Nat) x v, [x0, x1][i]? = some x → (#[v0, v1] : Array Value)[i]? = some v → DataIn N w v x := by
  intro i x v h2 h3
  match i with
  | 0 => simp at h2 h3; subst h2; subst h3; exact h0
  | 1 => simp at h2 h3; subst h2; subst h3; exact h1
  | i + 2 => simp at h2
theorem largs1 {N : Nat} {w : World} {v0 : Value} {x0 : SV} (h0 : DataIn N w v0 x0) : ∀ (i : Nat) p v, [Part.lf (.im false x0)][i]? = some p → (#[v0] : Array Value)[i]? = some v → ∃ x, (p = .lf (.im false x) ∨ (p = .lf (.im true x) ∧ x.isVal = true)) ∧ DataIn N w v x := by
  intro i x v h1 h2
  match i with
  | 0 => simp at h1 h2; subst h1; subst h2; exact ⟨x0, .inl rfl, h0⟩
  | i + 1 => simp at h1
theorem largs2 {N : Nat} {w : World} {v0 : Value} {x0 : SV} {n : Int} (h0 : DataIn N w v0 x0) : ∀ (i : Nat) p v, [Part.lf (.im false x0), .lf (.im true (.int .i64 n))][i]? = some p → (#[v0, .int .i64 n] : Array Value)[i]? = some v → ∃ x, (p = .lf (.im false x) ∨ (p = .lf (.im true x) ∧ x.isVal = true)) ∧ DataIn N w v x := by
  intro i x v h1 h2
  match i with
  | 0 => simp at h1 h2; subst h1; subst h2; exact ⟨x0, .inl rfl, h0⟩
  | 1 => simp at h1 h2; subst h1; subst h2; exact ⟨_, .inr ⟨rfl, rfl⟩, SRep.int _ _⟩
  | i + 2 => simp at h1

set_option maxHeartbeats 4000000 in
set_option maxRecDepth 100000 in
theorem law_uses (a : List Mod) (at' : Int) (ha : a.length ≤ 140737488355328) (hok : ∀ m ∈ a, m.ok) (w : World) (hlw : Lw w) (v0 : Value) (D0 : DataIn w.heap.size w v0 (.sl 3 (a.map rMod))) :
    Calls Tryz.prog 3 #[v0, .int .i64 at'] w fun e w' => e = .returned (.bool true) ∧ Below w.heap.size w w' := by
  refine calls_of_wp Tryz.func3 rfl ?_
  have hNT : Tryz.f3.ntmps = 74 := by kernel_rfl
  rw [hNT]
  have A := Knows.start (n := 74) #[v0, .int .i64 at'] (Nat.le_of_ble_eq_true rfl)
  have A : Knows 74 _ [(0, v0), (1, .int .i64 at')] := A
  refine A.gen (G := fun a => Code.wp _ _ _ a _) fun a1 A => ?_
  have hl := hlw
  have B := Below.refl w.heap.size w
  have B0 := Nat.le_refl w.heap.size
  refine wp_seq (wp_region ?_)
  show wpOps Tryz.prog _ _ [0] _ _
  refine k_copy (v := .bool false) rfl ⟨rfl, rfl, rfl⟩ (.inr rfl) rfl ?_
  have A := A.put 4 (.bool false) (by decide) (by simp)
  refine A.gen (G := fun a => wpOps _ _ _ _ a _) fun ac A => ?_
  refine k_end ?_
  show Code.wp _ _ _ _ _
  refine wp_seq (wp_region ?_)
  show wpOps Tryz.prog _ _ [0] _ _
  refine k_copy (v := .int .i64 1048576) rfl ⟨rfl, rfl, rfl⟩ (.inr rfl) rfl ?_
  have A := A.put 5 (.int .i64 1048576) (by decide) (by simp)
  refine A.gen (G := fun a => wpOps _ _ _ _ a _) fun ac A => ?_
  refine k_end ?_
  show Code.wp _ _ _ _ _
  refine wp_seq (wp_region ?_)
  show wpOps Tryz.prog _ _ [0, 1, 2, 3] _ _
  refine k_copy (v := v0) rfl ⟨rfl, rfl, rfl⟩ (.inl rfl) (A.get (t := 0) (v := v0) (by simp)) ?_
  have A := A.put 13 (v0) (by decide) (by simp)
  refine A.gen (G := fun a => wpOps _ _ _ _ a _) fun ac A => ?_
  refine k_copy (v := .int .i64 1048576) rfl ⟨rfl, rfl, rfl⟩ (.inl rfl) (A.get (t := 5) (v := .int .i64 1048576) (by simp)) ?_
  have A := A.put 14 (.int .i64 1048576) (by decide) (by simp)
  refine A.gen (G := fun a => wpOps _ _ _ _ a _) fun ac A => ?_
  refine k_call (args := #[v0, .int .i64 1048576]) rfl ⟨rfl, rfl, rfl⟩ (Text.of Tryz.func5 rfl (by kernel_rfl)) (by simp [(A.get (t := 13) (v := v0) (by simp)), (A.get (t := 14) (v := .int .i64 1048576) (by simp))]) (callI (xs := [.sl 3 (a.map rMod), .int .i64 1048576]) (y := .int .i64 (szR (wMods a) 1048576)) (laws_szModuleS_v a ha hok 1048576 (by decide) (by decide)) _ hl #[v0, .int .i64 1048576] rfl (dargs2 (DataIn.le D0 (Nat.le_refl _)) (SRep.int _ _))) ?_
  rintro en w1 ⟨r1, rfl, hB1, d1⟩
  obtain rfl := d1.num
  refine ⟨_, rfl, ?_⟩
  have B := below_step B B.size hB1
  have D0 := DataIn.below D0 hB1 (Nat.le_refl _)
  have s_w := hB1.size
  have hl : Lw w1 := Lw.stays B.block hlw
  have A := A.put 15 (.int .i64 (szR (wMods a) 1048576)) (by decide) (by simp)
  have A := A.keep [(15, .int .i64 (szR (wMods a) 1048576)), (5, .int .i64 1048576), (4, .bool false), (0, v0), (1, .int .i64 at')] (by simp)
  refine A.gen (G := fun a => wpOps _ _ _ _ a _) fun ac A => ?_
  refine k_copy (v := .int .i64 (szR (wMods a) 1048576)) rfl ⟨rfl, rfl, rfl⟩ (.inr rfl) (A.get (t := 15) (v := .int .i64 (szR (wMods a) 1048576)) (by simp)) ?_
  have A := A.keep [(15, .int .i64 (szR (wMods a) 1048576)), (4, .bool false), (0, v0), (1, .int .i64 at')] (by simp)
  have A := A.put 5 (.int .i64 (szR (wMods a) 1048576)) (by decide) (by simp)
  have A := A.keep [(5, .int .i64 (szR (wMods a) 1048576)), (4, .bool false), (0, v0), (1, .int .i64 at')] (by simp)
  refine A.gen (G := fun a => wpOps _ _ _ _ a _) fun ac A => ?_
  refine k_end ?_
  show Code.wp _ _ _ _ _
  refine wp_seq (wp_seq (wp_region ?_))
  show wpOps Tryz.prog _ _ [0, 1] _ _
  refine k_copy (v := .int .i64 (szR (wMods a) 1048576)) rfl ⟨rfl, rfl, rfl⟩ (.inl rfl) (A.get (t := 5) (v := .int .i64 (szR (wMods a) 1048576)) (by simp)) ?_
  have A := A.put 16 (.int .i64 (szR (wMods a) 1048576)) (by decide) (by simp)
  have A := A.keep [(16, .int .i64 (szR (wMods a) 1048576)), (4, .bool false), (0, v0), (1, .int .i64 at')] (by simp)
  refine A.gen (G := fun a => wpOps _ _ _ _ a _) fun ac A => ?_
  by_cases hneg : szR (wMods a) 1048576 < 0
  · refine k_bin (op := .lss) (k := .i64) (m := szR (wMods a) 1048576) (n := 0) (r := .bool true) (v := .bool true) rfl ⟨rfl, rfl, rfl⟩ (A.get (t := 16) (v := .int .i64 (szR (wMods a) 1048576)) (by simp)) rfl (by simp only [intOp]; rw [decide_eq_true hneg]) rfl ?_
    have A := A.put 17 (.bool true) (by decide) (by simp)
    have A := A.keep [(17, .bool true), (4, .bool false), (0, v0), (1, .int .i64 at')] (by simp)
    refine A.gen (G := fun a => wpOps _ _ _ _ a _) fun ac A => ?_
    refine k_end ?_
    show Code.wp _ _ _ _ _
    refine wp_cond_true (A.get (t := 17) (v := .bool true) (by simp)) ?_
    refine wp_seq (wp_region ?_)
    show wpOps Tryz.prog _ _ [0] _ _
    refine k_copy (v := .bool true) rfl ⟨rfl, rfl, rfl⟩ (.inr rfl) rfl ?_
    have A := A.keep [(17, .bool true), (0, v0), (1, .int .i64 at')] (by simp)
    have A := A.put 4 (.bool true) (by decide) (by simp)
    have A := A.keep [(4, .bool true), (0, v0), (1, .int .i64 at')] (by simp)
    refine A.gen (G := fun a => wpOps _ _ _ _ a _) fun ac A => ?_
    refine k_end ?_
    show Code.wp _ _ _ _ _
    refine wp_ret ?_
    have hend : bodyPost Tryz.prog Tryz.f3 (fun e w' => e = .returned (.bool true) ∧ Below w.heap.size w w') .ret _ _ := ⟨A.1, .bool true, run_results (P := Tryz.prog) Tryz.f3 _ [.bool true] (by have h := A.get (t := 4) (v := .bool true) (by simp); simp only [Act.eval] at h; simp [show Tryz.f3.results = #[.tmp 4] from rfl, resSem, h]), rfl, B⟩
    exact hend
  · refine k_bin (op := .lss) (k := .i64) (m := szR (wMods a) 1048576) (n := 0) (r := .bool false) (v := .bool false) rfl ⟨rfl, rfl, rfl⟩ (A.get (t := 16) (v := .int .i64 (szR (wMods a) 1048576)) (by simp)) rfl (by simp only [intOp]; rw [decide_eq_false hneg]) rfl ?_
    have A := A.put 17 (.bool false) (by decide) (by simp)
    have A := A.keep [(17, .bool false), (4, .bool false), (0, v0), (1, .int .i64 at')] (by simp)
    refine A.gen (G := fun a => wpOps _ _ _ _ a _) fun ac A => ?_
    refine k_end ?_
    show Code.wp _ _ _ _ _
    have e1 := szR_pos hneg (by decide)
    have hw : wMods a ≤ 1048576 := by omega
    have hs : smallS a := smallS_of hw
    have hs1 := hs.1
    have hcu : (usL a at').length ≤ 1048576 := Nat.le_trans (usL_len a at') hs1
    have hcm := cMods_le a
    have eqU : CallV Tryz.prog 9 [.lf (.im true (.sl 1 ((usL a at').map rI))), .lf (.im true (.sl 1 ((usL a at').map rI)))] (· = .lf (.im true (.bool true))) := by have h := laws_eqIntS_v (usL a at') (usL a at') (by omega); rw [decide_eq_true (rfl : usL a at' = usL a at')] at h; exact h
    have eqS : CallV Tryz.prog 10 [.lf (.im true (.sl 3 (a.map rMod))), .lf (.im true (.sl 3 (a.map rMod)))] (· = .lf (.im true (.bool true))) := by have h := laws_eqModuleS_v a a ha hok; rw [decide_eq_true (rfl : a = a)] at h; exact h
    obtain ⟨cu, hcud⟩ : ∃ cu, cu = (usL a at').length := ⟨_, rfl⟩
    rw [← hcud] at hcu
    refine wp_cond_false (A.get (t := 17) (v := .bool false) (by simp)) ?_
    refine wp_skip ?_
    show Code.wp _ _ _ _ _
    refine wp_seq (wp_region ?_)
    show wpOps Tryz.prog _ _ [0, 1, 2, 3, 4] _ _
    refine k_copy (v := v0) rfl ⟨rfl, rfl, rfl⟩ (.inl rfl) (A.get (t := 0) (v := v0) (by simp)) ?_
    have A := A.put 18 (v0) (by decide) (by simp)
    have A := A.keep [(18, v0), (4, .bool false), (0, v0), (1, .int .i64 at')] (by simp)
    refine A.gen (G := fun a => wpOps _ _ _ _ a _) fun ac A => ?_
    refine k_call (args := #[v0]) rfl ⟨rfl, rfl, rfl⟩ (Text.of Tryz.func7 rfl (by kernel_rfl)) (by simp [(A.get (t := 18) (v := v0) (by simp))]) (callI (xs := [.sl 3 (a.map rMod)]) (y := .sl 3 (a.map rMod)) (laws_toModuleS_v a hs1 hs.2) _ hl #[v0] rfl (dargs1 (DataIn.le D0 (s_w)))) ?_
    rintro en w2 ⟨r2, rfl, hB2, d2⟩
    refine ⟨_, rfl, ?_⟩
    have B := below_step B B.size hB2
    have D0 := DataIn.below D0 hB2 s_w
    have s_w := Nat.le_trans s_w hB2.size
    have hl : Lw w2 := Lw.stays B.block hlw
    have A := A.put 19 (r2) (by decide) (by simp)
    have A := A.keep [(19, r2), (4, .bool false), (0, v0), (1, .int .i64 at')] (by simp)
    refine A.gen (G := fun a => wpOps _ _ _ _ a _) fun ac A => ?_
    refine k_copy (v := .int .i64 at') rfl ⟨rfl, rfl, rfl⟩ (.inl rfl) (A.get (t := 1) (v := .int .i64 at') (by simp)) ?_
    have A := A.put 20 (.int .i64 at') (by decide) (by simp)
    refine A.gen (G := fun a => wpOps _ _ _ _ a _) fun ac A => ?_
    refine k_call (args := #[r2, .int .i64 at']) rfl ⟨rfl, rfl, rfl⟩ (Text.of Tryz.func6 rfl (by kernel_rfl)) (by simp [(A.get (t := 19) (v := r2) (by simp)), (A.get (t := 20) (v := .int .i64 at') (by simp))]) (callI (xs := [.sl 3 (a.map rMod), .int .i64 at']) (y := .sl 1 ((usL a at').map rI)) (spec_ShelfUses_v a hs at') _ hl #[r2, .int .i64 at'] rfl (dargs2 (DataIn.le d2 (Nat.le_refl _)) (SRep.int _ _))) ?_
    rintro en w3 ⟨r3, rfl, hB3, d3⟩
    refine ⟨_, rfl, ?_⟩
    have B := below_step B B.size hB3
    have D0 := DataIn.below D0 hB3 s_w
    have d2 := DataIn.below d2 hB3 (Nat.le_refl _)
    have s_w := Nat.le_trans s_w hB3.size
    have Bs_w3 := B.size
    have le_w_w3 := s_w
    have hl : Lw w3 := Lw.stays B.block hlw
    have A := A.put 21 (r3) (by decide) (by simp)
    have A := A.keep [(21, r3), (4, .bool false), (0, v0), (1, .int .i64 at')] (by simp)
    refine A.gen (G := fun a => wpOps _ _ _ _ a _) fun ac A => ?_
    refine k_copy (v := r3) rfl ⟨rfl, rfl, rfl⟩ (.inr rfl) (A.get (t := 21) (v := r3) (by simp)) ?_
    have A := A.put 6 (r3) (by decide) (by simp)
    have A := A.keep [(6, r3), (4, .bool false), (0, v0), (1, .int .i64 at')] (by simp)
    refine A.gen (G := fun a => wpOps _ _ _ _ a _) fun ac A => ?_
    refine k_end ?_
    show Code.wp _ _ _ _ _
    refine wp_seq (wp_region ?_)
    show wpOps Tryz.prog _ _ [0, 1, 2] _ _
    refine k_copy (v := v0) rfl ⟨rfl, rfl, rfl⟩ (.inl rfl) (A.get (t := 0) (v := v0) (by simp)) ?_
    have A := A.put 22 (v0) (by decide) (by simp)
    refine A.gen (G := fun a => wpOps _ _ _ _ a _) fun ac A => ?_
    refine k_call (args := #[v0]) rfl ⟨rfl, rfl, rfl⟩ (Text.of Tryz.func7 rfl (by kernel_rfl)) (by simp [(A.get (t := 22) (v := v0) (by simp))]) (callL (y := .sl 3 (a.map rMod)) (laws_toModuleS_vL a hs1 hs.2) _ hl #[v0] rfl (largs1 (DataIn.le D0 (s_w)))) ?_
    rintro en w4 ⟨r4, S4, rfl, hB4, d4, fd4, bd4⟩
    refine ⟨_, rfl, ?_⟩
    have B := below_step B B.size hB4
    have D0 := DataIn.below D0 hB4 s_w
    have d3 := DataIn.below d3 hB4 (Nat.le_refl _)
    have s_w := Nat.le_trans s_w hB4.size
    have s_w3 := hB4.size
    have Bs_w4 := B.size
    have le_w_w4 := s_w
    have le_w3_w4 := s_w3
    have hl : Lw w4 := Lw.stays B.block hlw
    have A := A.put 23 (r4) (by decide) (by simp)
    have A := A.keep [(23, r4), (6, r3), (4, .bool false), (0, v0), (1, .int .i64 at')] (by simp)
    refine A.gen (G := fun a => wpOps _ _ _ _ a _) fun ac A => ?_
    refine k_copy (v := r4) rfl ⟨rfl, rfl, rfl⟩ (.inr rfl) (A.get (t := 23) (v := r4) (by simp)) ?_
    have A := A.put 7 (r4) (by decide) (by simp)
    have A := A.keep [(7, r4), (6, r3), (4, .bool false), (0, v0), (1, .int .i64 at')] (by simp)
    refine A.gen (G := fun a => wpOps _ _ _ _ a _) fun ac A => ?_
    refine k_end ?_
    show Code.wp _ _ _ _ _
    refine wp_seq (wp_region ?_)
    show wpOps Tryz.prog _ _ [0, 1, 2, 3] _ _
    refine k_copy (v := r4) rfl ⟨rfl, rfl, rfl⟩ (.inl rfl) (A.get (t := 7) (v := r4) (by simp)) ?_
    have A := A.put 24 (r4) (by decide) (by simp)
    refine A.gen (G := fun a => wpOps _ _ _ _ a _) fun ac A => ?_
    refine k_copy (v := .int .i64 at') rfl ⟨rfl, rfl, rfl⟩ (.inl rfl) (A.get (t := 1) (v := .int .i64 at') (by simp)) ?_
    have A := A.put 25 (.int .i64 at') (by decide) (by simp)
    refine A.gen (G := fun a => wpOps _ _ _ _ a _) fun ac A => ?_
    refine k_call (args := #[r4, .int .i64 at']) rfl ⟨rfl, rfl, rfl⟩ (Text.of Tryz.func8 rfl (by kernel_rfl)) (by simp [(A.get (t := 24) (v := r4) (by simp)), (A.get (t := 25) (v := .int .i64 at') (by simp))]) (callL (y := .sl 1 ((usL a at').map rI)) (impl_ShelfUses_vL a hs at') _ hl #[r4, .int .i64 at'] rfl (largs2 (SRep.dataIn d4 (fun b hb => Nat.lt_of_lt_of_le (bd4 b hb).2 (Nat.le_refl _))))) ?_
    rintro en w5 ⟨r5, S5, rfl, hB5, d5, fd5, bd5⟩
    refine ⟨_, rfl, ?_⟩
    have B := below_step B B.size hB5
    have D0 := DataIn.below D0 hB5 s_w
    have d3 := DataIn.below d3 hB5 s_w3
    have d4 := SRep.kept d4 hB5 (fun b hb => Nat.lt_of_lt_of_le (bd4 b hb).2 (Nat.le_refl _))
    have fd4 := Soft.below fd4 hB5
    have s_w := Nat.le_trans s_w hB5.size
    have s_w3 := Nat.le_trans s_w3 hB5.size
    have s_w4 := hB5.size
    have Bs_w5 := B.size
    have le_w_w5 := s_w
    have le_w3_w5 := s_w3
    have le_w4_w5 := s_w4
    have hl : Lw w5 := Lw.stays B.block hlw
    have A := A.put 26 (r5) (by decide) (by simp)
    have A := A.keep [(26, r5), (7, r4), (6, r3), (4, .bool false), (0, v0), (1, .int .i64 at')] (by simp)
    refine A.gen (G := fun a => wpOps _ _ _ _ a _) fun ac A => ?_
    refine k_copy (v := r5) rfl ⟨rfl, rfl, rfl⟩ (.inr rfl) (A.get (t := 26) (v := r5) (by simp)) ?_
    have A := A.put 8 (r5) (by decide) (by simp)
    have A := A.keep [(8, r5), (7, r4), (6, r3), (4, .bool false), (0, v0), (1, .int .i64 at')] (by simp)
    refine A.gen (G := fun a => wpOps _ _ _ _ a _) fun ac A => ?_
    refine k_end ?_
    show Code.wp _ _ _ _ _
    refine wp_seq (wp_seq (wp_region ?_))
    show wpOps Tryz.prog _ _ [0, 1, 2, 3] _ _
    refine k_copy (v := r5) rfl ⟨rfl, rfl, rfl⟩ (.inl rfl) (A.get (t := 8) (v := r5) (by simp)) ?_
    have A := A.put 27 (r5) (by decide) (by simp)
    refine A.gen (G := fun a => wpOps _ _ _ _ a _) fun ac A => ?_
    refine k_copy (v := r3) rfl ⟨rfl, rfl, rfl⟩ (.inl rfl) (A.get (t := 6) (v := r3) (by simp)) ?_
    have A := A.put 28 (r3) (by decide) (by simp)
    refine A.gen (G := fun a => wpOps _ _ _ _ a _) fun ac A => ?_
    refine k_call (args := #[r5, r3]) rfl ⟨rfl, rfl, rfl⟩ (Text.of Tryz.func9 rfl (by kernel_rfl)) (by simp [(A.get (t := 27) (v := r5) (by simp)), (A.get (t := 28) (v := r3) (by simp))]) (callI (xs := [.sl 1 ((usL a at').map rI), .sl 1 ((usL a at').map rI)]) (y := .bool true) (eqU) _ hl #[r5, r3] rfl (dargs2 (SRep.dataIn d5 (fun b hb => Nat.lt_of_lt_of_le (bd5 b hb).2 (Nat.le_refl _))) (DataIn.le d3 (s_w3)))) ?_
    rintro en w6 ⟨r6, rfl, hB6, d6⟩
    obtain rfl := d6.truth
    refine ⟨_, rfl, ?_⟩
    have B := below_step B B.size hB6
    have D0 := DataIn.below D0 hB6 s_w
    have d3 := DataIn.below d3 hB6 s_w3
    have d4 := SRep.kept d4 hB6 (fun b hb => Nat.lt_of_lt_of_le (bd4 b hb).2 s_w4)
    have fd4 := Soft.below fd4 hB6
    have d5 := SRep.kept d5 hB6 (fun b hb => Nat.lt_of_lt_of_le (bd5 b hb).2 (Nat.le_refl _))
    have fd5 := Soft.below fd5 hB6
    have s_w := Nat.le_trans s_w hB6.size
    have s_w3 := Nat.le_trans s_w3 hB6.size
    have s_w4 := Nat.le_trans s_w4 hB6.size
    have s_w5 := hB6.size
    have hl : Lw w6 := Lw.stays B.block hlw
    have A := A.put 29 (.bool true) (by decide) (by simp)
    have A := A.keep [(29, .bool true), (8, r5), (7, r4), (6, r3), (4, .bool false), (0, v0), (1, .int .i64 at')] (by simp)
    refine A.gen (G := fun a => wpOps _ _ _ _ a _) fun ac A => ?_
    refine k_not (b := true) rfl ⟨rfl, rfl, rfl⟩ (A.get (t := 29) (v := .bool true) (by simp)) ?_
    have A := A.put 30 (.bool false) (by decide) (by simp)
    have A := A.keep [(30, .bool false), (8, r5), (7, r4), (6, r3), (4, .bool false), (0, v0), (1, .int .i64 at')] (by simp)
    refine A.gen (G := fun a => wpOps _ _ _ _ a _) fun ac A => ?_
    refine k_end ?_
    show Code.wp _ _ _ _ _
    refine wp_cond_false (A.get (t := 30) (v := .bool false) (by simp)) ?_
    refine wp_skip ?_
    show Code.wp _ _ _ _ _
    refine wp_seq (wp_seq (wp_region ?_))
    show wpOps Tryz.prog _ _ [0, 1, 2, 3, 4] _ _
    refine k_copy (v := r4) rfl ⟨rfl, rfl, rfl⟩ (.inl rfl) (A.get (t := 7) (v := r4) (by simp)) ?_
    have A := A.put 31 (r4) (by decide) (by simp)
    have A := A.keep [(31, r4), (8, r5), (7, r4), (6, r3), (4, .bool false), (0, v0), (1, .int .i64 at')] (by simp)
    refine A.gen (G := fun a => wpOps _ _ _ _ a _) fun ac A => ?_
    refine k_copy (v := v0) rfl ⟨rfl, rfl, rfl⟩ (.inl rfl) (A.get (t := 0) (v := v0) (by simp)) ?_
    have A := A.put 32 (v0) (by decide) (by simp)
    refine A.gen (G := fun a => wpOps _ _ _ _ a _) fun ac A => ?_
    refine k_call (args := #[v0]) rfl ⟨rfl, rfl, rfl⟩ (Text.of Tryz.func7 rfl (by kernel_rfl)) (by simp [(A.get (t := 32) (v := v0) (by simp))]) (callI (xs := [.sl 3 (a.map rMod)]) (y := .sl 3 (a.map rMod)) (laws_toModuleS_v a hs1 hs.2) _ hl #[v0] rfl (dargs1 (DataIn.le D0 (s_w)))) ?_
    rintro en w7 ⟨r7, rfl, hB7, d7⟩
    refine ⟨_, rfl, ?_⟩
    have B := below_step B B.size hB7
    have D0 := DataIn.below D0 hB7 s_w
    have d3 := DataIn.below d3 hB7 s_w3
    have d4 := SRep.kept d4 hB7 (fun b hb => Nat.lt_of_lt_of_le (bd4 b hb).2 s_w4)
    have fd4 := Soft.below fd4 hB7
    have d5 := SRep.kept d5 hB7 (fun b hb => Nat.lt_of_lt_of_le (bd5 b hb).2 s_w5)
    have fd5 := Soft.below fd5 hB7
    have s_w := Nat.le_trans s_w hB7.size
    have s_w3 := Nat.le_trans s_w3 hB7.size
    have s_w4 := Nat.le_trans s_w4 hB7.size
    have s_w5 := Nat.le_trans s_w5 hB7.size
    have hl : Lw w7 := Lw.stays B.block hlw
    have A := A.put 33 (r7) (by decide) (by simp)
    have A := A.keep [(33, r7), (31, r4), (8, r5), (7, r4), (6, r3), (4, .bool false), (0, v0), (1, .int .i64 at')] (by simp)
    refine A.gen (G := fun a => wpOps _ _ _ _ a _) fun ac A => ?_
    refine k_call (args := #[r4, r7]) rfl ⟨rfl, rfl, rfl⟩ (Text.of Tryz.func10 rfl (by kernel_rfl)) (by simp [(A.get (t := 31) (v := r4) (by simp)), (A.get (t := 33) (v := r7) (by simp))]) (callI (xs := [.sl 3 (a.map rMod), .sl 3 (a.map rMod)]) (y := .bool true) (eqS) _ hl #[r4, r7] rfl (dargs2 (SRep.dataIn d4 (fun b hb => Nat.lt_of_lt_of_le (bd4 b hb).2 (s_w4))) (DataIn.le d7 (Nat.le_refl _)))) ?_
    rintro en w8 ⟨r8, rfl, hB8, d8⟩
    obtain rfl := d8.truth
    refine ⟨_, rfl, ?_⟩
    have B := below_step B B.size hB8
    have D0 := DataIn.below D0 hB8 s_w
    have d3 := DataIn.below d3 hB8 s_w3
    have d4 := SRep.kept d4 hB8 (fun b hb => Nat.lt_of_lt_of_le (bd4 b hb).2 s_w4)
    have fd4 := Soft.below fd4 hB8
    have d5 := SRep.kept d5 hB8 (fun b hb => Nat.lt_of_lt_of_le (bd5 b hb).2 s_w5)
    have fd5 := Soft.below fd5 hB8
    have d7 := DataIn.below d7 hB8 (Nat.le_refl _)
    have s_w := Nat.le_trans s_w hB8.size
    have s_w3 := Nat.le_trans s_w3 hB8.size
    have s_w4 := Nat.le_trans s_w4 hB8.size
    have s_w5 := Nat.le_trans s_w5 hB8.size
    have hl : Lw w8 := Lw.stays B.block hlw
    have A := A.put 34 (.bool true) (by decide) (by simp)
    have A := A.keep [(34, .bool true), (8, r5), (7, r4), (6, r3), (4, .bool false), (0, v0), (1, .int .i64 at')] (by simp)
    refine A.gen (G := fun a => wpOps _ _ _ _ a _) fun ac A => ?_
    refine k_not (b := true) rfl ⟨rfl, rfl, rfl⟩ (A.get (t := 34) (v := .bool true) (by simp)) ?_
    have A := A.put 35 (.bool false) (by decide) (by simp)
    have A := A.keep [(35, .bool false), (8, r5), (7, r4), (6, r3), (4, .bool false), (0, v0), (1, .int .i64 at')] (by simp)
    refine A.gen (G := fun a => wpOps _ _ _ _ a _) fun ac A => ?_
    refine k_end ?_
    show Code.wp _ _ _ _ _
    refine wp_cond_false (A.get (t := 35) (v := .bool false) (by simp)) ?_
    refine wp_skip ?_
    show Code.wp _ _ _ _ _
    refine wp_seq (wp_region ?_)
    show wpOps Tryz.prog _ _ [0] _ _
    refine k_copy (v := .int .i64 1) rfl ⟨rfl, rfl, rfl⟩ (.inr rfl) rfl ?_
    have A := A.put 9 (.int .i64 1) (by decide) (by simp)
    have A := A.keep [(9, .int .i64 1), (8, r5), (7, r4), (6, r3), (4, .bool false), (0, v0), (1, .int .i64 at')] (by simp)
    refine A.gen (G := fun a => wpOps _ _ _ _ a _) fun ac A => ?_
    refine k_end ?_
    show Code.wp _ _ _ _ _
    refine wp_seq (wp_region ?_)
    show wpOps Tryz.prog _ _ [0, 1, 2, 3] _ _
    refine k_copy (v := r4) rfl ⟨rfl, rfl, rfl⟩ (.inl rfl) (A.get (t := 7) (v := r4) (by simp)) ?_
    have A := A.put 36 (r4) (by decide) (by simp)
    have A := A.keep [(36, r4), (9, .int .i64 1), (8, r5), (6, r3), (4, .bool false), (0, v0), (1, .int .i64 at')] (by simp)
    refine A.gen (G := fun a => wpOps _ _ _ _ a _) fun ac A => ?_
    refine k_copy (v := .int .i64 1) rfl ⟨rfl, rfl, rfl⟩ (.inl rfl) (A.get (t := 9) (v := .int .i64 1) (by simp)) ?_
    have A := A.put 37 (.int .i64 1) (by decide) (by simp)
    refine A.gen (G := fun a => wpOps _ _ _ _ a _) fun ac A => ?_
    refine k_call (args := #[r4, .int .i64 1]) rfl ⟨rfl, rfl, rfl⟩ (Text.of Tryz.func11 rfl (by kernel_rfl)) (by simp [(A.get (t := 36) (v := r4) (by simp)), (A.get (t := 37) (v := .int .i64 1) (by simp))]) (markMod a (by omega) w3.heap.size _ _ _ 1 d4.sh fd4 (fun b hb => (bd4 b hb).1) s_w3 (fun w2 h => Lw.stays (fun b hb => (h b (Nat.lt_of_lt_of_le hb Bs_w3)).trans (B.block b hb)) hlw) (by decide) (by omega)) ?_
    rintro en w9 ⟨rfl, hm⟩
    refine ⟨_, rfl, ?_⟩
    have B := below_mk B B.size hm (fun b hb => Nat.le_trans Bs_w3 (bd4 b hb).1)
    have D0 := SRep.apart D0 hm (fun b hb => ⟨Nat.lt_of_lt_of_le hb s_w, fun hs => by have h1 := (bd4 b hs).1; have h2 := le_w_w3; omega⟩)
    have d3 := SRep.apart d3 hm (fun b hb => ⟨Nat.lt_of_lt_of_le hb s_w3, fun hs => by have h1 := (bd4 b hs).1; have h2 := Nat.le_refl w3.heap.size; omega⟩)
    have d5 := SRep.apart d5 hm (fun b hb => ⟨Nat.lt_of_lt_of_le (bd5 b hb).2 s_w5, fun hs => by have h1 := bd4 b hs; have h2 := bd5 b hb; omega⟩)
    have fd5 := Soft.apart fd5 hm (fun b hb hs => by have h1 := bd4 b hs; have h2 := bd5 b hb; omega)
    have s_w := Nat.le_trans s_w hm.size
    have s_w3 := Nat.le_trans s_w3 hm.size
    have s_w4 := Nat.le_trans s_w4 hm.size
    have s_w5 := Nat.le_trans s_w5 hm.size
    have hl : Lw w9 := Lw.stays B.block hlw
    have A := A.put 38 (.int .i64 (1 + (((a.map cMod).sum : Nat) : Int))) (by decide) (by simp)
    have A := A.keep [(38, .int .i64 (1 + (((a.map cMod).sum : Nat) : Int))), (9, .int .i64 1), (8, r5), (6, r3), (4, .bool false), (0, v0), (1, .int .i64 at')] (by simp)
    refine A.gen (G := fun a => wpOps _ _ _ _ a _) fun ac A => ?_
    refine k_copy (v := .int .i64 (1 + (((a.map cMod).sum : Nat) : Int))) rfl ⟨rfl, rfl, rfl⟩ (.inr rfl) (A.get (t := 38) (v := .int .i64 (1 + (((a.map cMod).sum : Nat) : Int))) (by simp)) ?_
    have A := A.keep [(38, .int .i64 (1 + (((a.map cMod).sum : Nat) : Int))), (8, r5), (6, r3), (4, .bool false), (0, v0), (1, .int .i64 at')] (by simp)
    have A := A.put 9 (.int .i64 (1 + (((a.map cMod).sum : Nat) : Int))) (by decide) (by simp)
    have A := A.keep [(9, .int .i64 (1 + (((a.map cMod).sum : Nat) : Int))), (8, r5), (6, r3), (4, .bool false), (0, v0), (1, .int .i64 at')] (by simp)
    refine A.gen (G := fun a => wpOps _ _ _ _ a _) fun ac A => ?_
    refine k_end ?_
    show Code.wp _ _ _ _ _
    refine wp_seq (wp_seq (wp_region ?_))
    show wpOps Tryz.prog _ _ [0, 1, 2, 3, 4, 5, 6, 7] _ _
    refine k_copy (v := .int .i64 (1 + (((a.map cMod).sum : Nat) : Int))) rfl ⟨rfl, rfl, rfl⟩ (.inl rfl) (A.get (t := 9) (v := .int .i64 (1 + (((a.map cMod).sum : Nat) : Int))) (by simp)) ?_
    have A := A.put 39 (.int .i64 (1 + (((a.map cMod).sum : Nat) : Int))) (by decide) (by simp)
    have A := A.keep [(39, .int .i64 (1 + (((a.map cMod).sum : Nat) : Int))), (8, r5), (6, r3), (4, .bool false), (0, v0), (1, .int .i64 at')] (by simp)
    refine A.gen (G := fun a => wpOps _ _ _ _ a _) fun ac A => ?_
    refine k_bin (op := .lss) (k := .i64) (m := (1 + (((a.map cMod).sum : Nat) : Int))) (n := 0) (r := .bool false) (v := .bool false) rfl ⟨rfl, rfl, rfl⟩ (A.get (t := 39) (v := .int .i64 (1 + (((a.map cMod).sum : Nat) : Int))) (by simp)) rfl (by simp only [intOp]; rw [decide_eq_false (show ¬ (((1 + (((a.map cMod).sum : Nat) : Int)) : Int) < 0) by omega)]) rfl ?_
    have A := A.put 40 (.bool false) (by decide) (by simp)
    have A := A.keep [(40, .bool false), (8, r5), (6, r3), (4, .bool false), (0, v0), (1, .int .i64 at')] (by simp)
    refine A.gen (G := fun a => wpOps _ _ _ _ a _) fun ac A => ?_
    refine k_copy (v := .bool false) rfl ⟨rfl, rfl, rfl⟩ (.inl rfl) (A.get (t := 40) (v := .bool false) (by simp)) ?_
    have A := A.put 41 (.bool false) (by decide) (by simp)
    have A := A.keep [(41, .bool false), (8, r5), (6, r3), (4, .bool false), (0, v0), (1, .int .i64 at')] (by simp)
    refine A.gen (G := fun a => wpOps _ _ _ _ a _) fun ac A => ?_
    refine g_copy (v := r5) rfl (wanted_of A rfl rfl rfl (by simp) (by decide)) (.inl rfl) rfl (A.get (t := 8) (v := r5) (by simp)) ?_
    have A := A.put 42 (r5) (by decide) (by simp)
    refine A.gen (G := fun a => wpOps _ _ _ _ a _) fun ac A => ?_
    refine g_copy (v := r3) rfl (wanted_of A rfl rfl rfl (by simp) (by decide)) (.inl rfl) rfl (A.get (t := 6) (v := r3) (by simp)) ?_
    have A := A.put 43 (r3) (by decide) (by simp)
    refine A.gen (G := fun a => wpOps _ _ _ _ a _) fun ac A => ?_
    refine g_call (args := #[r5, r3]) rfl (wanted_of A rfl rfl rfl (by simp) (by decide)) rfl rfl (Text.of Tryz.func9 rfl (by kernel_rfl)) (by simp [(A.get (t := 42) (v := r5) (by simp)), (A.get (t := 43) (v := r3) (by simp))]) (callI (xs := [.sl 1 ((usL a at').map rI), .sl 1 ((usL a at').map rI)]) (y := .bool true) (eqU) _ hl #[r5, r3] rfl (dargs2 (SRep.dataIn d5 (fun b hb => Nat.lt_of_lt_of_le (bd5 b hb).2 (s_w5))) (DataIn.le d3 (s_w3)))) ?_
    rintro en w10 ⟨r10, rfl, hB10, d10⟩
    obtain rfl := d10.truth
    refine ⟨_, rfl, ?_⟩
    have B := below_step B B.size hB10
    have D0 := DataIn.below D0 hB10 s_w
    have d3 := DataIn.below d3 hB10 s_w3
    have d5 := SRep.kept d5 hB10 (fun b hb => Nat.lt_of_lt_of_le (bd5 b hb).2 s_w5)
    have fd5 := Soft.below fd5 hB10
    have s_w := Nat.le_trans s_w hB10.size
    have s_w3 := Nat.le_trans s_w3 hB10.size
    have s_w4 := Nat.le_trans s_w4 hB10.size
    have s_w5 := Nat.le_trans s_w5 hB10.size
    have hl : Lw w10 := Lw.stays B.block hlw
    have A := A.put 44 (.bool true) (by decide) (by simp)
    have A := A.keep [(44, .bool true), (41, .bool false), (8, r5), (6, r3), (4, .bool false), (0, v0), (1, .int .i64 at')] (by simp)
    refine A.gen (G := fun a => wpOps _ _ _ _ a _) fun ac A => ?_
    refine g_not (b := true) rfl (wanted_of A rfl rfl rfl (by simp) (by decide)) rfl rfl (A.get (t := 44) (v := .bool true) (by simp)) ?_
    have A := A.put 45 (.bool false) (by decide) (by simp)
    have A := A.keep [(45, .bool false), (41, .bool false), (8, r5), (6, r3), (4, .bool false), (0, v0), (1, .int .i64 at')] (by simp)
    refine A.gen (G := fun a => wpOps _ _ _ _ a _) fun ac A => ?_
    refine k_pick (b := false) (v := .bool false) rfl ⟨rfl, rfl, rfl⟩ (A.get (t := 41) (v := .bool false) (by simp)) (A.get (t := 45) (v := .bool false) (by simp)) ?_
    have A := A.put 46 (.bool false) (by decide) (by simp)
    have A := A.keep [(46, .bool false), (8, r5), (6, r3), (4, .bool false), (0, v0), (1, .int .i64 at')] (by simp)
    refine A.gen (G := fun a => wpOps _ _ _ _ a _) fun ac A => ?_
    refine k_end ?_
    show Code.wp _ _ _ _ _
    refine wp_cond_false (A.get (t := 46) (v := .bool false) (by simp)) ?_
    refine wp_skip ?_
    show Code.wp _ _ _ _ _
    refine wp_seq (wp_region ?_)
    show wpOps Tryz.prog _ _ [0] _ _
    refine k_copy (v := .int .i64 1) rfl ⟨rfl, rfl, rfl⟩ (.inr rfl) rfl ?_
    have A := A.put 10 (.int .i64 1) (by decide) (by simp)
    have A := A.keep [(10, .int .i64 1), (8, r5), (6, r3), (4, .bool false), (0, v0), (1, .int .i64 at')] (by simp)
    refine A.gen (G := fun a => wpOps _ _ _ _ a _) fun ac A => ?_
    refine k_end ?_
    show Code.wp _ _ _ _ _
    refine wp_seq (wp_region ?_)
    show wpOps Tryz.prog _ _ [0, 1, 2, 3] _ _
    refine k_copy (v := r5) rfl ⟨rfl, rfl, rfl⟩ (.inl rfl) (A.get (t := 8) (v := r5) (by simp)) ?_
    have A := A.put 47 (r5) (by decide) (by simp)
    refine A.gen (G := fun a => wpOps _ _ _ _ a _) fun ac A => ?_
    refine k_copy (v := .int .i64 1) rfl ⟨rfl, rfl, rfl⟩ (.inl rfl) (A.get (t := 10) (v := .int .i64 1) (by simp)) ?_
    have A := A.put 48 (.int .i64 1) (by decide) (by simp)
    refine A.gen (G := fun a => wpOps _ _ _ _ a _) fun ac A => ?_
    refine k_call (args := #[r5, .int .i64 1]) rfl ⟨rfl, rfl, rfl⟩ (Text.of Tryz.func12 rfl (by kernel_rfl)) (by simp [(A.get (t := 47) (v := r5) (by simp)), (A.get (t := 48) (v := .int .i64 1) (by simp))]) (by have hh := markInt_x (usL a at') (by omega) _ _ _ d5 fd5; rw [← hcud] at hh; exact hh) ?_
    rintro en w11 ⟨rfl, hm, dm⟩
    refine ⟨_, rfl, ?_⟩
    have B := below_mk B B.size hm (fun b hb => Nat.le_trans Bs_w4 (bd5 b hb).1)
    have D0 := SRep.apart D0 hm (fun b hb => ⟨Nat.lt_of_lt_of_le hb s_w, fun hs => by have h1 := (bd5 b hs).1; have h2 := le_w_w4; omega⟩)
    have d3 := SRep.apart d3 hm (fun b hb => ⟨Nat.lt_of_lt_of_le hb s_w3, fun hs => by have h1 := (bd5 b hs).1; have h2 := le_w3_w4; omega⟩)
    have d5 := dm
    have fd5 := hm.soft fd5
    have s_w := Nat.le_trans s_w hm.size
    have s_w3 := Nat.le_trans s_w3 hm.size
    have s_w4 := Nat.le_trans s_w4 hm.size
    have s_w5 := Nat.le_trans s_w5 hm.size
    have hl : Lw w11 := Lw.stays B.block hlw
    have A := A.put 49 (.int .i64 (1 + ((cu : Nat) : Int))) (by decide) (by simp)
    have A := A.keep [(49, .int .i64 (1 + ((cu : Nat) : Int))), (10, .int .i64 1), (8, r5), (6, r3), (4, .bool false), (0, v0), (1, .int .i64 at')] (by simp)
    refine A.gen (G := fun a => wpOps _ _ _ _ a _) fun ac A => ?_
    refine k_copy (v := .int .i64 (1 + ((cu : Nat) : Int))) rfl ⟨rfl, rfl, rfl⟩ (.inr rfl) (A.get (t := 49) (v := .int .i64 (1 + ((cu : Nat) : Int))) (by simp)) ?_
    have A := A.keep [(49, .int .i64 (1 + ((cu : Nat) : Int))), (8, r5), (6, r3), (4, .bool false), (0, v0), (1, .int .i64 at')] (by simp)
    have A := A.put 10 (.int .i64 (1 + ((cu : Nat) : Int))) (by decide) (by simp)
    have A := A.keep [(10, .int .i64 (1 + ((cu : Nat) : Int))), (8, r5), (6, r3), (4, .bool false), (0, v0), (1, .int .i64 at')] (by simp)
    refine A.gen (G := fun a => wpOps _ _ _ _ a _) fun ac A => ?_
    refine k_end ?_
    show Code.wp _ _ _ _ _
    refine wp_seq (wp_region ?_)
    show wpOps Tryz.prog _ _ [0] _ _
    refine k_copy (v := .int .i64 1) rfl ⟨rfl, rfl, rfl⟩ (.inr rfl) rfl ?_
    have A := A.put 11 (.int .i64 1) (by decide) (by simp)
    refine A.gen (G := fun a => wpOps _ _ _ _ a _) fun ac A => ?_
    refine k_end ?_
    show Code.wp _ _ _ _ _
    refine wp_seq (wp_region ?_)
    show wpOps Tryz.prog _ _ [0, 1, 2, 3] _ _
    refine k_copy (v := r5) rfl ⟨rfl, rfl, rfl⟩ (.inl rfl) (A.get (t := 8) (v := r5) (by simp)) ?_
    have A := A.put 50 (r5) (by decide) (by simp)
    refine A.gen (G := fun a => wpOps _ _ _ _ a _) fun ac A => ?_
    refine k_copy (v := .int .i64 1) rfl ⟨rfl, rfl, rfl⟩ (.inl rfl) (A.get (t := 11) (v := .int .i64 1) (by simp)) ?_
    have A := A.put 51 (.int .i64 1) (by decide) (by simp)
    refine A.gen (G := fun a => wpOps _ _ _ _ a _) fun ac A => ?_
    refine k_call (args := #[r5, .int .i64 1]) rfl ⟨rfl, rfl, rfl⟩ (Text.of Tryz.func13 rfl (by kernel_rfl)) (by simp [(A.get (t := 50) (v := r5) (by simp)), (A.get (t := 51) (v := .int .i64 1) (by simp))]) (callI (xs := [.sl 1 ((marksL cu).map rI), .int .i64 1]) (y := .int .i64 (1 + ((cu : Nat) : Int))) (held_marks cu (by omega)) _ hl #[r5, .int .i64 1] rfl (dargs2 (SRep.dataIn d5 (fun b hb => Nat.lt_of_lt_of_le (bd5 b hb).2 (s_w5))) (SRep.int _ _))) ?_
    rintro en w12 ⟨r12, rfl, hB12, d12⟩
    obtain rfl := d12.num
    refine ⟨_, rfl, ?_⟩
    have B := below_step B B.size hB12
    have D0 := DataIn.below D0 hB12 s_w
    have d3 := DataIn.below d3 hB12 s_w3
    have d5 := SRep.kept d5 hB12 (fun b hb => Nat.lt_of_lt_of_le (bd5 b hb).2 s_w5)
    have fd5 := Soft.below fd5 hB12
    have s_w := Nat.le_trans s_w hB12.size
    have s_w3 := Nat.le_trans s_w3 hB12.size
    have s_w4 := Nat.le_trans s_w4 hB12.size
    have s_w5 := Nat.le_trans s_w5 hB12.size
    have hl : Lw w12 := Lw.stays B.block hlw
    have A := A.put 52 (.int .i64 (1 + ((cu : Nat) : Int))) (by decide) (by simp)
    have A := A.keep [(52, .int .i64 (1 + ((cu : Nat) : Int))), (11, .int .i64 1), (10, .int .i64 (1 + ((cu : Nat) : Int))), (8, r5), (6, r3), (4, .bool false), (0, v0), (1, .int .i64 at')] (by simp)
    refine A.gen (G := fun a => wpOps _ _ _ _ a _) fun ac A => ?_
    refine k_copy (v := .int .i64 (1 + ((cu : Nat) : Int))) rfl ⟨rfl, rfl, rfl⟩ (.inr rfl) (A.get (t := 52) (v := .int .i64 (1 + ((cu : Nat) : Int))) (by simp)) ?_
    have A := A.keep [(52, .int .i64 (1 + ((cu : Nat) : Int))), (10, .int .i64 (1 + ((cu : Nat) : Int))), (8, r5), (6, r3), (4, .bool false), (0, v0), (1, .int .i64 at')] (by simp)
    have A := A.put 11 (.int .i64 (1 + ((cu : Nat) : Int))) (by decide) (by simp)
    have A := A.keep [(11, .int .i64 (1 + ((cu : Nat) : Int))), (10, .int .i64 (1 + ((cu : Nat) : Int))), (8, r5), (6, r3), (4, .bool false), (0, v0), (1, .int .i64 at')] (by simp)
    refine A.gen (G := fun a => wpOps _ _ _ _ a _) fun ac A => ?_
    refine k_end ?_
    show Code.wp _ _ _ _ _
    refine wp_seq (wp_seq (wp_region ?_))
    show wpOps Tryz.prog _ _ [0, 1] _ _
    refine k_copy (v := .int .i64 (1 + ((cu : Nat) : Int))) rfl ⟨rfl, rfl, rfl⟩ (.inl rfl) (A.get (t := 11) (v := .int .i64 (1 + ((cu : Nat) : Int))) (by simp)) ?_
    have A := A.put 53 (.int .i64 (1 + ((cu : Nat) : Int))) (by decide) (by simp)
    refine A.gen (G := fun a => wpOps _ _ _ _ a _) fun ac A => ?_
    refine k_bin (op := .lss) (k := .i64) (m := (1 + ((cu : Nat) : Int))) (n := 0) (r := .bool false) (v := .bool false) rfl ⟨rfl, rfl, rfl⟩ (A.get (t := 53) (v := .int .i64 (1 + ((cu : Nat) : Int))) (by simp)) rfl (by simp only [intOp]; rw [decide_eq_false (show ¬ (((1 + ((cu : Nat) : Int)) : Int) < 0) by omega)]) rfl ?_
    have A := A.put 54 (.bool false) (by decide) (by simp)
    have A := A.keep [(54, .bool false), (11, .int .i64 (1 + ((cu : Nat) : Int))), (10, .int .i64 (1 + ((cu : Nat) : Int))), (8, r5), (6, r3), (4, .bool false), (0, v0), (1, .int .i64 at')] (by simp)
    refine A.gen (G := fun a => wpOps _ _ _ _ a _) fun ac A => ?_
    refine k_end ?_
    show Code.wp _ _ _ _ _
    refine wp_cond_false (A.get (t := 54) (v := .bool false) (by simp)) ?_
    refine wp_skip ?_
    show Code.wp _ _ _ _ _
    refine wp_seq (wp_seq (wp_region ?_))
    show wpOps Tryz.prog _ _ [0, 1, 2] _ _
    refine k_copy (v := .int .i64 (1 + ((cu : Nat) : Int))) rfl ⟨rfl, rfl, rfl⟩ (.inl rfl) (A.get (t := 11) (v := .int .i64 (1 + ((cu : Nat) : Int))) (by simp)) ?_
    have A := A.put 55 (.int .i64 (1 + ((cu : Nat) : Int))) (by decide) (by simp)
    have A := A.keep [(55, .int .i64 (1 + ((cu : Nat) : Int))), (11, .int .i64 (1 + ((cu : Nat) : Int))), (10, .int .i64 (1 + ((cu : Nat) : Int))), (8, r5), (6, r3), (4, .bool false), (0, v0), (1, .int .i64 at')] (by simp)
    refine A.gen (G := fun a => wpOps _ _ _ _ a _) fun ac A => ?_
    refine k_copy (v := .int .i64 (1 + ((cu : Nat) : Int))) rfl ⟨rfl, rfl, rfl⟩ (.inl rfl) (A.get (t := 10) (v := .int .i64 (1 + ((cu : Nat) : Int))) (by simp)) ?_
    have A := A.put 56 (.int .i64 (1 + ((cu : Nat) : Int))) (by decide) (by simp)
    refine A.gen (G := fun a => wpOps _ _ _ _ a _) fun ac A => ?_
    refine k_bin (op := .neq) (k := .i64) (m := (1 + ((cu : Nat) : Int))) (n := (1 + ((cu : Nat) : Int))) (r := .bool false) (v := .bool false) rfl ⟨rfl, rfl, rfl⟩ (A.get (t := 55) (v := .int .i64 (1 + ((cu : Nat) : Int))) (by simp)) (A.get (t := 56) (v := .int .i64 (1 + ((cu : Nat) : Int))) (by simp)) (by simp only [intOp]; rw [decide_eq_false (show ¬ (((1 + ((cu : Nat) : Int)) : Int) ≠ (1 + ((cu : Nat) : Int))) by omega)]) rfl ?_
    have A := A.put 57 (.bool false) (by decide) (by simp)
    have A := A.keep [(57, .bool false), (11, .int .i64 (1 + ((cu : Nat) : Int))), (10, .int .i64 (1 + ((cu : Nat) : Int))), (8, r5), (6, r3), (4, .bool false), (0, v0), (1, .int .i64 at')] (by simp)
    refine A.gen (G := fun a => wpOps _ _ _ _ a _) fun ac A => ?_
    refine k_end ?_
    show Code.wp _ _ _ _ _
    refine wp_cond_false (A.get (t := 57) (v := .bool false) (by simp)) ?_
    refine wp_skip ?_
    show Code.wp _ _ _ _ _
    refine wp_seq (wp_region ?_)
    show wpOps Tryz.prog _ _ [0, 1, 2, 3, 4] _ _
    refine k_copy (v := v0) rfl ⟨rfl, rfl, rfl⟩ (.inl rfl) (A.get (t := 0) (v := v0) (by simp)) ?_
    have A := A.put 58 (v0) (by decide) (by simp)
    have A := A.keep [(58, v0), (11, .int .i64 (1 + ((cu : Nat) : Int))), (10, .int .i64 (1 + ((cu : Nat) : Int))), (8, r5), (6, r3), (4, .bool false), (1, .int .i64 at')] (by simp)
    refine A.gen (G := fun a => wpOps _ _ _ _ a _) fun ac A => ?_
    refine k_call (args := #[v0]) rfl ⟨rfl, rfl, rfl⟩ (Text.of Tryz.func7 rfl (by kernel_rfl)) (by simp [(A.get (t := 58) (v := v0) (by simp))]) (callI (xs := [.sl 3 (a.map rMod)]) (y := .sl 3 (a.map rMod)) (laws_toModuleS_v a hs1 hs.2) _ hl #[v0] rfl (dargs1 (DataIn.le D0 (s_w)))) ?_
    rintro en w13 ⟨r13, rfl, hB13, d13⟩
    refine ⟨_, rfl, ?_⟩
    have B := below_step B B.size hB13
    have D0 := DataIn.below D0 hB13 s_w
    have d3 := DataIn.below d3 hB13 s_w3
    have d5 := SRep.kept d5 hB13 (fun b hb => Nat.lt_of_lt_of_le (bd5 b hb).2 s_w5)
    have fd5 := Soft.below fd5 hB13
    have s_w := Nat.le_trans s_w hB13.size
    have s_w3 := Nat.le_trans s_w3 hB13.size
    have s_w4 := Nat.le_trans s_w4 hB13.size
    have s_w5 := Nat.le_trans s_w5 hB13.size
    have hl : Lw w13 := Lw.stays B.block hlw
    have A := A.put 59 (r13) (by decide) (by simp)
    have A := A.keep [(59, r13), (11, .int .i64 (1 + ((cu : Nat) : Int))), (10, .int .i64 (1 + ((cu : Nat) : Int))), (8, r5), (6, r3), (4, .bool false), (1, .int .i64 at')] (by simp)
    refine A.gen (G := fun a => wpOps _ _ _ _ a _) fun ac A => ?_
    refine k_copy (v := .int .i64 at') rfl ⟨rfl, rfl, rfl⟩ (.inl rfl) (A.get (t := 1) (v := .int .i64 at') (by simp)) ?_
    have A := A.put 60 (.int .i64 at') (by decide) (by simp)
    have A := A.keep [(60, .int .i64 at'), (59, r13), (11, .int .i64 (1 + ((cu : Nat) : Int))), (10, .int .i64 (1 + ((cu : Nat) : Int))), (8, r5), (6, r3), (4, .bool false)] (by simp)
    refine A.gen (G := fun a => wpOps _ _ _ _ a _) fun ac A => ?_
    refine k_call (args := #[r13, .int .i64 at']) rfl ⟨rfl, rfl, rfl⟩ (Text.of Tryz.func8 rfl (by kernel_rfl)) (by simp [(A.get (t := 59) (v := r13) (by simp)), (A.get (t := 60) (v := .int .i64 at') (by simp))]) (callI (xs := [.sl 3 (a.map rMod), .int .i64 at']) (y := .sl 1 ((usL a at').map rI)) (impl_ShelfUses_v a hs at') _ hl #[r13, .int .i64 at'] rfl (dargs2 (DataIn.le d13 (Nat.le_refl _)) (SRep.int _ _))) ?_
    rintro en w14 ⟨r14, rfl, hB14, d14⟩
    refine ⟨_, rfl, ?_⟩
    have B := below_step B B.size hB14
    have D0 := DataIn.below D0 hB14 s_w
    have d3 := DataIn.below d3 hB14 s_w3
    have d5 := SRep.kept d5 hB14 (fun b hb => Nat.lt_of_lt_of_le (bd5 b hb).2 s_w5)
    have fd5 := Soft.below fd5 hB14
    have d13 := DataIn.below d13 hB14 (Nat.le_refl _)
    have s_w := Nat.le_trans s_w hB14.size
    have s_w3 := Nat.le_trans s_w3 hB14.size
    have s_w4 := Nat.le_trans s_w4 hB14.size
    have s_w5 := Nat.le_trans s_w5 hB14.size
    have hl : Lw w14 := Lw.stays B.block hlw
    have A := A.put 61 (r14) (by decide) (by simp)
    have A := A.keep [(61, r14), (11, .int .i64 (1 + ((cu : Nat) : Int))), (10, .int .i64 (1 + ((cu : Nat) : Int))), (8, r5), (6, r3), (4, .bool false)] (by simp)
    refine A.gen (G := fun a => wpOps _ _ _ _ a _) fun ac A => ?_
    refine k_copy (v := r14) rfl ⟨rfl, rfl, rfl⟩ (.inr rfl) (A.get (t := 61) (v := r14) (by simp)) ?_
    have A := A.put 12 (r14) (by decide) (by simp)
    have A := A.keep [(12, r14), (11, .int .i64 (1 + ((cu : Nat) : Int))), (10, .int .i64 (1 + ((cu : Nat) : Int))), (8, r5), (6, r3), (4, .bool false)] (by simp)
    refine A.gen (G := fun a => wpOps _ _ _ _ a _) fun ac A => ?_
    refine k_end ?_
    show Code.wp _ _ _ _ _
    refine wp_seq (wp_seq (wp_region ?_))
    show wpOps Tryz.prog _ _ [0, 1, 2, 3] _ _
    refine k_copy (v := r14) rfl ⟨rfl, rfl, rfl⟩ (.inl rfl) (A.get (t := 12) (v := r14) (by simp)) ?_
    have A := A.put 62 (r14) (by decide) (by simp)
    have A := A.keep [(62, r14), (11, .int .i64 (1 + ((cu : Nat) : Int))), (10, .int .i64 (1 + ((cu : Nat) : Int))), (8, r5), (6, r3), (4, .bool false)] (by simp)
    refine A.gen (G := fun a => wpOps _ _ _ _ a _) fun ac A => ?_
    refine k_copy (v := r3) rfl ⟨rfl, rfl, rfl⟩ (.inl rfl) (A.get (t := 6) (v := r3) (by simp)) ?_
    have A := A.put 63 (r3) (by decide) (by simp)
    have A := A.keep [(63, r3), (62, r14), (11, .int .i64 (1 + ((cu : Nat) : Int))), (10, .int .i64 (1 + ((cu : Nat) : Int))), (8, r5), (4, .bool false)] (by simp)
    refine A.gen (G := fun a => wpOps _ _ _ _ a _) fun ac A => ?_
    refine k_call (args := #[r14, r3]) rfl ⟨rfl, rfl, rfl⟩ (Text.of Tryz.func9 rfl (by kernel_rfl)) (by simp [(A.get (t := 62) (v := r14) (by simp)), (A.get (t := 63) (v := r3) (by simp))]) (callI (xs := [.sl 1 ((usL a at').map rI), .sl 1 ((usL a at').map rI)]) (y := .bool true) (eqU) _ hl #[r14, r3] rfl (dargs2 (DataIn.le d14 (Nat.le_refl _)) (DataIn.le d3 (s_w3)))) ?_
    rintro en w15 ⟨r15, rfl, hB15, d15⟩
    obtain rfl := d15.truth
    refine ⟨_, rfl, ?_⟩
    have B := below_step B B.size hB15
    have D0 := DataIn.below D0 hB15 s_w
    have d3 := DataIn.below d3 hB15 s_w3
    have d5 := SRep.kept d5 hB15 (fun b hb => Nat.lt_of_lt_of_le (bd5 b hb).2 s_w5)
    have fd5 := Soft.below fd5 hB15
    have d14 := DataIn.below d14 hB15 (Nat.le_refl _)
    have s_w := Nat.le_trans s_w hB15.size
    have s_w3 := Nat.le_trans s_w3 hB15.size
    have s_w4 := Nat.le_trans s_w4 hB15.size
    have s_w5 := Nat.le_trans s_w5 hB15.size
    have hl : Lw w15 := Lw.stays B.block hlw
    have A := A.put 64 (.bool true) (by decide) (by simp)
    have A := A.keep [(64, .bool true), (11, .int .i64 (1 + ((cu : Nat) : Int))), (10, .int .i64 (1 + ((cu : Nat) : Int))), (8, r5), (4, .bool false)] (by simp)
    refine A.gen (G := fun a => wpOps _ _ _ _ a _) fun ac A => ?_
    refine k_not (b := true) rfl ⟨rfl, rfl, rfl⟩ (A.get (t := 64) (v := .bool true) (by simp)) ?_
    have A := A.put 65 (.bool false) (by decide) (by simp)
    have A := A.keep [(65, .bool false), (11, .int .i64 (1 + ((cu : Nat) : Int))), (10, .int .i64 (1 + ((cu : Nat) : Int))), (8, r5), (4, .bool false)] (by simp)
    refine A.gen (G := fun a => wpOps _ _ _ _ a _) fun ac A => ?_
    refine k_end ?_
    show Code.wp _ _ _ _ _
    refine wp_cond_false (A.get (t := 65) (v := .bool false) (by simp)) ?_
    refine wp_skip ?_
    show Code.wp _ _ _ _ _
    refine wp_seq (wp_region ?_)
    show wpOps Tryz.prog _ _ [0] _ _
    refine k_copy (v := .int .i64 1) rfl ⟨rfl, rfl, rfl⟩ (.inr rfl) rfl ?_
    have A := A.keep [(65, .bool false), (10, .int .i64 (1 + ((cu : Nat) : Int))), (8, r5), (4, .bool false)] (by simp)
    have A := A.put 11 (.int .i64 1) (by decide) (by simp)
    have A := A.keep [(11, .int .i64 1), (10, .int .i64 (1 + ((cu : Nat) : Int))), (8, r5), (4, .bool false)] (by simp)
    refine A.gen (G := fun a => wpOps _ _ _ _ a _) fun ac A => ?_
    refine k_end ?_
    show Code.wp _ _ _ _ _
    refine wp_seq (wp_region ?_)
    show wpOps Tryz.prog _ _ [0, 1, 2, 3] _ _
    refine k_copy (v := r5) rfl ⟨rfl, rfl, rfl⟩ (.inl rfl) (A.get (t := 8) (v := r5) (by simp)) ?_
    have A := A.put 66 (r5) (by decide) (by simp)
    have A := A.keep [(66, r5), (11, .int .i64 1), (10, .int .i64 (1 + ((cu : Nat) : Int))), (4, .bool false)] (by simp)
    refine A.gen (G := fun a => wpOps _ _ _ _ a _) fun ac A => ?_
    refine k_copy (v := .int .i64 1) rfl ⟨rfl, rfl, rfl⟩ (.inl rfl) (A.get (t := 11) (v := .int .i64 1) (by simp)) ?_
    have A := A.put 67 (.int .i64 1) (by decide) (by simp)
    refine A.gen (G := fun a => wpOps _ _ _ _ a _) fun ac A => ?_
    refine k_call (args := #[r5, .int .i64 1]) rfl ⟨rfl, rfl, rfl⟩ (Text.of Tryz.func13 rfl (by kernel_rfl)) (by simp [(A.get (t := 66) (v := r5) (by simp)), (A.get (t := 67) (v := .int .i64 1) (by simp))]) (callI (xs := [.sl 1 ((marksL cu).map rI), .int .i64 1]) (y := .int .i64 (1 + ((cu : Nat) : Int))) (held_marks cu (by omega)) _ hl #[r5, .int .i64 1] rfl (dargs2 (SRep.dataIn d5 (fun b hb => Nat.lt_of_lt_of_le (bd5 b hb).2 (s_w5))) (SRep.int _ _))) ?_
    rintro en w16 ⟨r16, rfl, hB16, d16⟩
    obtain rfl := d16.num
    refine ⟨_, rfl, ?_⟩
    have B := below_step B B.size hB16
    have D0 := DataIn.below D0 hB16 s_w
    have d5 := SRep.kept d5 hB16 (fun b hb => Nat.lt_of_lt_of_le (bd5 b hb).2 s_w5)
    have fd5 := Soft.below fd5 hB16
    have s_w := Nat.le_trans s_w hB16.size
    have s_w3 := Nat.le_trans s_w3 hB16.size
    have s_w4 := Nat.le_trans s_w4 hB16.size
    have s_w5 := Nat.le_trans s_w5 hB16.size
    have hl : Lw w16 := Lw.stays B.block hlw
    have A := A.put 68 (.int .i64 (1 + ((cu : Nat) : Int))) (by decide) (by simp)
    have A := A.keep [(68, .int .i64 (1 + ((cu : Nat) : Int))), (11, .int .i64 1), (10, .int .i64 (1 + ((cu : Nat) : Int))), (4, .bool false)] (by simp)
    refine A.gen (G := fun a => wpOps _ _ _ _ a _) fun ac A => ?_
    refine k_copy (v := .int .i64 (1 + ((cu : Nat) : Int))) rfl ⟨rfl, rfl, rfl⟩ (.inr rfl) (A.get (t := 68) (v := .int .i64 (1 + ((cu : Nat) : Int))) (by simp)) ?_
    have A := A.keep [(68, .int .i64 (1 + ((cu : Nat) : Int))), (10, .int .i64 (1 + ((cu : Nat) : Int))), (4, .bool false)] (by simp)
    have A := A.put 11 (.int .i64 (1 + ((cu : Nat) : Int))) (by decide) (by simp)
    have A := A.keep [(11, .int .i64 (1 + ((cu : Nat) : Int))), (10, .int .i64 (1 + ((cu : Nat) : Int))), (4, .bool false)] (by simp)
    refine A.gen (G := fun a => wpOps _ _ _ _ a _) fun ac A => ?_
    refine k_end ?_
    show Code.wp _ _ _ _ _
    refine wp_seq (wp_seq (wp_region ?_))
    show wpOps Tryz.prog _ _ [0, 1] _ _
    refine k_copy (v := .int .i64 (1 + ((cu : Nat) : Int))) rfl ⟨rfl, rfl, rfl⟩ (.inl rfl) (A.get (t := 11) (v := .int .i64 (1 + ((cu : Nat) : Int))) (by simp)) ?_
    have A := A.put 69 (.int .i64 (1 + ((cu : Nat) : Int))) (by decide) (by simp)
    refine A.gen (G := fun a => wpOps _ _ _ _ a _) fun ac A => ?_
    refine k_bin (op := .lss) (k := .i64) (m := (1 + ((cu : Nat) : Int))) (n := 0) (r := .bool false) (v := .bool false) rfl ⟨rfl, rfl, rfl⟩ (A.get (t := 69) (v := .int .i64 (1 + ((cu : Nat) : Int))) (by simp)) rfl (by simp only [intOp]; rw [decide_eq_false (show ¬ (((1 + ((cu : Nat) : Int)) : Int) < 0) by omega)]) rfl ?_
    have A := A.put 70 (.bool false) (by decide) (by simp)
    have A := A.keep [(70, .bool false), (11, .int .i64 (1 + ((cu : Nat) : Int))), (10, .int .i64 (1 + ((cu : Nat) : Int))), (4, .bool false)] (by simp)
    refine A.gen (G := fun a => wpOps _ _ _ _ a _) fun ac A => ?_
    refine k_end ?_
    show Code.wp _ _ _ _ _
    refine wp_cond_false (A.get (t := 70) (v := .bool false) (by simp)) ?_
    refine wp_skip ?_
    show Code.wp _ _ _ _ _
    refine wp_seq (wp_seq (wp_region ?_))
    show wpOps Tryz.prog _ _ [0, 1, 2] _ _
    refine k_copy (v := .int .i64 (1 + ((cu : Nat) : Int))) rfl ⟨rfl, rfl, rfl⟩ (.inl rfl) (A.get (t := 11) (v := .int .i64 (1 + ((cu : Nat) : Int))) (by simp)) ?_
    have A := A.put 71 (.int .i64 (1 + ((cu : Nat) : Int))) (by decide) (by simp)
    have A := A.keep [(71, .int .i64 (1 + ((cu : Nat) : Int))), (10, .int .i64 (1 + ((cu : Nat) : Int))), (4, .bool false)] (by simp)
    refine A.gen (G := fun a => wpOps _ _ _ _ a _) fun ac A => ?_
    refine k_copy (v := .int .i64 (1 + ((cu : Nat) : Int))) rfl ⟨rfl, rfl, rfl⟩ (.inl rfl) (A.get (t := 10) (v := .int .i64 (1 + ((cu : Nat) : Int))) (by simp)) ?_
    have A := A.put 72 (.int .i64 (1 + ((cu : Nat) : Int))) (by decide) (by simp)
    have A := A.keep [(72, .int .i64 (1 + ((cu : Nat) : Int))), (71, .int .i64 (1 + ((cu : Nat) : Int))), (4, .bool false)] (by simp)
    refine A.gen (G := fun a => wpOps _ _ _ _ a _) fun ac A => ?_
    refine k_bin (op := .neq) (k := .i64) (m := (1 + ((cu : Nat) : Int))) (n := (1 + ((cu : Nat) : Int))) (r := .bool false) (v := .bool false) rfl ⟨rfl, rfl, rfl⟩ (A.get (t := 71) (v := .int .i64 (1 + ((cu : Nat) : Int))) (by simp)) (A.get (t := 72) (v := .int .i64 (1 + ((cu : Nat) : Int))) (by simp)) (by simp only [intOp]; rw [decide_eq_false (show ¬ (((1 + ((cu : Nat) : Int)) : Int) ≠ (1 + ((cu : Nat) : Int))) by omega)]) rfl ?_
    have A := A.put 73 (.bool false) (by decide) (by simp)
    have A := A.keep [(73, .bool false), (4, .bool false)] (by simp)
    refine A.gen (G := fun a => wpOps _ _ _ _ a _) fun ac A => ?_
    refine k_end ?_
    show Code.wp _ _ _ _ _
    refine wp_cond_false (A.get (t := 73) (v := .bool false) (by simp)) ?_
    refine wp_skip ?_
    show Code.wp _ _ _ _ _
    refine wp_seq (wp_region ?_)
    show wpOps Tryz.prog _ _ [0] _ _
    refine k_copy (v := .bool true) rfl ⟨rfl, rfl, rfl⟩ (.inr rfl) rfl ?_
    have A := A.keep [(73, .bool false)] (by simp)
    have A := A.put 4 (.bool true) (by decide) (by simp)
    have A := A.keep [(4, .bool true)] (by simp)
    refine A.gen (G := fun a => wpOps _ _ _ _ a _) fun ac A => ?_
    refine k_end ?_
    show Code.wp _ _ _ _ _
    refine wp_ret ?_
    have hend : bodyPost Tryz.prog Tryz.f3 (fun e w' => e = .returned (.bool true) ∧ Below w.heap.size w w') .ret _ _ := ⟨A.1, .bool true, run_results (P := Tryz.prog) Tryz.f3 _ [.bool true] (by have h := A.get (t := 4) (v := .bool true) (by simp); simp only [Act.eval] at h; simp [show Tryz.f3.results = #[.tmp 4] from rfl, resSem, h]), rfl, B⟩
    exact hend
end Go.Proofs.YtahciphhopiipaaGreatDoor
