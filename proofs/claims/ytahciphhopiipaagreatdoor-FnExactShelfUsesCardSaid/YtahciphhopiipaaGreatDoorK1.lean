import Derived.Test.YtahciphhopiipaaGreatDoorD5
import Derived.Test.YtahciphhopiipaaGreatDoorProg
import Derived.KernelRfl
set_option linter.unusedVariables false
set_option linter.unusedSimpArgs false
namespace Go.Proofs.YtahciphhopiipaaGreatDoor
open Go Go.RowKit V
def TTa : Tab := [(3, ⟨.int .i64, 1, 8, [.im true (.int .i64 0)], [.int .i64 0]⟩),
  (5, ⟨.int .u8, 1, 1, [.im true (.int .u8 0)], [.int .u8 0]⟩),
  (9, ⟨.str, 1, 16, [.im true (.str ⟨#[]⟩)], [.str ⟨#[]⟩]⟩),
  (24, ⟨.sl 3, 1, 24, [.nil], [.sl 1 []]⟩),
  (38, ⟨.sl 50, 1, 24, [.nil], [.sl 1 []]⟩),
  (50, ⟨.sl 66, 1, 24, [.nil], [.sl 2 []]⟩),
  (64, ⟨.sl 9, 1, 24, [.nil], [.sl 1 []]⟩),
  (66, ⟨.st [(0, 1), (1, 1)], 2, 32, [.im true (.int .i64 0), .nil], [.int .i64 0, .sl 1 []]⟩)]
theorem TToka : TabOK Tryz.prog TTa := ⟨.int .i64 (by kernel_rfl) (by kernel_rfl),
  .int .u8 (by kernel_rfl) (by kernel_rfl),
  .str (by kernel_rfl) (by kernel_rfl),
  .sl 3 1 (by kernel_rfl) (by kernel_rfl) (by kernel_rfl),
  .sl 50 1 (by kernel_rfl) (by kernel_rfl) (by kernel_rfl),
  .sl 66 2 (by kernel_rfl) (by kernel_rfl) (by kernel_rfl),
  .sl 9 1 (by kernel_rfl) (by kernel_rfl) (by kernel_rfl),
  .st [(0, 1), (1, 1)] (.agg #[(.int .i64 0), (.slice none 0 0)]) (by kernel_rfl) (by kernel_rfl) rfl rfl (.inr ⟨rfl, rfl⟩) (by decide), trivial⟩
theorem mixeda : Tryz.prog.follows .mixedOrders = true := by kernel_rfl
theorem tx23a : Text Tryz.prog 23 := Text.of Tryz.func23 rfl (by kernel_rfl)
theorem tx35a : Text Tryz.prog 35 := Text.of Tryz.func35 rfl (by kernel_rfl)
theorem tx36a : Text Tryz.prog 36 := Text.of Tryz.func36 rfl (by kernel_rfl)
theorem tx38a : Text Tryz.prog 38 := Text.of Tryz.func38 rfl (by kernel_rfl)
theorem tx39a : Text Tryz.prog 39 := Text.of Tryz.func39 rfl (by kernel_rfl)
theorem tx41a : Text Tryz.prog 41 := Text.of Tryz.func41 rfl (by kernel_rfl)
theorem tx69a : Text Tryz.prog 69 := Text.of Tryz.func69 rfl (by kernel_rfl)
theorem tx70a : Text Tryz.prog 70 := Text.of Tryz.func70 rfl (by kernel_rfl)
theorem tx71a : Text Tryz.prog 71 := Text.of Tryz.func71 rfl (by kernel_rfl)
theorem tx72a : Text Tryz.prog 72 := Text.of Tryz.func72 rfl (by kernel_rfl)
theorem tx73a : Text Tryz.prog 73 := Text.of Tryz.func73 rfl (by kernel_rfl)
theorem tx74a : Text Tryz.prog 74 := Text.of Tryz.func74 rfl (by kernel_rfl)
theorem tx77a : Text Tryz.prog 77 := Text.of Tryz.func77 rfl (by kernel_rfl)
theorem tx82a : Text Tryz.prog 82 := Text.of Tryz.func82 rfl (by kernel_rfl)
theorem tx85a : Text Tryz.prog 85 := Text.of Tryz.func85 rfl (by kernel_rfl)
theorem tx101a : Text Tryz.prog 101 := Text.of Tryz.func101 rfl (by kernel_rfl)
theorem tx106a : Text Tryz.prog 106 := Text.of Tryz.func106 rfl (by kernel_rfl)
theorem tx107a : Text Tryz.prog 107 := Text.of Tryz.func107 rfl (by kernel_rfl)
theorem tx119a : Text Tryz.prog 119 := Text.of Tryz.func119 rfl (by kernel_rfl)
theorem tx120a : Text Tryz.prog 120 := Text.of Tryz.func120 rfl (by kernel_rfl)
theorem field66_0a : FieldOne Tryz.prog 66 0 0 := FieldOne.of TToka Tryz.underlying66 rfl rfl rfl rfl rfl
set_option maxRecDepth 100000 in
theorem impl_kindAt_v (t : ByteArray) :
    CallV Tryz.prog 69 [.lf (.im true (.str t))] (· = .tup [.lf (.im true (.int .i64 ((kM t : Nat) : Int))), .lf (.im true (.int .i64 ((kR t : Nat) : Int))), .lf (.im true (.bool (isKind t)))]) := by
  refine CallX (fn := Tryz.f69) TToka mixeda Tryz.func69 rfl rfl rfl rfl rfl fun E c => ?_
  refine vx c [(0, .lf (.im true (.str t)))] [] AllP.nil (by kernel_rfl) ?_
  refine xw_seq ?_
  refine vxj c [(0, .lf (.im true (.str t))), (64, .bool ((decide ((((t.size : Nat) : Int) : Int) ≠ 3)) || ((decide (((((bt t 0).toNat : Nat) : Int) : Int) ≠ 83)) || ((decide (((((bt t 1).toNat : Nat) : Int) : Int) < 48)) || ((decide (((((bt t 1).toNat : Nat) : Int) : Int) > 57)) || ((decide (((((bt t 2).toNat : Nat) : Int) : Int) < 48)) || (decide (((((bt t 2).toNat : Nat) : Int) : Int) > 57))))))))] (by
      rcases Bool.eq_false_or_eq_true (decide ((((t.size : Nat) : Int) : Int) ≠ 3)) with g1 | g1
      · have g1p := of_dT g1
        exact ⟨[(2, .slot (.bool true)), (27, .slot (.bool ((decide ((((t.size : Nat) : Int) : Int) ≠ 3)) || ((decide (((((bt t 0).toNat : Nat) : Int) : Int) ≠ 83)) || ((decide (((((bt t 1).toNat : Nat) : Int) : Int) < 48)) || ((decide (((((bt t 1).toNat : Nat) : Int) : Int) > 57)) || ((decide (((((bt t 2).toNat : Nat) : Int) : Int) < 48)) || (decide (((((bt t 2).toNat : Nat) : Int) : Int) > 57)))))))))], _, (a2 (kB g1) (a2 (kB (b := true) (c := ((decide ((((t.size : Nat) : Int) : Int) ≠ 3)) || ((decide (((((bt t 0).toNat : Nat) : Int) : Int) ≠ 83)) || ((decide (((((bt t 1).toNat : Nat) : Int) : Int) < 48)) || ((decide (((((bt t 1).toNat : Nat) : Int) : Int) > 57)) || ((decide (((((bt t 2).toNat : Nat) : Int) : Int) < 48)) || (decide (((((bt t 2).toNat : Nat) : Int) : Int) > 57)))))))) (by first | (simp only [g1, Bool.true_or, Bool.false_or, Bool.or_false, Bool.or_true, Bool.true_and, Bool.false_and, Bool.and_true, Bool.and_false, Bool.not_true, Bool.not_false, cond_true, cond_false]; done) | (simp [g1]; done))) AllP.nil)), by kernel_rfl⟩
      · have g1p := of_dF g1
        rcases Bool.eq_false_or_eq_true (decide (((((bt t 0).toNat : Nat) : Int) : Int) ≠ 83)) with g2 | g2
        · have g2p := of_dT g2
          exact ⟨[(2, .slot (.bool false)), (5, .byte (bt t 0)), (6, .slot (.bool true)), (27, .slot (.bool ((decide ((((t.size : Nat) : Int) : Int) ≠ 3)) || ((decide (((((bt t 0).toNat : Nat) : Int) : Int) ≠ 83)) || ((decide (((((bt t 1).toNat : Nat) : Int) : Int) < 48)) || ((decide (((((bt t 1).toNat : Nat) : Int) : Int) > 57)) || ((decide (((((bt t 2).toNat : Nat) : Int) : Int) < 48)) || (decide (((((bt t 2).toNat : Nat) : Int) : Int) > 57)))))))))], _, (a2 (kB g1) (a2 (bt_ib (t := t) (i := 0) (by omega)) (a2 (kB g2) (a2 (kB (b := true) (c := ((decide ((((t.size : Nat) : Int) : Int) ≠ 3)) || ((decide (((((bt t 0).toNat : Nat) : Int) : Int) ≠ 83)) || ((decide (((((bt t 1).toNat : Nat) : Int) : Int) < 48)) || ((decide (((((bt t 1).toNat : Nat) : Int) : Int) > 57)) || ((decide (((((bt t 2).toNat : Nat) : Int) : Int) < 48)) || (decide (((((bt t 2).toNat : Nat) : Int) : Int) > 57)))))))) (by first | (simp only [g1, g2, Bool.true_or, Bool.false_or, Bool.or_false, Bool.or_true, Bool.true_and, Bool.false_and, Bool.and_true, Bool.and_false, Bool.not_true, Bool.not_false, cond_true, cond_false]; done) | (simp [g1, g2]; done))) AllP.nil)))), by kernel_rfl⟩
        · have g2p := of_dF g2
          rcases Bool.eq_false_or_eq_true (decide (((((bt t 1).toNat : Nat) : Int) : Int) < 48)) with g3 | g3
          · have g3p := of_dT g3
            exact ⟨[(2, .slot (.bool false)), (5, .byte (bt t 0)), (6, .slot (.bool false)), (10, .byte (bt t 1)), (11, .slot (.bool true)), (27, .slot (.bool ((decide ((((t.size : Nat) : Int) : Int) ≠ 3)) || ((decide (((((bt t 0).toNat : Nat) : Int) : Int) ≠ 83)) || ((decide (((((bt t 1).toNat : Nat) : Int) : Int) < 48)) || ((decide (((((bt t 1).toNat : Nat) : Int) : Int) > 57)) || ((decide (((((bt t 2).toNat : Nat) : Int) : Int) < 48)) || (decide (((((bt t 2).toNat : Nat) : Int) : Int) > 57)))))))))], _, (a2 (kB g1) (a2 (bt_ib (t := t) (i := 0) (by omega)) (a2 (kB g2) (a2 (bt_ib (t := t) (i := 1) (by omega)) (a2 (kB g3) (a2 (kB (b := true) (c := ((decide ((((t.size : Nat) : Int) : Int) ≠ 3)) || ((decide (((((bt t 0).toNat : Nat) : Int) : Int) ≠ 83)) || ((decide (((((bt t 1).toNat : Nat) : Int) : Int) < 48)) || ((decide (((((bt t 1).toNat : Nat) : Int) : Int) > 57)) || ((decide (((((bt t 2).toNat : Nat) : Int) : Int) < 48)) || (decide (((((bt t 2).toNat : Nat) : Int) : Int) > 57)))))))) (by first | (simp only [g1, g2, g3, Bool.true_or, Bool.false_or, Bool.or_false, Bool.or_true, Bool.true_and, Bool.false_and, Bool.and_true, Bool.and_false, Bool.not_true, Bool.not_false, cond_true, cond_false]; done) | (simp [g1, g2, g3]; done))) AllP.nil)))))), by kernel_rfl⟩
          · have g3p := of_dF g3
            rcases Bool.eq_false_or_eq_true (decide (((((bt t 1).toNat : Nat) : Int) : Int) > 57)) with g4 | g4
            · have g4p := of_dT g4
              exact ⟨[(2, .slot (.bool false)), (5, .byte (bt t 0)), (6, .slot (.bool false)), (10, .byte (bt t 1)), (11, .slot (.bool false)), (15, .byte (bt t 1)), (16, .slot (.bool true)), (27, .slot (.bool ((decide ((((t.size : Nat) : Int) : Int) ≠ 3)) || ((decide (((((bt t 0).toNat : Nat) : Int) : Int) ≠ 83)) || ((decide (((((bt t 1).toNat : Nat) : Int) : Int) < 48)) || ((decide (((((bt t 1).toNat : Nat) : Int) : Int) > 57)) || ((decide (((((bt t 2).toNat : Nat) : Int) : Int) < 48)) || (decide (((((bt t 2).toNat : Nat) : Int) : Int) > 57)))))))))], _, (a2 (kB g1) (a2 (bt_ib (t := t) (i := 0) (by omega)) (a2 (kB g2) (a2 (bt_ib (t := t) (i := 1) (by omega)) (a2 (kB g3) (a2 (bt_ib (t := t) (i := 1) (by omega)) (a2 (kB g4) (a2 (kB (b := true) (c := ((decide ((((t.size : Nat) : Int) : Int) ≠ 3)) || ((decide (((((bt t 0).toNat : Nat) : Int) : Int) ≠ 83)) || ((decide (((((bt t 1).toNat : Nat) : Int) : Int) < 48)) || ((decide (((((bt t 1).toNat : Nat) : Int) : Int) > 57)) || ((decide (((((bt t 2).toNat : Nat) : Int) : Int) < 48)) || (decide (((((bt t 2).toNat : Nat) : Int) : Int) > 57)))))))) (by first | (simp only [g1, g2, g3, g4, Bool.true_or, Bool.false_or, Bool.or_false, Bool.or_true, Bool.true_and, Bool.false_and, Bool.and_true, Bool.and_false, Bool.not_true, Bool.not_false, cond_true, cond_false]; done) | (simp [g1, g2, g3, g4]; done))) AllP.nil)))))))), by kernel_rfl⟩
            · have g4p := of_dF g4
              rcases Bool.eq_false_or_eq_true (decide (((((bt t 2).toNat : Nat) : Int) : Int) < 48)) with g5 | g5
              · have g5p := of_dT g5
                exact ⟨[(2, .slot (.bool false)), (5, .byte (bt t 0)), (6, .slot (.bool false)), (10, .byte (bt t 1)), (11, .slot (.bool false)), (15, .byte (bt t 1)), (16, .slot (.bool false)), (20, .byte (bt t 2)), (21, .slot (.bool true)), (27, .slot (.bool ((decide ((((t.size : Nat) : Int) : Int) ≠ 3)) || ((decide (((((bt t 0).toNat : Nat) : Int) : Int) ≠ 83)) || ((decide (((((bt t 1).toNat : Nat) : Int) : Int) < 48)) || ((decide (((((bt t 1).toNat : Nat) : Int) : Int) > 57)) || ((decide (((((bt t 2).toNat : Nat) : Int) : Int) < 48)) || (decide (((((bt t 2).toNat : Nat) : Int) : Int) > 57)))))))))], _, (a2 (kB g1) (a2 (bt_ib (t := t) (i := 0) (by omega)) (a2 (kB g2) (a2 (bt_ib (t := t) (i := 1) (by omega)) (a2 (kB g3) (a2 (bt_ib (t := t) (i := 1) (by omega)) (a2 (kB g4) (a2 (bt_ib (t := t) (i := 2) (by omega)) (a2 (kB g5) (a2 (kB (b := true) (c := ((decide ((((t.size : Nat) : Int) : Int) ≠ 3)) || ((decide (((((bt t 0).toNat : Nat) : Int) : Int) ≠ 83)) || ((decide (((((bt t 1).toNat : Nat) : Int) : Int) < 48)) || ((decide (((((bt t 1).toNat : Nat) : Int) : Int) > 57)) || ((decide (((((bt t 2).toNat : Nat) : Int) : Int) < 48)) || (decide (((((bt t 2).toNat : Nat) : Int) : Int) > 57)))))))) (by first | (simp only [g1, g2, g3, g4, g5, Bool.true_or, Bool.false_or, Bool.or_false, Bool.or_true, Bool.true_and, Bool.false_and, Bool.and_true, Bool.and_false, Bool.not_true, Bool.not_false, cond_true, cond_false]; done) | (simp [g1, g2, g3, g4, g5]; done))) AllP.nil)))))))))), by kernel_rfl⟩
              · have g5p := of_dF g5
                exact ⟨[(2, .slot (.bool false)), (5, .byte (bt t 0)), (6, .slot (.bool false)), (10, .byte (bt t 1)), (11, .slot (.bool false)), (15, .byte (bt t 1)), (16, .slot (.bool false)), (20, .byte (bt t 2)), (21, .slot (.bool false)), (25, .byte (bt t 2)), (27, .slot (.bool ((decide ((((t.size : Nat) : Int) : Int) ≠ 3)) || ((decide (((((bt t 0).toNat : Nat) : Int) : Int) ≠ 83)) || ((decide (((((bt t 1).toNat : Nat) : Int) : Int) < 48)) || ((decide (((((bt t 1).toNat : Nat) : Int) : Int) > 57)) || ((decide (((((bt t 2).toNat : Nat) : Int) : Int) < 48)) || (decide (((((bt t 2).toNat : Nat) : Int) : Int) > 57)))))))))], _, (a2 (kB g1) (a2 (bt_ib (t := t) (i := 0) (by omega)) (a2 (kB g2) (a2 (bt_ib (t := t) (i := 1) (by omega)) (a2 (kB g3) (a2 (bt_ib (t := t) (i := 1) (by omega)) (a2 (kB g4) (a2 (bt_ib (t := t) (i := 2) (by omega)) (a2 (kB g5) (a2 (bt_ib (t := t) (i := 2) (by omega)) (a2 (kB (b := decide (((((bt t 2).toNat : Nat) : Int) : Int) > 57)) (c := ((decide ((((t.size : Nat) : Int) : Int) ≠ 3)) || ((decide (((((bt t 0).toNat : Nat) : Int) : Int) ≠ 83)) || ((decide (((((bt t 1).toNat : Nat) : Int) : Int) < 48)) || ((decide (((((bt t 1).toNat : Nat) : Int) : Int) > 57)) || ((decide (((((bt t 2).toNat : Nat) : Int) : Int) < 48)) || (decide (((((bt t 2).toNat : Nat) : Int) : Int) > 57)))))))) (by first | (simp only [g1, g2, g3, g4, g5, Bool.true_or, Bool.false_or, Bool.or_false, Bool.or_true, Bool.true_and, Bool.false_and, Bool.and_true, Bool.and_false, Bool.not_true, Bool.not_false, cond_true, cond_false]; done) | (simp [g1, g2, g3, g4, g5]; done))) AllP.nil))))))))))), by kernel_rfl⟩) ?_
  refine xw_cond ((decide ((((t.size : Nat) : Int) : Int) ≠ 3)) || ((decide (((((bt t 0).toNat : Nat) : Int) : Int) ≠ 83)) || ((decide (((((bt t 1).toNat : Nat) : Int) : Int) < 48)) || ((decide (((((bt t 1).toNat : Nat) : Int) : Int) > 57)) || ((decide (((((bt t 2).toNat : Nat) : Int) : Int) < 48)) || (decide (((((bt t 2).toNat : Nat) : Int) : Int) > 57))))))) rfl (fun h1 => ?_) (fun h1 => ?_)
  · have h1 := h1
    have hk : ¬ IsKind t := by unfold IsKind; simp at h1; omega
    refine vx c [(4, .int 0), (6, .int 0), (8, .bool false)] [] AllP.nil (by kernel_rfl) ?_
    exact xret [.lf (.im true (.int .i64 0)), .lf (.im true (.int .i64 0)), .lf (.im true (.bool false))] rfl (by kernel_rfl) (by simp [slotOf, kM, kR, isKind, hk])
  · have h1 := h1
    have hk : IsKind t := by unfold IsKind; simp at h1; omega
    have hs := hk.1
    refine xw_skip ?_
    refine vx c [(4, .int ((kM t : Nat) : Int)), (6, .int ((kR t : Nat) : Int)), (8, .bool true)] [(1, .byte (bt t 1)), (2, .slot (.lf (.im true (.int .u8 (((bt t 1).toNat : Int) - 48))))), (3, .slot (.int ((kM t : Nat) : Int))), (5, .byte (bt t 2)), (6, .slot (.lf (.im true (.int .u8 (((bt t 2).toNat : Int) - 48))))), (7, .slot (.int ((kR t : Nat) : Int)))] (a2 (bt_ib (t := t) (i := 1) (by omega)) (a2 (a1 (show (Slot.im (.int .u8 (IntKind.wrap .u8 ((((bt t 1).toNat : Nat) : Int) - 48))) : Slot) = .lf (.im true (.int .u8 (((bt t 1).toNat : Int) - 48))) by rw [show IntKind.wrap .u8 ((((bt t 1).toNat : Nat) : Int) - 48) = (((bt t 1).toNat : Int) - 48) from by (have := hk.2.2.1; have := hk.2.2.2; simp [IntKind.wrap, IntKind.signed, IntKind.bits]; omega)])) (a2 (a1 (show (Slot.im (.int .i64 (IntKind.wrap .i64 (((bt t 1).toNat : Int) - 48))) : Slot) = .int ((kM t : Nat) : Int) by rw [show IntKind.wrap .i64 (((bt t 1).toNat : Int) - 48) = ((kM t : Nat) : Int) from by (have := hk.2.2.1; have := hk.2.2.2; simp [kM, hk, IntKind.wrap, IntKind.signed, IntKind.bits]; omega)])) (a2 (bt_ib (t := t) (i := 2) (by omega)) (a2 (a1 (show (Slot.im (.int .u8 (IntKind.wrap .u8 ((((bt t 2).toNat : Nat) : Int) - 48))) : Slot) = .lf (.im true (.int .u8 (((bt t 2).toNat : Int) - 48))) by rw [show IntKind.wrap .u8 ((((bt t 2).toNat : Nat) : Int) - 48) = (((bt t 2).toNat : Int) - 48) from by (have := hk.2.2.1; have := hk.2.2.2; simp [IntKind.wrap, IntKind.signed, IntKind.bits]; omega)])) (a2 (a1 (show (Slot.im (.int .i64 (IntKind.wrap .i64 (((bt t 2).toNat : Int) - 48))) : Slot) = .int ((kR t : Nat) : Int) by rw [show IntKind.wrap .i64 (((bt t 2).toNat : Int) - 48) = ((kR t : Nat) : Int) from by (have := hk.2.2.1; have := hk.2.2.2; simp [kR, hk, IntKind.wrap, IntKind.signed, IntKind.bits]; omega)])) AllP.nil)))))) (by kernel_rfl) ?_
    exact xret [.lf (.im true (.int .i64 ((kM t : Nat) : Int))), .lf (.im true (.int .i64 ((kR t : Nat) : Int))), .lf (.im true (.bool true))] rfl (by kernel_rfl) (by simp [slotOf, isKind, hk])
set_option maxRecDepth 100000 in
theorem spec_l1Kind_v (t : ByteArray) :
    CallV Tryz.prog 70 [.lf (.im true (.str t))] (· = .tup [.lf (.im true (.int .i64 ((kM t : Nat) : Int))), .lf (.im true (.int .i64 ((kR t : Nat) : Int))), .lf (.im true (.bool (isKind t)))]) := by
  refine CallX (fn := Tryz.f70) TToka mixeda Tryz.func70 rfl rfl rfl rfl rfl fun E c => ?_
  refine vx c [(0, .lf (.im true (.str t)))] [] AllP.nil (by kernel_rfl) ?_
  refine xw_seq ?_
  refine vxj c [(0, .lf (.im true (.str t))), (64, .bool ((decide ((((t.size : Nat) : Int) : Int) ≠ 3)) || ((decide (((((bt t 0).toNat : Nat) : Int) : Int) ≠ 83)) || ((decide (((((bt t 1).toNat : Nat) : Int) : Int) < 48)) || ((decide (((((bt t 1).toNat : Nat) : Int) : Int) > 57)) || ((decide (((((bt t 2).toNat : Nat) : Int) : Int) < 48)) || (decide (((((bt t 2).toNat : Nat) : Int) : Int) > 57))))))))] (by
      rcases Bool.eq_false_or_eq_true (decide ((((t.size : Nat) : Int) : Int) ≠ 3)) with g1 | g1
      · have g1p := of_dT g1
        exact ⟨[(2, .slot (.bool true)), (27, .slot (.bool ((decide ((((t.size : Nat) : Int) : Int) ≠ 3)) || ((decide (((((bt t 0).toNat : Nat) : Int) : Int) ≠ 83)) || ((decide (((((bt t 1).toNat : Nat) : Int) : Int) < 48)) || ((decide (((((bt t 1).toNat : Nat) : Int) : Int) > 57)) || ((decide (((((bt t 2).toNat : Nat) : Int) : Int) < 48)) || (decide (((((bt t 2).toNat : Nat) : Int) : Int) > 57)))))))))], _, (a2 (kB g1) (a2 (kB (b := true) (c := ((decide ((((t.size : Nat) : Int) : Int) ≠ 3)) || ((decide (((((bt t 0).toNat : Nat) : Int) : Int) ≠ 83)) || ((decide (((((bt t 1).toNat : Nat) : Int) : Int) < 48)) || ((decide (((((bt t 1).toNat : Nat) : Int) : Int) > 57)) || ((decide (((((bt t 2).toNat : Nat) : Int) : Int) < 48)) || (decide (((((bt t 2).toNat : Nat) : Int) : Int) > 57)))))))) (by first | (simp only [g1, Bool.true_or, Bool.false_or, Bool.or_false, Bool.or_true, Bool.true_and, Bool.false_and, Bool.and_true, Bool.and_false, Bool.not_true, Bool.not_false, cond_true, cond_false]; done) | (simp [g1]; done))) AllP.nil)), by kernel_rfl⟩
      · have g1p := of_dF g1
        rcases Bool.eq_false_or_eq_true (decide (((((bt t 0).toNat : Nat) : Int) : Int) ≠ 83)) with g2 | g2
        · have g2p := of_dT g2
          exact ⟨[(2, .slot (.bool false)), (5, .byte (bt t 0)), (6, .slot (.bool true)), (27, .slot (.bool ((decide ((((t.size : Nat) : Int) : Int) ≠ 3)) || ((decide (((((bt t 0).toNat : Nat) : Int) : Int) ≠ 83)) || ((decide (((((bt t 1).toNat : Nat) : Int) : Int) < 48)) || ((decide (((((bt t 1).toNat : Nat) : Int) : Int) > 57)) || ((decide (((((bt t 2).toNat : Nat) : Int) : Int) < 48)) || (decide (((((bt t 2).toNat : Nat) : Int) : Int) > 57)))))))))], _, (a2 (kB g1) (a2 (bt_ib (t := t) (i := 0) (by omega)) (a2 (kB g2) (a2 (kB (b := true) (c := ((decide ((((t.size : Nat) : Int) : Int) ≠ 3)) || ((decide (((((bt t 0).toNat : Nat) : Int) : Int) ≠ 83)) || ((decide (((((bt t 1).toNat : Nat) : Int) : Int) < 48)) || ((decide (((((bt t 1).toNat : Nat) : Int) : Int) > 57)) || ((decide (((((bt t 2).toNat : Nat) : Int) : Int) < 48)) || (decide (((((bt t 2).toNat : Nat) : Int) : Int) > 57)))))))) (by first | (simp only [g1, g2, Bool.true_or, Bool.false_or, Bool.or_false, Bool.or_true, Bool.true_and, Bool.false_and, Bool.and_true, Bool.and_false, Bool.not_true, Bool.not_false, cond_true, cond_false]; done) | (simp [g1, g2]; done))) AllP.nil)))), by kernel_rfl⟩
        · have g2p := of_dF g2
          rcases Bool.eq_false_or_eq_true (decide (((((bt t 1).toNat : Nat) : Int) : Int) < 48)) with g3 | g3
          · have g3p := of_dT g3
            exact ⟨[(2, .slot (.bool false)), (5, .byte (bt t 0)), (6, .slot (.bool false)), (10, .byte (bt t 1)), (11, .slot (.bool true)), (27, .slot (.bool ((decide ((((t.size : Nat) : Int) : Int) ≠ 3)) || ((decide (((((bt t 0).toNat : Nat) : Int) : Int) ≠ 83)) || ((decide (((((bt t 1).toNat : Nat) : Int) : Int) < 48)) || ((decide (((((bt t 1).toNat : Nat) : Int) : Int) > 57)) || ((decide (((((bt t 2).toNat : Nat) : Int) : Int) < 48)) || (decide (((((bt t 2).toNat : Nat) : Int) : Int) > 57)))))))))], _, (a2 (kB g1) (a2 (bt_ib (t := t) (i := 0) (by omega)) (a2 (kB g2) (a2 (bt_ib (t := t) (i := 1) (by omega)) (a2 (kB g3) (a2 (kB (b := true) (c := ((decide ((((t.size : Nat) : Int) : Int) ≠ 3)) || ((decide (((((bt t 0).toNat : Nat) : Int) : Int) ≠ 83)) || ((decide (((((bt t 1).toNat : Nat) : Int) : Int) < 48)) || ((decide (((((bt t 1).toNat : Nat) : Int) : Int) > 57)) || ((decide (((((bt t 2).toNat : Nat) : Int) : Int) < 48)) || (decide (((((bt t 2).toNat : Nat) : Int) : Int) > 57)))))))) (by first | (simp only [g1, g2, g3, Bool.true_or, Bool.false_or, Bool.or_false, Bool.or_true, Bool.true_and, Bool.false_and, Bool.and_true, Bool.and_false, Bool.not_true, Bool.not_false, cond_true, cond_false]; done) | (simp [g1, g2, g3]; done))) AllP.nil)))))), by kernel_rfl⟩
          · have g3p := of_dF g3
            rcases Bool.eq_false_or_eq_true (decide (((((bt t 1).toNat : Nat) : Int) : Int) > 57)) with g4 | g4
            · have g4p := of_dT g4
              exact ⟨[(2, .slot (.bool false)), (5, .byte (bt t 0)), (6, .slot (.bool false)), (10, .byte (bt t 1)), (11, .slot (.bool false)), (15, .byte (bt t 1)), (16, .slot (.bool true)), (27, .slot (.bool ((decide ((((t.size : Nat) : Int) : Int) ≠ 3)) || ((decide (((((bt t 0).toNat : Nat) : Int) : Int) ≠ 83)) || ((decide (((((bt t 1).toNat : Nat) : Int) : Int) < 48)) || ((decide (((((bt t 1).toNat : Nat) : Int) : Int) > 57)) || ((decide (((((bt t 2).toNat : Nat) : Int) : Int) < 48)) || (decide (((((bt t 2).toNat : Nat) : Int) : Int) > 57)))))))))], _, (a2 (kB g1) (a2 (bt_ib (t := t) (i := 0) (by omega)) (a2 (kB g2) (a2 (bt_ib (t := t) (i := 1) (by omega)) (a2 (kB g3) (a2 (bt_ib (t := t) (i := 1) (by omega)) (a2 (kB g4) (a2 (kB (b := true) (c := ((decide ((((t.size : Nat) : Int) : Int) ≠ 3)) || ((decide (((((bt t 0).toNat : Nat) : Int) : Int) ≠ 83)) || ((decide (((((bt t 1).toNat : Nat) : Int) : Int) < 48)) || ((decide (((((bt t 1).toNat : Nat) : Int) : Int) > 57)) || ((decide (((((bt t 2).toNat : Nat) : Int) : Int) < 48)) || (decide (((((bt t 2).toNat : Nat) : Int) : Int) > 57)))))))) (by first | (simp only [g1, g2, g3, g4, Bool.true_or, Bool.false_or, Bool.or_false, Bool.or_true, Bool.true_and, Bool.false_and, Bool.and_true, Bool.and_false, Bool.not_true, Bool.not_false, cond_true, cond_false]; done) | (simp [g1, g2, g3, g4]; done))) AllP.nil)))))))), by kernel_rfl⟩
            · have g4p := of_dF g4
              rcases Bool.eq_false_or_eq_true (decide (((((bt t 2).toNat : Nat) : Int) : Int) < 48)) with g5 | g5
              · have g5p := of_dT g5
                exact ⟨[(2, .slot (.bool false)), (5, .byte (bt t 0)), (6, .slot (.bool false)), (10, .byte (bt t 1)), (11, .slot (.bool false)), (15, .byte (bt t 1)), (16, .slot (.bool false)), (20, .byte (bt t 2)), (21, .slot (.bool true)), (27, .slot (.bool ((decide ((((t.size : Nat) : Int) : Int) ≠ 3)) || ((decide (((((bt t 0).toNat : Nat) : Int) : Int) ≠ 83)) || ((decide (((((bt t 1).toNat : Nat) : Int) : Int) < 48)) || ((decide (((((bt t 1).toNat : Nat) : Int) : Int) > 57)) || ((decide (((((bt t 2).toNat : Nat) : Int) : Int) < 48)) || (decide (((((bt t 2).toNat : Nat) : Int) : Int) > 57)))))))))], _, (a2 (kB g1) (a2 (bt_ib (t := t) (i := 0) (by omega)) (a2 (kB g2) (a2 (bt_ib (t := t) (i := 1) (by omega)) (a2 (kB g3) (a2 (bt_ib (t := t) (i := 1) (by omega)) (a2 (kB g4) (a2 (bt_ib (t := t) (i := 2) (by omega)) (a2 (kB g5) (a2 (kB (b := true) (c := ((decide ((((t.size : Nat) : Int) : Int) ≠ 3)) || ((decide (((((bt t 0).toNat : Nat) : Int) : Int) ≠ 83)) || ((decide (((((bt t 1).toNat : Nat) : Int) : Int) < 48)) || ((decide (((((bt t 1).toNat : Nat) : Int) : Int) > 57)) || ((decide (((((bt t 2).toNat : Nat) : Int) : Int) < 48)) || (decide (((((bt t 2).toNat : Nat) : Int) : Int) > 57)))))))) (by first | (simp only [g1, g2, g3, g4, g5, Bool.true_or, Bool.false_or, Bool.or_false, Bool.or_true, Bool.true_and, Bool.false_and, Bool.and_true, Bool.and_false, Bool.not_true, Bool.not_false, cond_true, cond_false]; done) | (simp [g1, g2, g3, g4, g5]; done))) AllP.nil)))))))))), by kernel_rfl⟩
              · have g5p := of_dF g5
                exact ⟨[(2, .slot (.bool false)), (5, .byte (bt t 0)), (6, .slot (.bool false)), (10, .byte (bt t 1)), (11, .slot (.bool false)), (15, .byte (bt t 1)), (16, .slot (.bool false)), (20, .byte (bt t 2)), (21, .slot (.bool false)), (25, .byte (bt t 2)), (27, .slot (.bool ((decide ((((t.size : Nat) : Int) : Int) ≠ 3)) || ((decide (((((bt t 0).toNat : Nat) : Int) : Int) ≠ 83)) || ((decide (((((bt t 1).toNat : Nat) : Int) : Int) < 48)) || ((decide (((((bt t 1).toNat : Nat) : Int) : Int) > 57)) || ((decide (((((bt t 2).toNat : Nat) : Int) : Int) < 48)) || (decide (((((bt t 2).toNat : Nat) : Int) : Int) > 57)))))))))], _, (a2 (kB g1) (a2 (bt_ib (t := t) (i := 0) (by omega)) (a2 (kB g2) (a2 (bt_ib (t := t) (i := 1) (by omega)) (a2 (kB g3) (a2 (bt_ib (t := t) (i := 1) (by omega)) (a2 (kB g4) (a2 (bt_ib (t := t) (i := 2) (by omega)) (a2 (kB g5) (a2 (bt_ib (t := t) (i := 2) (by omega)) (a2 (kB (b := decide (((((bt t 2).toNat : Nat) : Int) : Int) > 57)) (c := ((decide ((((t.size : Nat) : Int) : Int) ≠ 3)) || ((decide (((((bt t 0).toNat : Nat) : Int) : Int) ≠ 83)) || ((decide (((((bt t 1).toNat : Nat) : Int) : Int) < 48)) || ((decide (((((bt t 1).toNat : Nat) : Int) : Int) > 57)) || ((decide (((((bt t 2).toNat : Nat) : Int) : Int) < 48)) || (decide (((((bt t 2).toNat : Nat) : Int) : Int) > 57)))))))) (by first | (simp only [g1, g2, g3, g4, g5, Bool.true_or, Bool.false_or, Bool.or_false, Bool.or_true, Bool.true_and, Bool.false_and, Bool.and_true, Bool.and_false, Bool.not_true, Bool.not_false, cond_true, cond_false]; done) | (simp [g1, g2, g3, g4, g5]; done))) AllP.nil))))))))))), by kernel_rfl⟩) ?_
  refine xw_cond ((decide ((((t.size : Nat) : Int) : Int) ≠ 3)) || ((decide (((((bt t 0).toNat : Nat) : Int) : Int) ≠ 83)) || ((decide (((((bt t 1).toNat : Nat) : Int) : Int) < 48)) || ((decide (((((bt t 1).toNat : Nat) : Int) : Int) > 57)) || ((decide (((((bt t 2).toNat : Nat) : Int) : Int) < 48)) || (decide (((((bt t 2).toNat : Nat) : Int) : Int) > 57))))))) rfl (fun h1 => ?_) (fun h1 => ?_)
  · have h1 := h1
    have hk : ¬ IsKind t := by unfold IsKind; simp at h1; omega
    refine vx c [(4, .int 0), (6, .int 0), (8, .bool false)] [] AllP.nil (by kernel_rfl) ?_
    exact xret [.lf (.im true (.int .i64 0)), .lf (.im true (.int .i64 0)), .lf (.im true (.bool false))] rfl (by kernel_rfl) (by simp [slotOf, kM, kR, isKind, hk])
  · have h1 := h1
    have hk : IsKind t := by unfold IsKind; simp at h1; omega
    have hs := hk.1
    refine xw_skip ?_
    refine vx c [(4, .int ((kM t : Nat) : Int)), (6, .int ((kR t : Nat) : Int)), (8, .bool true)] [(1, .byte (bt t 1)), (2, .slot (.lf (.im true (.int .u8 (((bt t 1).toNat : Int) - 48))))), (3, .slot (.int ((kM t : Nat) : Int))), (5, .byte (bt t 2)), (6, .slot (.lf (.im true (.int .u8 (((bt t 2).toNat : Int) - 48))))), (7, .slot (.int ((kR t : Nat) : Int)))] (a2 (bt_ib (t := t) (i := 1) (by omega)) (a2 (a1 (show (Slot.im (.int .u8 (IntKind.wrap .u8 ((((bt t 1).toNat : Nat) : Int) - 48))) : Slot) = .lf (.im true (.int .u8 (((bt t 1).toNat : Int) - 48))) by rw [show IntKind.wrap .u8 ((((bt t 1).toNat : Nat) : Int) - 48) = (((bt t 1).toNat : Int) - 48) from by (have := hk.2.2.1; have := hk.2.2.2; simp [IntKind.wrap, IntKind.signed, IntKind.bits]; omega)])) (a2 (a1 (show (Slot.im (.int .i64 (IntKind.wrap .i64 (((bt t 1).toNat : Int) - 48))) : Slot) = .int ((kM t : Nat) : Int) by rw [show IntKind.wrap .i64 (((bt t 1).toNat : Int) - 48) = ((kM t : Nat) : Int) from by (have := hk.2.2.1; have := hk.2.2.2; simp [kM, hk, IntKind.wrap, IntKind.signed, IntKind.bits]; omega)])) (a2 (bt_ib (t := t) (i := 2) (by omega)) (a2 (a1 (show (Slot.im (.int .u8 (IntKind.wrap .u8 ((((bt t 2).toNat : Nat) : Int) - 48))) : Slot) = .lf (.im true (.int .u8 (((bt t 2).toNat : Int) - 48))) by rw [show IntKind.wrap .u8 ((((bt t 2).toNat : Nat) : Int) - 48) = (((bt t 2).toNat : Int) - 48) from by (have := hk.2.2.1; have := hk.2.2.2; simp [IntKind.wrap, IntKind.signed, IntKind.bits]; omega)])) (a2 (a1 (show (Slot.im (.int .i64 (IntKind.wrap .i64 (((bt t 2).toNat : Int) - 48))) : Slot) = .int ((kR t : Nat) : Int) by rw [show IntKind.wrap .i64 (((bt t 2).toNat : Int) - 48) = ((kR t : Nat) : Int) from by (have := hk.2.2.1; have := hk.2.2.2; simp [kR, hk, IntKind.wrap, IntKind.signed, IntKind.bits]; omega)])) AllP.nil)))))) (by kernel_rfl) ?_
    exact xret [.lf (.im true (.int .i64 ((kM t : Nat) : Int))), .lf (.im true (.int .i64 ((kR t : Nat) : Int))), .lf (.im true (.bool true))] rfl (by kernel_rfl) (by simp [slotOf, isKind, hk])
set_option maxRecDepth 100000 in
theorem spec_l1Base_v (t : ByteArray) :
    CallV Tryz.prog 120 [.lf (.im true (.str t))] (· = .bool (isBase t)) := by
  refine CallX (fn := Tryz.f120) TToka mixeda Tryz.func120 rfl rfl rfl rfl rfl fun E c => ?_
  refine vx c [(0, .lf (.im true (.str t)))] [] AllP.nil (by kernel_rfl) ?_
  refine vxj c [(4, .bool ((t.toList == (⟨#[110]⟩ : ByteArray).toList) || ((t.toList == (⟨#[98]⟩ : ByteArray).toList) || (t.toList == (⟨#[111]⟩ : ByteArray).toList))))] (by
      rcases Bool.eq_false_or_eq_true (t.toList == (⟨#[110]⟩ : ByteArray).toList) with g1 | g1
      · exact ⟨[(1, .slot (.bool true)), (10, .slot (.bool ((t.toList == (⟨#[110]⟩ : ByteArray).toList) || ((t.toList == (⟨#[98]⟩ : ByteArray).toList) || (t.toList == (⟨#[111]⟩ : ByteArray).toList)))))], _, (a2 (kB g1) (a2 (kB (b := true) (c := ((t.toList == (⟨#[110]⟩ : ByteArray).toList) || ((t.toList == (⟨#[98]⟩ : ByteArray).toList) || (t.toList == (⟨#[111]⟩ : ByteArray).toList)))) (by first | (simp only [g1, Bool.true_or, Bool.false_or, Bool.or_false, Bool.or_true, Bool.true_and, Bool.false_and, Bool.and_true, Bool.and_false, Bool.not_true, Bool.not_false, cond_true, cond_false]; done) | (simp [g1]; done))) AllP.nil)), by kernel_rfl⟩
      · rcases Bool.eq_false_or_eq_true (t.toList == (⟨#[98]⟩ : ByteArray).toList) with g2 | g2
        · exact ⟨[(1, .slot (.bool false)), (4, .slot (.bool true)), (10, .slot (.bool ((t.toList == (⟨#[110]⟩ : ByteArray).toList) || ((t.toList == (⟨#[98]⟩ : ByteArray).toList) || (t.toList == (⟨#[111]⟩ : ByteArray).toList)))))], _, (a2 (kB g1) (a2 (kB g2) (a2 (kB (b := true) (c := ((t.toList == (⟨#[110]⟩ : ByteArray).toList) || ((t.toList == (⟨#[98]⟩ : ByteArray).toList) || (t.toList == (⟨#[111]⟩ : ByteArray).toList)))) (by first | (simp only [g1, g2, Bool.true_or, Bool.false_or, Bool.or_false, Bool.or_true, Bool.true_and, Bool.false_and, Bool.and_true, Bool.and_false, Bool.not_true, Bool.not_false, cond_true, cond_false]; done) | (simp [g1, g2]; done))) AllP.nil))), by kernel_rfl⟩
        · exact ⟨[(1, .slot (.bool false)), (4, .slot (.bool false)), (10, .slot (.bool ((t.toList == (⟨#[110]⟩ : ByteArray).toList) || ((t.toList == (⟨#[98]⟩ : ByteArray).toList) || (t.toList == (⟨#[111]⟩ : ByteArray).toList)))))], _, (a2 (kB g1) (a2 (kB g2) (a2 (kB (b := t.toList == (⟨#[111]⟩ : ByteArray).toList) (c := ((t.toList == (⟨#[110]⟩ : ByteArray).toList) || ((t.toList == (⟨#[98]⟩ : ByteArray).toList) || (t.toList == (⟨#[111]⟩ : ByteArray).toList)))) (by first | (simp only [g1, g2, Bool.true_or, Bool.false_or, Bool.or_false, Bool.or_true, Bool.true_and, Bool.false_and, Bool.and_true, Bool.and_false, Bool.not_true, Bool.not_false, cond_true, cond_false]; done) | (simp [g1, g2]; done))) AllP.nil))), by kernel_rfl⟩) ?_
  exact xret [.lf (.im true (.bool ((t.toList == (⟨#[110]⟩ : ByteArray).toList) || ((t.toList == (⟨#[98]⟩ : ByteArray).toList) || (t.toList == (⟨#[111]⟩ : ByteArray).toList)))))] rfl (by kernel_rfl) (retB (by simp [isBase]))
set_option maxRecDepth 100000 in
theorem spec_l6In_v (a lo hi : Int) :
    CallV Tryz.prog 23 [.lf (.im true (.int .i64 a)), .lf (.im true (.int .i64 lo)), .lf (.im true (.int .i64 hi))] (· = .bool (inI a lo hi)) := by
  refine CallX (fn := Tryz.f23) TToka mixeda Tryz.func23 rfl rfl rfl rfl rfl fun E c => ?_
  refine vx c [(0, .int a), (2, .int lo), (4, .int hi)] [] AllP.nil (by kernel_rfl) ?_
  refine vxj c [(12, .bool ((decide ((a : Int) ≥ lo)) && (decide ((a : Int) ≤ hi))))] (by
      rcases Bool.eq_false_or_eq_true (decide ((a : Int) ≥ lo)) with g1 | g1
      · have g1p := of_dT g1
        exact ⟨[(2, .slot (.bool true)), (8, .slot (.bool ((decide ((a : Int) ≥ lo)) && (decide ((a : Int) ≤ hi)))))], _, (a2 (kB g1) (a2 (kB (b := decide ((a : Int) ≤ hi)) (c := ((decide ((a : Int) ≥ lo)) && (decide ((a : Int) ≤ hi)))) (by first | (simp only [g1, Bool.true_or, Bool.false_or, Bool.or_false, Bool.or_true, Bool.true_and, Bool.false_and, Bool.and_true, Bool.and_false, Bool.not_true, Bool.not_false, cond_true, cond_false]; done) | (simp [g1]; done))) AllP.nil)), by kernel_rfl⟩
      · have g1p := of_dF g1
        exact ⟨[(2, .slot (.bool false)), (8, .slot (.bool ((decide ((a : Int) ≥ lo)) && (decide ((a : Int) ≤ hi)))))], _, (a2 (kB g1) (a2 (kB (b := false) (c := ((decide ((a : Int) ≥ lo)) && (decide ((a : Int) ≤ hi)))) (by first | (simp only [g1, Bool.true_or, Bool.false_or, Bool.or_false, Bool.or_true, Bool.true_and, Bool.false_and, Bool.and_true, Bool.and_false, Bool.not_true, Bool.not_false, cond_true, cond_false]; done) | (simp [g1]; done))) AllP.nil)), by kernel_rfl⟩) ?_
  exact xret [.lf (.im true (.bool ((decide ((a : Int) ≥ lo)) && (decide ((a : Int) ≤ hi)))))] rfl (by kernel_rfl) (retB (by simp [inI]))
set_option maxRecDepth 100000 in
theorem spec_l1Has_v (ks : Kinds) (m k : Nat) :
    CallV Tryz.prog 71 [.lf (.im true (.sl 1 (ks.map rRecs))), .lf (.im true (.int .i64 ((m : Nat) : Int))), .lf (.im true (.int .i64 ((k : Nat) : Int)))] (· = .bool (hasK ks m k)) := by
  refine CallX (fn := Tryz.f71) TToka mixeda Tryz.func71 rfl rfl rfl rfl rfl fun E c => ?_
  refine vx c [(0, .lf (.im true (.sl 1 (ks.map rRecs)))), (2, .int ((m : Nat) : Int)), (4, .int ((k : Nat) : Int))] [] AllP.nil (by kernel_rfl) ?_
  refine vxj c [(12, .bool ((decide ((((m : Nat) : Int) : Int) < ((ks.length : Nat) : Int))) && (decide ((((k : Nat) : Int) : Int) < (((nth ks m).length : Nat) : Int)))))] (by
      rcases Bool.eq_false_or_eq_true (decide ((((m : Nat) : Int) : Int) < ((ks.length : Nat) : Int))) with g1 | g1
      · have g1p := of_dT g1
        exact ⟨[(2, .slot (.int ((ks.length : Nat) : Int))), (3, .slot (.bool true)), (8, .row (rRecs (nth ks m))), (10, .slot (.int (((nth ks m).length : Nat) : Int))), (13, .slot (.bool ((decide ((((m : Nat) : Int) : Int) < ((ks.length : Nat) : Int))) && (decide ((((k : Nat) : Int) : Int) < (((nth ks m).length : Nat) : Int))))))], _, (a2 (ln (l := ks) (f := rRecs)) (a2 (kB g1) (a2 (ix (f := rRecs) (l := ks) (i := m) (nth_at (l := ks) (i := m) (by omega))) (a2 (ln (l := (nth ks m)) (f := rRec)) (a2 (kB (b := decide ((((k : Nat) : Int) : Int) < (((nth ks m).length : Nat) : Int))) (c := ((decide ((((m : Nat) : Int) : Int) < ((ks.length : Nat) : Int))) && (decide ((((k : Nat) : Int) : Int) < (((nth ks m).length : Nat) : Int))))) (by first | (simp only [g1, Bool.true_or, Bool.false_or, Bool.or_false, Bool.or_true, Bool.true_and, Bool.false_and, Bool.and_true, Bool.and_false, Bool.not_true, Bool.not_false, cond_true, cond_false]; done) | (simp [g1]; done))) AllP.nil))))), by kernel_rfl⟩
      · have g1p := of_dF g1
        exact ⟨[(2, .slot (.int ((ks.length : Nat) : Int))), (3, .slot (.bool false)), (13, .slot (.bool ((decide ((((m : Nat) : Int) : Int) < ((ks.length : Nat) : Int))) && (decide ((((k : Nat) : Int) : Int) < (((nth ks m).length : Nat) : Int))))))], _, (a2 (ln (l := ks) (f := rRecs)) (a2 (kB g1) (a2 (kB (b := false) (c := ((decide ((((m : Nat) : Int) : Int) < ((ks.length : Nat) : Int))) && (decide ((((k : Nat) : Int) : Int) < (((nth ks m).length : Nat) : Int))))) (by first | (simp only [g1, Bool.true_or, Bool.false_or, Bool.or_false, Bool.or_true, Bool.true_and, Bool.false_and, Bool.and_true, Bool.and_false, Bool.not_true, Bool.not_false, cond_true, cond_false]; done) | (simp [g1]; done))) AllP.nil))), by kernel_rfl⟩) ?_
  exact xret [.lf (.im true (.bool ((decide ((((m : Nat) : Int) : Int) < ((ks.length : Nat) : Int))) && (decide ((((k : Nat) : Int) : Int) < (((nth ks m).length : Nat) : Int))))))] rfl (by kernel_rfl) (retB (by simp [hasK]))
set_option maxRecDepth 100000 in
theorem impl_limitOk_v (limit n : Int) :
    CallV Tryz.prog 103 [.lf (.im true (.int .i64 limit)), .lf (.im true (.int .i64 n))] (· = .bool (limOk limit n)) := by
  refine CallX (fn := Tryz.f103) TToka mixeda Tryz.func103 rfl rfl rfl rfl rfl fun E c => ?_
  refine vx c [(0, .int limit), (2, .int n)] [] AllP.nil (by kernel_rfl) ?_
  refine vxj c [(8, .bool ((decide ((n : Int) = 0)) || ((decide ((n : Int) > 0)) && (decide ((n : Int) < limit)))))] (by
      rcases Bool.eq_false_or_eq_true (decide ((n : Int) = 0)) with g1 | g1
      · have g1p := of_dT g1
        exact ⟨[(1, .slot (.bool true)), (11, .slot (.bool ((decide ((n : Int) = 0)) || ((decide ((n : Int) > 0)) && (decide ((n : Int) < limit))))))], _, (a2 (kB g1) (a2 (kB (b := true) (c := ((decide ((n : Int) = 0)) || ((decide ((n : Int) > 0)) && (decide ((n : Int) < limit))))) (by first | (simp only [g1, Bool.true_or, Bool.false_or, Bool.or_false, Bool.or_true, Bool.true_and, Bool.false_and, Bool.and_true, Bool.and_false, Bool.not_true, Bool.not_false, cond_true, cond_false]; done) | (simp [g1]; done))) AllP.nil)), by kernel_rfl⟩
      · have g1p := of_dF g1
        rcases Bool.eq_false_or_eq_true (decide ((n : Int) > 0)) with g2 | g2
        · have g2p := of_dT g2
          exact ⟨[(1, .slot (.bool false)), (4, .slot (.bool true)), (11, .slot (.bool ((decide ((n : Int) = 0)) || ((decide ((n : Int) > 0)) && (decide ((n : Int) < limit))))))], _, (a2 (kB g1) (a2 (kB g2) (a2 (kB (b := decide ((n : Int) < limit)) (c := ((decide ((n : Int) = 0)) || ((decide ((n : Int) > 0)) && (decide ((n : Int) < limit))))) (by first | (simp only [g1, g2, Bool.true_or, Bool.false_or, Bool.or_false, Bool.or_true, Bool.true_and, Bool.false_and, Bool.and_true, Bool.and_false, Bool.not_true, Bool.not_false, cond_true, cond_false]; done) | (simp [g1, g2]; done))) AllP.nil))), by kernel_rfl⟩
        · have g2p := of_dF g2
          exact ⟨[(1, .slot (.bool false)), (4, .slot (.bool false)), (11, .slot (.bool ((decide ((n : Int) = 0)) || ((decide ((n : Int) > 0)) && (decide ((n : Int) < limit))))))], _, (a2 (kB g1) (a2 (kB g2) (a2 (kB (b := false) (c := ((decide ((n : Int) = 0)) || ((decide ((n : Int) > 0)) && (decide ((n : Int) < limit))))) (by first | (simp only [g1, g2, Bool.true_or, Bool.false_or, Bool.or_false, Bool.or_true, Bool.true_and, Bool.false_and, Bool.and_true, Bool.and_false, Bool.not_true, Bool.not_false, cond_true, cond_false]; done) | (simp [g1, g2]; done))) AllP.nil))), by kernel_rfl⟩) ?_
  exact xret [.lf (.im true (.bool ((decide ((n : Int) = 0)) || ((decide ((n : Int) > 0)) && (decide ((n : Int) < limit))))))] rfl (by kernel_rfl) (retB (by simp [limOk]))
set_option maxRecDepth 100000 in
theorem spec_l3Fits_v (n below : Int) (h0 : 0 ≤ below) (hb : below ≤ 9223372036854775807) :
    CallV Tryz.prog 122 [.lf (.im true (.int .i64 n)), .lf (.im true (.int .i64 below))] (· = .bool (limOk below n)) := by
  refine CallX (fn := Tryz.f122) TToka mixeda Tryz.func122 rfl rfl rfl rfl rfl fun E c => ?_
  refine vx c [(0, .int n), (2, .int below)] [] AllP.nil (by kernel_rfl) ?_
  refine xw_seq ?_
  refine vx c [(0, .int n), (2, .int below), (12, .bool (decide ((below : Int) = 0)))] [] AllP.nil (by kernel_rfl) ?_
  refine xw_cond (decide ((below : Int) = 0)) rfl (fun h1 => ?_) (fun h1 => ?_)
  · have h1 := of_dT h1
    refine vx c [(8, .bool (decide ((n : Int) = 0)))] [] AllP.nil (by kernel_rfl) ?_
    exact xret [.lf (.im true (.bool (decide ((n : Int) = 0))))] rfl (by kernel_rfl) (retB (by rw [Bool.eq_iff_iff]; simp [limOk, h1]; omega))
  · have h1 := of_dF h1
    refine xw_skip ?_
    refine vx c [(8, .bool (inI n 0 (below - 1)))] [(2, .slot (.int (below - 1))), (3, .ret (.bool (inI n 0 (below - 1))))] (a2 (wI (a := below - 1) (b := below - 1) (by omega) (by omega) (by omega)) (a2 (cl tx23a (spec_l6In_v n 0 (below - 1))) AllP.nil)) (by kernel_rfl) ?_
    exact xret [.lf (.im true (.bool (inI n 0 (below - 1))))] rfl (by kernel_rfl) (retB (by rw [Bool.eq_iff_iff]; simp [limOk, inI]; omega))
set_option maxRecDepth 100000 in
theorem spec_l1Can_v (a one : Int) (h1 : one ≠ 0) :
    CallV Tryz.prog 39 [.lf (.im true (.int .i64 a)), .lf (.im true (.int .i64 one))] (· = .bool (canB a one)) := by
  refine CallX (fn := Tryz.f39) TToka mixeda Tryz.func39 rfl rfl rfl rfl rfl fun E c => ?_
  refine vx c [(0, .int a), (2, .int one)] [] AllP.nil (by kernel_rfl) ?_
  refine vx c [(8, .bool (decide ((remI (quoI a one) 2 : Int) = 1)))] [(2, .slot (.int (quoI a one))), (3, .slot (.int (remI (quoI a one) 2)))] (a2 (a1 (show (Slot.int (quoI a one)) = .int (quoI a one) by rw [show quoI a one = (quoI a one) from by rfl])) (a2 (a1 (show (one : Int) ≠ 0 by exact h1)) (a2 (a1 (show (Slot.int (remI (quoI a one) 2)) = .int (remI (quoI a one) 2) from rfl)) (a2 (a1 (show (2 : Int) ≠ 0 by decide)) AllP.nil)))) (by kernel_rfl) ?_
  exact xret [.lf (.im true (.bool (decide ((remI (quoI a one) 2 : Int) = 1))))] rfl (by kernel_rfl) (retB (by simp [canB]))
set_option maxRecDepth 100000 in
theorem spec_l1Ref_v (t : ByteArray) :
    CallV Tryz.prog 72 [.lf (.im true (.str t))] (· = .bool (isRef t)) := by
  refine CallX (fn := Tryz.f72) TToka mixeda Tryz.func72 rfl rfl rfl rfl rfl fun E c => ?_
  refine vx c [(0, .lf (.im true (.str t)))] [] AllP.nil (by kernel_rfl) ?_
  refine vxj c [(4, .bool ((decide ((((t.size : Nat) : Int) : Int) > 0)) && ((decide (((((bt t 0).toNat : Nat) : Int) : Int) = 38)) || (decide (((((bt t 0).toNat : Nat) : Int) : Int) = 33)))))] (by
      rcases Bool.eq_false_or_eq_true (decide ((((t.size : Nat) : Int) : Int) > 0)) with g1 | g1
      · have g1p := of_dT g1
        rcases Bool.eq_false_or_eq_true (decide (((((bt t 0).toNat : Nat) : Int) : Int) = 38)) with g2 | g2
        · have g2p := of_dT g2
          exact ⟨[(2, .slot (.bool true)), (5, .byte (bt t 0)), (6, .slot (.bool true)), (13, .slot (.bool ((decide ((((t.size : Nat) : Int) : Int) > 0)) && ((decide (((((bt t 0).toNat : Nat) : Int) : Int) = 38)) || (decide (((((bt t 0).toNat : Nat) : Int) : Int) = 33))))))], _, (a2 (kB g1) (a2 (bt_ib (t := t) (i := 0) (by omega)) (a2 (kB g2) (a2 (kB (b := true) (c := ((decide ((((t.size : Nat) : Int) : Int) > 0)) && ((decide (((((bt t 0).toNat : Nat) : Int) : Int) = 38)) || (decide (((((bt t 0).toNat : Nat) : Int) : Int) = 33))))) (by first | (simp only [g1, g2, Bool.true_or, Bool.false_or, Bool.or_false, Bool.or_true, Bool.true_and, Bool.false_and, Bool.and_true, Bool.and_false, Bool.not_true, Bool.not_false, cond_true, cond_false]; done) | (simp [g1, g2]; done))) AllP.nil)))), by kernel_rfl⟩
        · have g2p := of_dF g2
          exact ⟨[(2, .slot (.bool true)), (5, .byte (bt t 0)), (6, .slot (.bool false)), (9, .byte (bt t 0)), (13, .slot (.bool ((decide ((((t.size : Nat) : Int) : Int) > 0)) && ((decide (((((bt t 0).toNat : Nat) : Int) : Int) = 38)) || (decide (((((bt t 0).toNat : Nat) : Int) : Int) = 33))))))], _, (a2 (kB g1) (a2 (bt_ib (t := t) (i := 0) (by omega)) (a2 (kB g2) (a2 (bt_ib (t := t) (i := 0) (by omega)) (a2 (kB (b := decide (((((bt t 0).toNat : Nat) : Int) : Int) = 33)) (c := ((decide ((((t.size : Nat) : Int) : Int) > 0)) && ((decide (((((bt t 0).toNat : Nat) : Int) : Int) = 38)) || (decide (((((bt t 0).toNat : Nat) : Int) : Int) = 33))))) (by first | (simp only [g1, g2, Bool.true_or, Bool.false_or, Bool.or_false, Bool.or_true, Bool.true_and, Bool.false_and, Bool.and_true, Bool.and_false, Bool.not_true, Bool.not_false, cond_true, cond_false]; done) | (simp [g1, g2]; done))) AllP.nil))))), by kernel_rfl⟩
      · have g1p := of_dF g1
        exact ⟨[(2, .slot (.bool false)), (13, .slot (.bool ((decide ((((t.size : Nat) : Int) : Int) > 0)) && ((decide (((((bt t 0).toNat : Nat) : Int) : Int) = 38)) || (decide (((((bt t 0).toNat : Nat) : Int) : Int) = 33))))))], _, (a2 (kB g1) (a2 (kB (b := false) (c := ((decide ((((t.size : Nat) : Int) : Int) > 0)) && ((decide (((((bt t 0).toNat : Nat) : Int) : Int) = 38)) || (decide (((((bt t 0).toNat : Nat) : Int) : Int) = 33))))) (by first | (simp only [g1, Bool.true_or, Bool.false_or, Bool.or_false, Bool.or_true, Bool.true_and, Bool.false_and, Bool.and_true, Bool.and_false, Bool.not_true, Bool.not_false, cond_true, cond_false]; done) | (simp [g1]; done))) AllP.nil)), by kernel_rfl⟩) ?_
  exact xret [.lf (.im true (.bool ((decide ((((t.size : Nat) : Int) : Int) > 0)) && ((decide (((((bt t 0).toNat : Nat) : Int) : Int) = 38)) || (decide (((((bt t 0).toNat : Nat) : Int) : Int) = 33))))))] rfl (by kernel_rfl) (retB (by rw [Bool.eq_iff_iff, isRef_iff]; simp [Ref]; omega))
set_option maxRecDepth 100000 in
theorem spec_l1Of_v (t : ByteArray) :
    CallV Tryz.prog 85 [.lf (.im true (.str t))] (· = .lf (.im true (.str (pl t)))) := by
  refine CallX (fn := Tryz.f85) TToka mixeda Tryz.func85 rfl rfl rfl rfl rfl fun E c => ?_
  refine vx c [(0, .lf (.im true (.str t)))] [] AllP.nil (by kernel_rfl) ?_
  refine xw_seq ?_
  refine vx c [(0, .lf (.im true (.str t))), (8, .bool (isRef t))] [(1, .ret (.bool (isRef t)))] (a2 (cl tx72a (spec_l1Ref_v t)) AllP.nil) (by kernel_rfl) ?_
  refine xw_cond (isRef t) rfl (fun h1 => ?_) (fun h1 => ?_)
  · have h1 := h1
    have hr : Ref t := isRef_iff.1 h1
    have h0 := hr.1
    refine vx c [(4, .lf (.im true (.str (t.extract 1 t.size))))] [(1, .cut 1 t.size (.im (.str (t.extract 1 t.size))))] (a2 (a1 (a1 (rfl : (1 : Int) = ((1 : Nat) : Int)))) (a2 (a1 (a1 (rfl : (t.size : Nat) = t.size))) (a2 (a1 (show 1 ≤ t.size by omega)) (a2 (a1 (show t.size ≤ t.size by omega)) (a2 (a1 (rfl : (.im (.str (t.extract 1 t.size)) : Slot) = .im (.str (t.extract 1 t.size)))) AllP.nil))))) (by kernel_rfl) ?_
    exact xret [.lf (.im true (.str (t.extract 1 t.size)))] rfl (by kernel_rfl) (by simp [slotOf, pl, hr])
  · have h1 := h1
    have hr : ¬ Ref t := isRef_not h1
    refine xw_skip ?_
    refine vx c [(4, .lf (.im true (.str t)))] [] AllP.nil (by kernel_rfl) ?_
    exact xret [.lf (.im true (.str t))] rfl (by kernel_rfl) (by simp [slotOf, pl, hr])
set_option maxRecDepth 100000 in
theorem impl_signOf_v (t : ByteArray) :
    CallV Tryz.prog 73 [.lf (.im true (.str t))] (· = .tup [.lf (.im true (.str (sg t))), .lf (.im true (.str (pl t)))]) := by
  refine CallX (fn := Tryz.f73) TToka mixeda Tryz.func73 rfl rfl rfl rfl rfl fun E c => ?_
  refine vx c [(0, .lf (.im true (.str t)))] [] AllP.nil (by kernel_rfl) ?_
  refine xw_seq ?_
  refine vxj c [(0, .lf (.im true (.str t))), (30, .bool ((!(t.toList == (⟨#[]⟩ : ByteArray).toList)) && ((decide (((((bt t 0).toNat : Nat) : Int) : Int) = 38)) || (decide (((((bt t 0).toNat : Nat) : Int) : Int) = 33)))))] (by
      rcases Bool.eq_false_or_eq_true (!(t.toList == (⟨#[]⟩ : ByteArray).toList)) with g1 | g1
      · have g1p := of_nT g1
        rcases Bool.eq_false_or_eq_true (decide (((((bt t 0).toNat : Nat) : Int) : Int) = 38)) with g2 | g2
        · have g2p := of_dT g2
          exact ⟨[(1, .slot (.bool true)), (4, .byte (bt t 0)), (5, .slot (.bool true)), (11, .slot (.bool ((!(t.toList == (⟨#[]⟩ : ByteArray).toList)) && ((decide (((((bt t 0).toNat : Nat) : Int) : Int) = 38)) || (decide (((((bt t 0).toNat : Nat) : Int) : Int) = 33))))))], _, (a2 (kB g1) (a2 (bt_ib (t := t) (i := 0) (by exact size_pos (by assumption))) (a2 (kB g2) (a2 (kB (b := true) (c := ((!(t.toList == (⟨#[]⟩ : ByteArray).toList)) && ((decide (((((bt t 0).toNat : Nat) : Int) : Int) = 38)) || (decide (((((bt t 0).toNat : Nat) : Int) : Int) = 33))))) (by first | (simp only [g1, g2, Bool.true_or, Bool.false_or, Bool.or_false, Bool.or_true, Bool.true_and, Bool.false_and, Bool.and_true, Bool.and_false, Bool.not_true, Bool.not_false, cond_true, cond_false]; done) | (simp [g1, g2]; done))) AllP.nil)))), by kernel_rfl⟩
        · have g2p := of_dF g2
          exact ⟨[(1, .slot (.bool true)), (4, .byte (bt t 0)), (5, .slot (.bool false)), (8, .byte (bt t 0)), (11, .slot (.bool ((!(t.toList == (⟨#[]⟩ : ByteArray).toList)) && ((decide (((((bt t 0).toNat : Nat) : Int) : Int) = 38)) || (decide (((((bt t 0).toNat : Nat) : Int) : Int) = 33))))))], _, (a2 (kB g1) (a2 (bt_ib (t := t) (i := 0) (by exact size_pos (by assumption))) (a2 (kB g2) (a2 (bt_ib (t := t) (i := 0) (by exact size_pos (by assumption))) (a2 (kB (b := decide (((((bt t 0).toNat : Nat) : Int) : Int) = 33)) (c := ((!(t.toList == (⟨#[]⟩ : ByteArray).toList)) && ((decide (((((bt t 0).toNat : Nat) : Int) : Int) = 38)) || (decide (((((bt t 0).toNat : Nat) : Int) : Int) = 33))))) (by first | (simp only [g1, g2, Bool.true_or, Bool.false_or, Bool.or_false, Bool.or_true, Bool.true_and, Bool.false_and, Bool.and_true, Bool.and_false, Bool.not_true, Bool.not_false, cond_true, cond_false]; done) | (simp [g1, g2]; done))) AllP.nil))))), by kernel_rfl⟩
      · have g1p := of_nF g1
        exact ⟨[(1, .slot (.bool false)), (11, .slot (.bool ((!(t.toList == (⟨#[]⟩ : ByteArray).toList)) && ((decide (((((bt t 0).toNat : Nat) : Int) : Int) = 38)) || (decide (((((bt t 0).toNat : Nat) : Int) : Int) = 33))))))], _, (a2 (kB g1) (a2 (kB (b := false) (c := ((!(t.toList == (⟨#[]⟩ : ByteArray).toList)) && ((decide (((((bt t 0).toNat : Nat) : Int) : Int) = 38)) || (decide (((((bt t 0).toNat : Nat) : Int) : Int) = 33))))) (by first | (simp only [g1, Bool.true_or, Bool.false_or, Bool.or_false, Bool.or_true, Bool.true_and, Bool.false_and, Bool.and_true, Bool.and_false, Bool.not_true, Bool.not_false, cond_true, cond_false]; done) | (simp [g1]; done))) AllP.nil)), by kernel_rfl⟩) ?_
  refine xw_cond ((!(t.toList == (⟨#[]⟩ : ByteArray).toList)) && ((decide (((((bt t 0).toNat : Nat) : Int) : Int) = 38)) || (decide (((((bt t 0).toNat : Nat) : Int) : Int) = 33)))) rfl (fun h1 => ?_) (fun h1 => ?_)
  · have h1 := h1
    have hr := ref_of h1
    have h0 := hr.1
    refine vx c [(4, .lf (.im true (.str (t.extract 0 1)))), (6, .lf (.im true (.str (t.extract 1 t.size))))] [(1, .cut 0 1 (.im (.str (t.extract 0 1)))), (3, .cut 1 t.size (.im (.str (t.extract 1 t.size))))] (a2 (a1 (a1 (rfl : (0 : Nat) = 0))) (a2 (a1 (a1 (rfl : (1 : Int) = ((1 : Nat) : Int)))) (a2 (a1 (show 0 ≤ 1 by omega)) (a2 (a1 (show 1 ≤ t.size by omega)) (a2 (a1 (rfl : (.im (.str (t.extract 0 1)) : Slot) = .im (.str (t.extract 0 1)))) (a2 (a1 (a1 (rfl : (1 : Int) = ((1 : Nat) : Int)))) (a2 (a1 (a1 (rfl : (t.size : Nat) = t.size))) (a2 (a1 (show 1 ≤ t.size by omega)) (a2 (a1 (show t.size ≤ t.size by omega)) (a2 (a1 (rfl : (.im (.str (t.extract 1 t.size)) : Slot) = .im (.str (t.extract 1 t.size)))) AllP.nil)))))))))) (by kernel_rfl) ?_
    exact xret [.lf (.im true (.str (t.extract 0 1))), .lf (.im true (.str (t.extract 1 t.size)))] rfl (by kernel_rfl) (by simp [slotOf, sg, pl, hr])
  · have h1 := h1
    have hr := notRef_of h1
    refine xw_skip ?_
    refine vx c [(4, .lf (.im true (.str (⟨#[]⟩ : ByteArray)))), (6, .lf (.im true (.str t)))] [] AllP.nil (by kernel_rfl) ?_
    exact xret [.lf (.im true (.str (⟨#[]⟩ : ByteArray))), .lf (.im true (.str t))] rfl (by kernel_rfl) (by simp [slotOf, sg, pl, hr])
set_option maxRecDepth 100000 in
theorem impl_kindIn_v (ks : Kinds) (t : ByteArray) :
    CallV Tryz.prog 35 [.lf (.im true (.sl 1 (ks.map rRecs))), .lf (.im true (.str t))] (· = .bool (kindIn ks t)) := by
  refine CallX (fn := Tryz.f35) TToka mixeda Tryz.func35 rfl rfl rfl rfl rfl fun E c => ?_
  refine vx c [(0, .lf (.im true (.sl 1 (ks.map rRecs)))), (2, .lf (.im true (.str t)))] [] AllP.nil (by kernel_rfl) ?_
  refine vx c [(0, .lf (.im true (.sl 1 (ks.map rRecs)))), (10, .int ((kM t : Nat) : Int)), (12, .int ((kR t : Nat) : Int)), (14, .bool (isKind t))] [(1, .ret (.tup [.lf (.im true (.int .i64 ((kM t : Nat) : Int))), .lf (.im true (.int .i64 ((kR t : Nat) : Int))), .lf (.im true (.bool (isKind t)))]))] (a2 (cl tx69a (impl_kindAt_v t)) AllP.nil) (by kernel_rfl) ?_
  refine vxj c [(8, .bool ((isKind t) && ((decide ((((kM t : Nat) : Int) : Int) < ((ks.length : Nat) : Int))) && (decide ((((kR t : Nat) : Int) : Int) < (((nth ks (kM t)).length : Nat) : Int))))))] (by
      rcases Bool.eq_false_or_eq_true (isKind t) with g1 | g1
      · rcases Bool.eq_false_or_eq_true (decide ((((kM t : Nat) : Int) : Int) < ((ks.length : Nat) : Int))) with g2 | g2
        · have g2p := of_dT g2
          exact ⟨[(0, .slot (.bool true)), (4, .slot (.int ((ks.length : Nat) : Int))), (5, .slot (.bool true)), (11, .row (rRecs (nth ks (kM t)))), (13, .slot (.int (((nth ks (kM t)).length : Nat) : Int))), (16, .slot (.bool ((isKind t) && ((decide ((((kM t : Nat) : Int) : Int) < ((ks.length : Nat) : Int))) && (decide ((((kR t : Nat) : Int) : Int) < (((nth ks (kM t)).length : Nat) : Int)))))))], _, (a2 (kB g1) (a2 (ln (l := ks) (f := rRecs)) (a2 (kB g2) (a2 (ix (f := rRecs) (l := ks) (i := kM t) (nth_at (l := ks) (i := kM t) (by omega))) (a2 (ln (l := (nth ks (kM t))) (f := rRec)) (a2 (kB (b := decide ((((kR t : Nat) : Int) : Int) < (((nth ks (kM t)).length : Nat) : Int))) (c := ((isKind t) && ((decide ((((kM t : Nat) : Int) : Int) < ((ks.length : Nat) : Int))) && (decide ((((kR t : Nat) : Int) : Int) < (((nth ks (kM t)).length : Nat) : Int)))))) (by first | (simp only [g1, g2, Bool.true_or, Bool.false_or, Bool.or_false, Bool.or_true, Bool.true_and, Bool.false_and, Bool.and_true, Bool.and_false, Bool.not_true, Bool.not_false, cond_true, cond_false]; done) | (simp [g1, g2]; done))) AllP.nil)))))), by kernel_rfl⟩
        · have g2p := of_dF g2
          exact ⟨[(0, .slot (.bool true)), (4, .slot (.int ((ks.length : Nat) : Int))), (5, .slot (.bool false)), (16, .slot (.bool ((isKind t) && ((decide ((((kM t : Nat) : Int) : Int) < ((ks.length : Nat) : Int))) && (decide ((((kR t : Nat) : Int) : Int) < (((nth ks (kM t)).length : Nat) : Int)))))))], _, (a2 (kB g1) (a2 (ln (l := ks) (f := rRecs)) (a2 (kB g2) (a2 (kB (b := false) (c := ((isKind t) && ((decide ((((kM t : Nat) : Int) : Int) < ((ks.length : Nat) : Int))) && (decide ((((kR t : Nat) : Int) : Int) < (((nth ks (kM t)).length : Nat) : Int)))))) (by first | (simp only [g1, g2, Bool.true_or, Bool.false_or, Bool.or_false, Bool.or_true, Bool.true_and, Bool.false_and, Bool.and_true, Bool.and_false, Bool.not_true, Bool.not_false, cond_true, cond_false]; done) | (simp [g1, g2]; done))) AllP.nil)))), by kernel_rfl⟩
      · exact ⟨[(0, .slot (.bool false)), (16, .slot (.bool ((isKind t) && ((decide ((((kM t : Nat) : Int) : Int) < ((ks.length : Nat) : Int))) && (decide ((((kR t : Nat) : Int) : Int) < (((nth ks (kM t)).length : Nat) : Int)))))))], _, (a2 (kB g1) (a2 (kB (b := false) (c := ((isKind t) && ((decide ((((kM t : Nat) : Int) : Int) < ((ks.length : Nat) : Int))) && (decide ((((kR t : Nat) : Int) : Int) < (((nth ks (kM t)).length : Nat) : Int)))))) (by first | (simp only [g1, Bool.true_or, Bool.false_or, Bool.or_false, Bool.or_true, Bool.true_and, Bool.false_and, Bool.and_true, Bool.and_false, Bool.not_true, Bool.not_false, cond_true, cond_false]; done) | (simp [g1]; done))) AllP.nil)), by kernel_rfl⟩) ?_
  exact xret [.lf (.im true (.bool ((isKind t) && ((decide ((((kM t : Nat) : Int) : Int) < ((ks.length : Nat) : Int))) && (decide ((((kR t : Nat) : Int) : Int) < (((nth ks (kM t)).length : Nat) : Int)))))))] rfl (by kernel_rfl) (retB (by simp [kindIn, hasK]))
set_option maxRecDepth 100000 in
theorem impl_plainOk_v (ks : Kinds) (t : ByteArray) :
    CallV Tryz.prog 74 [.lf (.im true (.sl 1 (ks.map rRecs))), .lf (.im true (.str t))] (· = .bool (plainOk ks t)) := by
  refine CallX (fn := Tryz.f74) TToka mixeda Tryz.func74 rfl rfl rfl rfl rfl fun E c => ?_
  refine vx c [(0, .lf (.im true (.sl 1 (ks.map rRecs)))), (2, .lf (.im true (.str t)))] [] AllP.nil (by kernel_rfl) ?_
  refine vxj c [(8, .bool ((t.toList == (⟨#[110]⟩ : ByteArray).toList) || ((t.toList == (⟨#[98]⟩ : ByteArray).toList) || ((t.toList == (⟨#[111]⟩ : ByteArray).toList) || (kindIn ks t)))))] (by
      rcases Bool.eq_false_or_eq_true (t.toList == (⟨#[110]⟩ : ByteArray).toList) with g1 | g1
      · exact ⟨[(1, .slot (.bool true)), (15, .slot (.bool ((t.toList == (⟨#[110]⟩ : ByteArray).toList) || ((t.toList == (⟨#[98]⟩ : ByteArray).toList) || ((t.toList == (⟨#[111]⟩ : ByteArray).toList) || (kindIn ks t))))))], _, (a2 (kB g1) (a2 (kB (b := true) (c := ((t.toList == (⟨#[110]⟩ : ByteArray).toList) || ((t.toList == (⟨#[98]⟩ : ByteArray).toList) || ((t.toList == (⟨#[111]⟩ : ByteArray).toList) || (kindIn ks t))))) (by first | (simp only [g1, Bool.true_or, Bool.false_or, Bool.or_false, Bool.or_true, Bool.true_and, Bool.false_and, Bool.and_true, Bool.and_false, Bool.not_true, Bool.not_false, cond_true, cond_false]; done) | (simp [g1]; done))) AllP.nil)), by kernel_rfl⟩
      · rcases Bool.eq_false_or_eq_true (t.toList == (⟨#[98]⟩ : ByteArray).toList) with g2 | g2
        · exact ⟨[(1, .slot (.bool false)), (4, .slot (.bool true)), (15, .slot (.bool ((t.toList == (⟨#[110]⟩ : ByteArray).toList) || ((t.toList == (⟨#[98]⟩ : ByteArray).toList) || ((t.toList == (⟨#[111]⟩ : ByteArray).toList) || (kindIn ks t))))))], _, (a2 (kB g1) (a2 (kB g2) (a2 (kB (b := true) (c := ((t.toList == (⟨#[110]⟩ : ByteArray).toList) || ((t.toList == (⟨#[98]⟩ : ByteArray).toList) || ((t.toList == (⟨#[111]⟩ : ByteArray).toList) || (kindIn ks t))))) (by first | (simp only [g1, g2, Bool.true_or, Bool.false_or, Bool.or_false, Bool.or_true, Bool.true_and, Bool.false_and, Bool.and_true, Bool.and_false, Bool.not_true, Bool.not_false, cond_true, cond_false]; done) | (simp [g1, g2]; done))) AllP.nil))), by kernel_rfl⟩
        · rcases Bool.eq_false_or_eq_true (t.toList == (⟨#[111]⟩ : ByteArray).toList) with g3 | g3
          · exact ⟨[(1, .slot (.bool false)), (4, .slot (.bool false)), (8, .slot (.bool true)), (15, .slot (.bool ((t.toList == (⟨#[110]⟩ : ByteArray).toList) || ((t.toList == (⟨#[98]⟩ : ByteArray).toList) || ((t.toList == (⟨#[111]⟩ : ByteArray).toList) || (kindIn ks t))))))], _, (a2 (kB g1) (a2 (kB g2) (a2 (kB g3) (a2 (kB (b := true) (c := ((t.toList == (⟨#[110]⟩ : ByteArray).toList) || ((t.toList == (⟨#[98]⟩ : ByteArray).toList) || ((t.toList == (⟨#[111]⟩ : ByteArray).toList) || (kindIn ks t))))) (by first | (simp only [g1, g2, g3, Bool.true_or, Bool.false_or, Bool.or_false, Bool.or_true, Bool.true_and, Bool.false_and, Bool.and_true, Bool.and_false, Bool.not_true, Bool.not_false, cond_true, cond_false]; done) | (simp [g1, g2, g3]; done))) AllP.nil)))), by kernel_rfl⟩
          · exact ⟨[(1, .slot (.bool false)), (4, .slot (.bool false)), (8, .slot (.bool false)), (13, .ret (.bool (kindIn ks t))), (15, .slot (.bool ((t.toList == (⟨#[110]⟩ : ByteArray).toList) || ((t.toList == (⟨#[98]⟩ : ByteArray).toList) || ((t.toList == (⟨#[111]⟩ : ByteArray).toList) || (kindIn ks t))))))], _, (a2 (kB g1) (a2 (kB g2) (a2 (kB g3) (a2 (cl tx35a (impl_kindIn_v ks t)) (a2 (kB (b := kindIn ks t) (c := ((t.toList == (⟨#[110]⟩ : ByteArray).toList) || ((t.toList == (⟨#[98]⟩ : ByteArray).toList) || ((t.toList == (⟨#[111]⟩ : ByteArray).toList) || (kindIn ks t))))) (by first | (simp only [g1, g2, g3, Bool.true_or, Bool.false_or, Bool.or_false, Bool.or_true, Bool.true_and, Bool.false_and, Bool.and_true, Bool.and_false, Bool.not_true, Bool.not_false, cond_true, cond_false]; done) | (simp [g1, g2, g3]; done))) AllP.nil))))), by kernel_rfl⟩) ?_
  exact xret [.lf (.im true (.bool ((t.toList == (⟨#[110]⟩ : ByteArray).toList) || ((t.toList == (⟨#[98]⟩ : ByteArray).toList) || ((t.toList == (⟨#[111]⟩ : ByteArray).toList) || (kindIn ks t))))))] rfl (by kernel_rfl) (retB (by simp [plainOk, kindIn, isBase, Bool.or_assoc]))
set_option maxRecDepth 100000 in
theorem spec_l1Plain_v (ks : Kinds) (t : ByteArray) :
    CallV Tryz.prog 107 [.lf (.im true (.sl 1 (ks.map rRecs))), .lf (.im true (.str t))] (· = .bool (plainOk ks t)) := by
  refine CallX (fn := Tryz.f107) TToka mixeda Tryz.func107 rfl rfl rfl rfl rfl fun E c => ?_
  refine vx c [(0, .lf (.im true (.sl 1 (ks.map rRecs)))), (2, .lf (.im true (.str t)))] [] AllP.nil (by kernel_rfl) ?_
  refine vx c [(0, .lf (.im true (.sl 1 (ks.map rRecs)))), (2, .lf (.im true (.str t))), (10, .int ((kM t : Nat) : Int)), (12, .int ((kR t : Nat) : Int)), (14, .bool (isKind t))] [(1, .ret (.tup [.lf (.im true (.int .i64 ((kM t : Nat) : Int))), .lf (.im true (.int .i64 ((kR t : Nat) : Int))), .lf (.im true (.bool (isKind t)))]))] (a2 (cl tx70a (spec_l1Kind_v t)) AllP.nil) (by kernel_rfl) ?_
  refine vxj c [(8, .bool ((isBase t) || ((isKind t) && (hasK ks (kM t) (kR t)))))] (by
      rcases Bool.eq_false_or_eq_true (isBase t) with g1 | g1
      · exact ⟨[(1, .ret (.bool (isBase t))), (2, .slot (.bool true)), (11, .slot (.bool ((isBase t) || ((isKind t) && (hasK ks (kM t) (kR t))))))], _, (a2 (cl tx120a (spec_l1Base_v t)) (a2 (kB g1) (a2 (kB (b := true) (c := ((isBase t) || ((isKind t) && (hasK ks (kM t) (kR t))))) (by first | (simp only [g1, Bool.true_or, Bool.false_or, Bool.or_false, Bool.or_true, Bool.true_and, Bool.false_and, Bool.and_true, Bool.and_false, Bool.not_true, Bool.not_false, cond_true, cond_false]; done) | (simp [g1]; done))) AllP.nil))), by kernel_rfl⟩
      · rcases Bool.eq_false_or_eq_true (isKind t) with g2 | g2
        · exact ⟨[(1, .ret (.bool (isBase t))), (2, .slot (.bool false)), (3, .slot (.bool true)), (8, .ret (.bool (hasK ks (kM t) (kR t)))), (11, .slot (.bool ((isBase t) || ((isKind t) && (hasK ks (kM t) (kR t))))))], _, (a2 (cl tx120a (spec_l1Base_v t)) (a2 (kB g1) (a2 (kB g2) (a2 (cl tx71a (spec_l1Has_v ks (kM t) (kR t))) (a2 (kB (b := hasK ks (kM t) (kR t)) (c := ((isBase t) || ((isKind t) && (hasK ks (kM t) (kR t))))) (by first | (simp only [g1, g2, Bool.true_or, Bool.false_or, Bool.or_false, Bool.or_true, Bool.true_and, Bool.false_and, Bool.and_true, Bool.and_false, Bool.not_true, Bool.not_false, cond_true, cond_false]; done) | (simp [g1, g2]; done))) AllP.nil))))), by kernel_rfl⟩
        · exact ⟨[(1, .ret (.bool (isBase t))), (2, .slot (.bool false)), (3, .slot (.bool false)), (11, .slot (.bool ((isBase t) || ((isKind t) && (hasK ks (kM t) (kR t))))))], _, (a2 (cl tx120a (spec_l1Base_v t)) (a2 (kB g1) (a2 (kB g2) (a2 (kB (b := false) (c := ((isBase t) || ((isKind t) && (hasK ks (kM t) (kR t))))) (by first | (simp only [g1, g2, Bool.true_or, Bool.false_or, Bool.or_false, Bool.or_true, Bool.true_and, Bool.false_and, Bool.and_true, Bool.and_false, Bool.not_true, Bool.not_false, cond_true, cond_false]; done) | (simp [g1, g2]; done))) AllP.nil)))), by kernel_rfl⟩) ?_
  exact xret [.lf (.im true (.bool ((isBase t) || ((isKind t) && (hasK ks (kM t) (kR t))))))] rfl (by kernel_rfl) (retB (by simp [plainOk, kindIn]))
set_option maxRecDepth 100000 in
theorem impl_recordOf_v (ks : Kinds) (t : ByteArray) (h : kindIn ks t = true) :
    CallV Tryz.prog 36 [.lf (.im true (.sl 1 (ks.map rRecs))), .lf (.im true (.str t))] (· = .agg [.im true (.int .i64 (recOf ks t).able), .im true (.sl 1 ((recOf ks t).fields.map rS))]) := by
  refine CallX (fn := Tryz.f36) TToka mixeda Tryz.func36 rfl rfl rfl rfl rfl fun E c => ?_
  obtain ⟨hk, hm, hr⟩ := kindIn_iff.1 h
  refine vx c [(0, .lf (.im true (.sl 1 (ks.map rRecs)))), (2, .lf (.im true (.str t))), (8, .lf (.ptr 4 0)), (9, .cell 4 [.im true (.int .i64 0), .nil])] [] AllP.nil (by kernel_rfl) ?_
  refine vx c [(0, .lf (.im true (.sl 1 (ks.map rRecs)))), (8, .lf (.ptr 4 0)), (9, .cell 4 [.im true (.int .i64 0), .nil]), (10, .int ((kM t : Nat) : Int)), (12, .int ((kR t : Nat) : Int))] [(1, .ret (.tup [.lf (.im true (.int .i64 ((kM t : Nat) : Int))), .lf (.im true (.int .i64 ((kR t : Nat) : Int))), .lf (.im true (.bool (isKind t)))]))] (a2 (cl tx69a (impl_kindAt_v t)) AllP.nil) (by kernel_rfl) ?_
  refine vx c [(8, .lf (.ptr 4 0)), (9, .cell 4 [.im true (.int .i64 ((nth (nth ks (kM t)) (kR t)).able)), .im true (.sl 1 (((nth (nth ks (kM t)) (kR t)).fields).map rS))])] [(2, .row (rRecs (nth ks (kM t)))), (5, .row (rRec (nth (nth ks (kM t)) (kR t))))] (a2 (ix (f := rRecs) (l := ks) (i := kM t) (nth_at (l := ks) (i := kM t) (by omega))) (a2 (ix (f := rRec) (l := (nth ks (kM t))) (i := kR t) (nth_at (l := (nth ks (kM t))) (i := kR t) (by omega))) AllP.nil)) (by kernel_rfl) ?_
  exact xret [.agg [.im true (.int .i64 ((nth (nth ks (kM t)) (kR t)).able)), .im true (.sl 1 (((nth (nth ks (kM t)) (kR t)).fields).map rS))]] rfl (by kernel_rfl) (rfl)
set_option maxRecDepth 100000 in
theorem spec_l1Able_v (ks : Kinds) (t : ByteArray) (h : IsKind t → kindIn ks t = true) :
    CallV Tryz.prog 38 [.lf (.im true (.sl 1 (ks.map rRecs))), .lf (.im true (.str t))] (· = .int (ableOf ks t)) := by
  refine CallX (fn := Tryz.f38) TToka mixeda Tryz.func38 rfl rfl rfl rfl rfl fun E c => ?_
  refine vx c [(0, .lf (.im true (.sl 1 (ks.map rRecs)))), (2, .lf (.im true (.str t)))] [] AllP.nil (by kernel_rfl) ?_
  refine xw_seq ?_
  refine vxj c [(0, .lf (.im true (.sl 1 (ks.map rRecs)))), (2, .lf (.im true (.str t))), (28, .bool ((isRef t) && (decide (((((bt t 0).toNat : Nat) : Int) : Int) = 38))))] (by
      rcases Bool.eq_false_or_eq_true (isRef t) with g1 | g1
      · exact ⟨[(1, .ret (.bool (isRef t))), (2, .slot (.bool true)), (4, .byte (bt t 0)), (6, .slot (.bool ((isRef t) && (decide (((((bt t 0).toNat : Nat) : Int) : Int) = 38)))))], _, (a2 (cl tx72a (spec_l1Ref_v t)) (a2 (kB g1) (a2 (bt_ib (t := t) (i := 0) (by exact (of_decide_eq_true (by assumption) : Ref t).1)) (a2 (kB (b := decide (((((bt t 0).toNat : Nat) : Int) : Int) = 38)) (c := ((isRef t) && (decide (((((bt t 0).toNat : Nat) : Int) : Int) = 38)))) (by first | (simp only [g1, Bool.true_or, Bool.false_or, Bool.or_false, Bool.or_true, Bool.true_and, Bool.false_and, Bool.and_true, Bool.and_false, Bool.not_true, Bool.not_false, cond_true, cond_false]; done) | (simp [g1]; done))) AllP.nil)))), by kernel_rfl⟩
      · exact ⟨[(1, .ret (.bool (isRef t))), (2, .slot (.bool false)), (6, .slot (.bool ((isRef t) && (decide (((((bt t 0).toNat : Nat) : Int) : Int) = 38)))))], _, (a2 (cl tx72a (spec_l1Ref_v t)) (a2 (kB g1) (a2 (kB (b := false) (c := ((isRef t) && (decide (((((bt t 0).toNat : Nat) : Int) : Int) = 38)))) (by first | (simp only [g1, Bool.true_or, Bool.false_or, Bool.or_false, Bool.or_true, Bool.true_and, Bool.false_and, Bool.and_true, Bool.and_false, Bool.not_true, Bool.not_false, cond_true, cond_false]; done) | (simp [g1]; done))) AllP.nil))), by kernel_rfl⟩) ?_
  refine xw_cond ((isRef t) && (decide (((((bt t 0).toNat : Nat) : Int) : Int) = 38))) rfl (fun h1 => ?_) (fun h1 => ?_)
  · have h1 := h1
    have hr : Ref t ∧ (bt t 0).toNat = 38 := by rw [Bool.and_eq_true] at h1; have h2 := h1.2; simp at h2; exact ⟨isRef_iff.1 h1.1, by omega⟩
    refine vx c [(8, .int 3)] [] AllP.nil (by kernel_rfl) ?_
    exact xret [.lf (.im true (.int .i64 3))] rfl (by kernel_rfl) (retI (by simp [ableOf, hr]))
  · have h1 := h1
    have hr : ¬ (Ref t ∧ (bt t 0).toNat = 38) := by
      rintro ⟨a, b⟩
      rw [isRef_iff.2 a] at h1
      simp at h1; omega
    refine xw_skip ?_
    refine xw_seq ?_
    refine vx c [(0, .lf (.im true (.sl 1 (ks.map rRecs)))), (2, .lf (.im true (.str t))), (32, .bool (isRef t))] [(1, .ret (.bool (isRef t)))] (a2 (cl tx72a (spec_l1Ref_v t)) AllP.nil) (by kernel_rfl) ?_
    refine xw_cond (isRef t) rfl (fun h2 => ?_) (fun h2 => ?_)
    · have h2 := h2
      have hq : Ref t := isRef_iff.1 h2
      refine vx c [(8, .int 2)] [] AllP.nil (by kernel_rfl) ?_
      exact xret [.lf (.im true (.int .i64 2))] rfl (by kernel_rfl) (retI (by rw [ableOf, if_neg hr, if_pos hq]))
    · have h2 := h2
      have hq : ¬ Ref t := isRef_not h2
      refine xw_skip ?_
      refine vx c [(0, .lf (.im true (.sl 1 (ks.map rRecs)))), (10, .int ((kM t : Nat) : Int)), (12, .int ((kR t : Nat) : Int)), (14, .bool (isKind t))] [(1, .ret (.tup [.lf (.im true (.int .i64 ((kM t : Nat) : Int))), .lf (.im true (.int .i64 ((kR t : Nat) : Int))), .lf (.im true (.bool (isKind t)))]))] (a2 (cl tx70a (spec_l1Kind_v t)) AllP.nil) (by kernel_rfl) ?_
      refine xw_seq ?_
      refine vx c [(0, .lf (.im true (.sl 1 (ks.map rRecs)))), (10, .int ((kM t : Nat) : Int)), (12, .int ((kR t : Nat) : Int)), (46, .bool (isKind t))] [] AllP.nil (by kernel_rfl) ?_
      refine xw_cond (isKind t) rfl (fun h3 => ?_) (fun h3 => ?_)
      · have h3 := h3
        have hk := h (of_decide_eq_true h3)
        obtain ⟨hk0, hm, hr2⟩ := kindIn_iff.1 hk
        refine vx c [(8, .int ((nth (nth ks (kM t)) (kR t)).able))] [(2, .row (rRecs (nth ks (kM t)))), (5, .row (rRec (nth (nth ks (kM t)) (kR t))))] (a2 (ix (f := rRecs) (l := ks) (i := kM t) (nth_at (l := ks) (i := kM t) (by omega))) (a2 (ix (f := rRec) (l := (nth ks (kM t))) (i := kR t) (nth_at (l := (nth ks (kM t))) (i := kR t) (by omega))) AllP.nil)) (by kernel_rfl) ?_
        exact xret [.lf (.im true (.int .i64 ((nth (nth ks (kM t)) (kR t)).able)))] rfl (by kernel_rfl) (retI (by rw [ableOf, if_neg hr, if_neg hq, if_pos hk]; rfl))
      · have h3 := h3
        have hk : ¬ kindIn ks t = true := fun hk => by have := (kindIn_iff.1 hk).1; simp [isKind, this] at h3
        refine xw_skip ?_
        refine vx c [(8, .int 7)] [] AllP.nil (by kernel_rfl) ?_
        exact xret [.lf (.im true (.int .i64 7))] rfl (by kernel_rfl) (retI (by rw [ableOf, if_neg hr, if_neg hq, if_neg hk]))
set_option maxRecDepth 100000 in
theorem impl_ableOf_v (ks : Kinds) (t : ByteArray) :
    CallV Tryz.prog 41 [.lf (.im true (.sl 1 (ks.map rRecs))), .lf (.im true (.str t))] (· = .int (ableOf ks t)) := by
  refine CallX (fn := Tryz.f41) TToka mixeda Tryz.func41 rfl rfl rfl rfl rfl fun E c => ?_
  refine vx c [(0, .lf (.im true (.sl 1 (ks.map rRecs)))), (2, .lf (.im true (.str t)))] [] AllP.nil (by kernel_rfl) ?_
  refine vx c [(0, .lf (.im true (.sl 1 (ks.map rRecs)))), (10, .lf (.im true (.str (sg t)))), (12, .lf (.im true (.str (pl t))))] [(1, .ret (.tup [.lf (.im true (.str (sg t))), .lf (.im true (.str (pl t)))]))] (a2 (cl tx73a (impl_signOf_v t)) AllP.nil) (by kernel_rfl) ?_
  refine xw_seq ?_
  refine xw_block ?_
  refine vx c [(0, .lf (.im true (.sl 1 (ks.map rRecs)))), (10, .lf (.im true (.str (sg t)))), (12, .lf (.im true (.str (pl t)))), (24, .bool ((sg t).toList == (⟨#[38]⟩ : ByteArray).toList))] [] AllP.nil (by kernel_rfl) ?_
  refine xw_cond ((sg t).toList == (⟨#[38]⟩ : ByteArray).toList) rfl (fun h1 => ?_) (fun h1 => ?_)
  · have h1 := h1
    have hr := sg38 h1
    refine vx c [(8, .int 3)] [] AllP.nil (by kernel_rfl) ?_
    exact xret [.lf (.im true (.int .i64 3))] rfl (by kernel_rfl) (retI (by simp [ableOf, hr]))
  · have h1 := h1
    have hr := sgNot38 h1
    refine vx c [(0, .lf (.im true (.sl 1 (ks.map rRecs)))), (12, .lf (.im true (.str (pl t)))), (30, .bool ((sg t).toList == (⟨#[33]⟩ : ByteArray).toList))] [] AllP.nil (by kernel_rfl) ?_
    refine xw_cond ((sg t).toList == (⟨#[33]⟩ : ByteArray).toList) rfl (fun h2 => ?_) (fun h2 => ?_)
    · have h2 := h2
      have hq := sg33 h2
      refine vx c [(8, .int 2)] [] AllP.nil (by kernel_rfl) ?_
      exact xret [.lf (.im true (.int .i64 2))] rfl (by kernel_rfl) (retI (by rw [ableOf, if_neg hr, if_pos hq]))
    · have h2 := h2
      have hq := sgNot33 hr h2
      have hpl := pl_of hq
      refine vx c [(0, .lf (.im true (.sl 1 (ks.map rRecs)))), (12, .lf (.im true (.str (pl t)))), (36, .bool (kindIn ks (pl t)))] [(2, .ret (.bool (kindIn ks (pl t))))] (a2 (cl tx35a (impl_kindIn_v ks (pl t))) AllP.nil) (by kernel_rfl) ?_
      refine xw_cond (kindIn ks (pl t)) rfl (fun h3 => ?_) (fun h3 => ?_)
      · have h3 := h3
        have hk : kindIn ks t = true := by rw [← hpl]; exact h3
        refine vx c [(8, .int ((recOf ks (pl t)).able))] [(2, .ret (.agg [.im true (.int .i64 ((recOf ks (pl t)).able)), .im true (.sl 1 (((recOf ks (pl t)).fields).map rS))])), (3, .cut 0 0 .hole)] (a2 (cl tx36a (impl_recordOf_v ks (pl t) (by assumption))) (a2 (a1 field66_0a) AllP.nil)) (by kernel_rfl) ?_
        exact xret [.lf (.im true (.int .i64 ((recOf ks (pl t)).able)))] rfl (by kernel_rfl) (retI (by rw [ableOf, if_neg hr, if_neg hq, if_pos hk, hpl]))
      · have h3 := h3
        have hk : ¬ kindIn ks t = true := by rw [← hpl, h3]; exact Bool.false_ne_true
        refine xw_skip ?_
        refine vx c [(8, .int 7)] [] AllP.nil (by kernel_rfl) ?_
        exact xret [.lf (.im true (.int .i64 7))] rfl (by kernel_rfl) (retI (by rw [ableOf, if_neg hr, if_neg hq, if_neg hk]))
set_option maxRecDepth 100000 in
theorem spec_l1Field_v (ks : Kinds) (m r : Nat) (t : ByteArray) :
    CallV Tryz.prog 119 [.lf (.im true (.sl 1 (ks.map rRecs))), .lf (.im true (.int .i64 ((m : Nat) : Int))), .lf (.im true (.int .i64 ((r : Nat) : Int))), .lf (.im true (.str t))] (· = .bool (fieldOk ks m r t)) := by
  refine CallX (fn := Tryz.f119) TToka mixeda Tryz.func119 rfl rfl rfl rfl rfl fun E c => ?_
  refine vx c [(0, .lf (.im true (.sl 1 (ks.map rRecs)))), (2, .int ((m : Nat) : Int)), (4, .int ((r : Nat) : Int)), (6, .lf (.im true (.str t)))] [] AllP.nil (by kernel_rfl) ?_
  refine vx c [(0, .lf (.im true (.sl 1 (ks.map rRecs)))), (2, .int ((m : Nat) : Int)), (4, .int ((r : Nat) : Int)), (6, .lf (.im true (.str t))), (18, .int ((kM t : Nat) : Int)), (20, .int ((kR t : Nat) : Int)), (22, .bool (isKind t))] [(1, .ret (.tup [.lf (.im true (.int .i64 ((kM t : Nat) : Int))), .lf (.im true (.int .i64 ((kR t : Nat) : Int))), .lf (.im true (.bool (isKind t)))]))] (a2 (cl tx70a (spec_l1Kind_v t)) AllP.nil) (by kernel_rfl) ?_
  refine xw_seq ?_
  refine vx c [(0, .lf (.im true (.sl 1 (ks.map rRecs)))), (2, .int ((m : Nat) : Int)), (4, .int ((r : Nat) : Int)), (6, .lf (.im true (.str t))), (18, .int ((kM t : Nat) : Int)), (20, .int ((kR t : Nat) : Int)), (38, .bool (!(isKind t)))] [] AllP.nil (by kernel_rfl) ?_
  refine xw_cond (!(isKind t)) rfl (fun h1 => ?_) (fun h1 => ?_)
  · have h1 : (isKind t) = false := of_nT h1
    refine vx c [(16, .bool (isBase t))] [(1, .ret (.bool (isBase t)))] (a2 (cl tx120a (spec_l1Base_v t)) AllP.nil) (by kernel_rfl) ?_
    exact xret [.lf (.im true (.bool (isBase t)))] rfl (by kernel_rfl) (retB (by simp [fieldOk, kindIn, h1]))
  · have h1 : (isKind t) = true := of_nF h1
    refine xw_skip ?_
    refine vxj c [(16, .bool ((hasK ks (kM t) (kR t)) && ((decide ((((kM t : Nat) : Int) : Int) < ((m : Nat) : Int))) || ((decide ((((kM t : Nat) : Int) : Int) = ((m : Nat) : Int))) && (decide ((((kR t : Nat) : Int) : Int) < ((r : Nat) : Int)))))))] (by
        rcases Bool.eq_false_or_eq_true (hasK ks (kM t) (kR t)) with g1 | g1
        · rcases Bool.eq_false_or_eq_true (decide ((((kM t : Nat) : Int) : Int) < ((m : Nat) : Int))) with g2 | g2
          · have g2p := of_dT g2
            exact ⟨[(3, .ret (.bool (hasK ks (kM t) (kR t)))), (4, .slot (.bool true)), (7, .slot (.bool true)), (19, .slot (.bool ((hasK ks (kM t) (kR t)) && ((decide ((((kM t : Nat) : Int) : Int) < ((m : Nat) : Int))) || ((decide ((((kM t : Nat) : Int) : Int) = ((m : Nat) : Int))) && (decide ((((kR t : Nat) : Int) : Int) < ((r : Nat) : Int))))))))], _, (a2 (cl tx71a (spec_l1Has_v ks (kM t) (kR t))) (a2 (kB g1) (a2 (kB g2) (a2 (kB (b := true) (c := ((hasK ks (kM t) (kR t)) && ((decide ((((kM t : Nat) : Int) : Int) < ((m : Nat) : Int))) || ((decide ((((kM t : Nat) : Int) : Int) = ((m : Nat) : Int))) && (decide ((((kR t : Nat) : Int) : Int) < ((r : Nat) : Int))))))) (by first | (simp only [g1, g2, Bool.true_or, Bool.false_or, Bool.or_false, Bool.or_true, Bool.true_and, Bool.false_and, Bool.and_true, Bool.and_false, Bool.not_true, Bool.not_false, cond_true, cond_false]; done) | (simp [g1, g2]; done))) AllP.nil)))), by kernel_rfl⟩
          · have g2p := of_dF g2
            rcases Bool.eq_false_or_eq_true (decide ((((kM t : Nat) : Int) : Int) = ((m : Nat) : Int))) with g3 | g3
            · have g3p := of_dT g3
              exact ⟨[(3, .ret (.bool (hasK ks (kM t) (kR t)))), (4, .slot (.bool true)), (7, .slot (.bool false)), (11, .slot (.bool true)), (19, .slot (.bool ((hasK ks (kM t) (kR t)) && ((decide ((((kM t : Nat) : Int) : Int) < ((m : Nat) : Int))) || ((decide ((((kM t : Nat) : Int) : Int) = ((m : Nat) : Int))) && (decide ((((kR t : Nat) : Int) : Int) < ((r : Nat) : Int))))))))], _, (a2 (cl tx71a (spec_l1Has_v ks (kM t) (kR t))) (a2 (kB g1) (a2 (kB g2) (a2 (kB g3) (a2 (kB (b := decide ((((kR t : Nat) : Int) : Int) < ((r : Nat) : Int))) (c := ((hasK ks (kM t) (kR t)) && ((decide ((((kM t : Nat) : Int) : Int) < ((m : Nat) : Int))) || ((decide ((((kM t : Nat) : Int) : Int) = ((m : Nat) : Int))) && (decide ((((kR t : Nat) : Int) : Int) < ((r : Nat) : Int))))))) (by first | (simp only [g1, g2, g3, Bool.true_or, Bool.false_or, Bool.or_false, Bool.or_true, Bool.true_and, Bool.false_and, Bool.and_true, Bool.and_false, Bool.not_true, Bool.not_false, cond_true, cond_false]; done) | (simp [g1, g2, g3]; done))) AllP.nil))))), by kernel_rfl⟩
            · have g3p := of_dF g3
              exact ⟨[(3, .ret (.bool (hasK ks (kM t) (kR t)))), (4, .slot (.bool true)), (7, .slot (.bool false)), (11, .slot (.bool false)), (19, .slot (.bool ((hasK ks (kM t) (kR t)) && ((decide ((((kM t : Nat) : Int) : Int) < ((m : Nat) : Int))) || ((decide ((((kM t : Nat) : Int) : Int) = ((m : Nat) : Int))) && (decide ((((kR t : Nat) : Int) : Int) < ((r : Nat) : Int))))))))], _, (a2 (cl tx71a (spec_l1Has_v ks (kM t) (kR t))) (a2 (kB g1) (a2 (kB g2) (a2 (kB g3) (a2 (kB (b := false) (c := ((hasK ks (kM t) (kR t)) && ((decide ((((kM t : Nat) : Int) : Int) < ((m : Nat) : Int))) || ((decide ((((kM t : Nat) : Int) : Int) = ((m : Nat) : Int))) && (decide ((((kR t : Nat) : Int) : Int) < ((r : Nat) : Int))))))) (by first | (simp only [g1, g2, g3, Bool.true_or, Bool.false_or, Bool.or_false, Bool.or_true, Bool.true_and, Bool.false_and, Bool.and_true, Bool.and_false, Bool.not_true, Bool.not_false, cond_true, cond_false]; done) | (simp [g1, g2, g3]; done))) AllP.nil))))), by kernel_rfl⟩
        · exact ⟨[(3, .ret (.bool (hasK ks (kM t) (kR t)))), (4, .slot (.bool false)), (19, .slot (.bool ((hasK ks (kM t) (kR t)) && ((decide ((((kM t : Nat) : Int) : Int) < ((m : Nat) : Int))) || ((decide ((((kM t : Nat) : Int) : Int) = ((m : Nat) : Int))) && (decide ((((kR t : Nat) : Int) : Int) < ((r : Nat) : Int))))))))], _, (a2 (cl tx71a (spec_l1Has_v ks (kM t) (kR t))) (a2 (kB g1) (a2 (kB (b := false) (c := ((hasK ks (kM t) (kR t)) && ((decide ((((kM t : Nat) : Int) : Int) < ((m : Nat) : Int))) || ((decide ((((kM t : Nat) : Int) : Int) = ((m : Nat) : Int))) && (decide ((((kR t : Nat) : Int) : Int) < ((r : Nat) : Int))))))) (by first | (simp only [g1, Bool.true_or, Bool.false_or, Bool.or_false, Bool.or_true, Bool.true_and, Bool.false_and, Bool.and_true, Bool.and_false, Bool.not_true, Bool.not_false, cond_true, cond_false]; done) | (simp [g1]; done))) AllP.nil))), by kernel_rfl⟩) ?_
    exact xret [.lf (.im true (.bool ((hasK ks (kM t) (kR t)) && ((decide ((((kM t : Nat) : Int) : Int) < ((m : Nat) : Int))) || ((decide ((((kM t : Nat) : Int) : Int) = ((m : Nat) : Int))) && (decide ((((kR t : Nat) : Int) : Int) < ((r : Nat) : Int))))))))] rfl (by kernel_rfl) (retB (by simp [fieldOk, kindIn, h1, notBase_of (of_decide_eq_true h1), Int.ofNat_inj]))
set_option maxRecDepth 100000 in
theorem impl_rising_v (l : List Int) (ha : l.length ≤ 140737488355328) (lo hi : Int) :
    CallV Tryz.prog 45 [.lf (.im true (.sl 1 (l.map rI))), .lf (.im true (.int .i64 lo)), .lf (.im true (.int .i64 hi))] (· = .bool (B (Rising l lo hi))) := by
  refine CallX (fn := Tryz.f45) TToka mixeda Tryz.func45 rfl rfl rfl rfl rfl fun E c => ?_
  refine vx c [(0, .lf (.im true (.sl 1 (l.map rI)))), (2, .int lo), (4, .int hi)] [] AllP.nil (by kernel_rfl) ?_
  refine xw_seq ?_
  refine vx c [(0, .lf (.im true (.sl 1 (l.map rI)))), (2, .int lo), (4, .int hi), (18, .lf (.im true (.sl 1 (l.map rI)))), (20, .int ((l.length : Nat) : Int)), (22, .int 0)] [(1, .slot (.int ((l.length : Nat) : Int)))] (a2 (ln (l := l) (f := rI)) AllP.nil) (by kernel_rfl) ?_
  refine xw_block ?_
  refine xw_loop (fun n L => ∃ (i : Nat), L = [(0, .lf (.im true (.sl 1 (l.map rI)))), (2, .int lo), (4, .int hi), (18, .lf (.im true (.sl 1 (l.map rI)))), (20, .int ((l.length : Nat) : Int)), (22, .int ((i : Nat) : Int))] ∧ n = l.length - i ∧ (i ≤ l.length ∧ Upto (rise1 l lo hi) l i)) _ ⟨0, rfl, rfl, ⟨by omega, upto0⟩⟩ ?_
  rintro n L ⟨i, rfl, rfl, hP1⟩
  refine vx c [(0, .lf (.im true (.sl 1 (l.map rI)))), (2, .int lo), (4, .int hi), (18, .lf (.im true (.sl 1 (l.map rI)))), (20, .int ((l.length : Nat) : Int)), (22, .int ((i : Nat) : Int)), (24, .bool (decide ((((i : Nat) : Int) : Int) < ((l.length : Nat) : Int))))] [] AllP.nil (by kernel_rfl) ?_
  refine xw_seq ?_
  refine xw_cond (decide ((((i : Nat) : Int) : Int) < ((l.length : Nat) : Int))) rfl (fun h1 => ?_) (fun h1 => ?_)
  · have h1 := of_dT h1
    refine xw_skip ?_
    refine xw_seq ?_
    refine xw_block ?_
    refine vx c [(0, .lf (.im true (.sl 1 (l.map rI)))), (2, .int lo), (4, .int hi), (14, .int ((i : Nat) : Int)), (16, .int (nth l i)), (18, .lf (.im true (.sl 1 (l.map rI)))), (20, .int ((l.length : Nat) : Int)), (22, .int ((i : Nat) : Int))] [(1, .row (rI (nth l i)))] (a2 (ix (f := rI) (l := l) (i := i) (nth_at (l := l) (i := i) (by omega))) AllP.nil) (by kernel_rfl) ?_
    refine vxj c [(0, .lf (.im true (.sl 1 (l.map rI)))), (2, .int lo), (4, .int hi), (18, .lf (.im true (.sl 1 (l.map rI)))), (20, .int ((l.length : Nat) : Int)), (22, .int ((i : Nat) : Int)), (72, .bool ((decide (((nth l i) : Int) < lo)) || ((decide (((nth l i) : Int) > hi)) || ((decide ((((i : Nat) : Int) : Int) > 0)) && (decide (((nth l i) : Int) ≤ (nth l (i - 1))))))))] (by
        rcases Bool.eq_false_or_eq_true (decide (((nth l i) : Int) < lo)) with g1 | g1
        · have g1p := of_dT g1
          exact ⟨[(2, .slot (.bool true)), (20, .slot (.bool ((decide (((nth l i) : Int) < lo)) || ((decide (((nth l i) : Int) > hi)) || ((decide ((((i : Nat) : Int) : Int) > 0)) && (decide (((nth l i) : Int) ≤ (nth l (i - 1)))))))))], _, (a2 (kB g1) (a2 (kB (b := true) (c := ((decide (((nth l i) : Int) < lo)) || ((decide (((nth l i) : Int) > hi)) || ((decide ((((i : Nat) : Int) : Int) > 0)) && (decide (((nth l i) : Int) ≤ (nth l (i - 1)))))))) (by first | (simp only [g1, Bool.true_or, Bool.false_or, Bool.or_false, Bool.or_true, Bool.true_and, Bool.false_and, Bool.and_true, Bool.and_false, Bool.not_true, Bool.not_false, cond_true, cond_false]; done) | (simp [g1]; done))) AllP.nil)), by kernel_rfl⟩
        · have g1p := of_dF g1
          rcases Bool.eq_false_or_eq_true (decide (((nth l i) : Int) > hi)) with g2 | g2
          · have g2p := of_dT g2
            exact ⟨[(2, .slot (.bool false)), (6, .slot (.bool true)), (20, .slot (.bool ((decide (((nth l i) : Int) < lo)) || ((decide (((nth l i) : Int) > hi)) || ((decide ((((i : Nat) : Int) : Int) > 0)) && (decide (((nth l i) : Int) ≤ (nth l (i - 1)))))))))], _, (a2 (kB g1) (a2 (kB g2) (a2 (kB (b := true) (c := ((decide (((nth l i) : Int) < lo)) || ((decide (((nth l i) : Int) > hi)) || ((decide ((((i : Nat) : Int) : Int) > 0)) && (decide (((nth l i) : Int) ≤ (nth l (i - 1)))))))) (by first | (simp only [g1, g2, Bool.true_or, Bool.false_or, Bool.or_false, Bool.or_true, Bool.true_and, Bool.false_and, Bool.and_true, Bool.and_false, Bool.not_true, Bool.not_false, cond_true, cond_false]; done) | (simp [g1, g2]; done))) AllP.nil))), by kernel_rfl⟩
          · have g2p := of_dF g2
            rcases Bool.eq_false_or_eq_true (decide ((((i : Nat) : Int) : Int) > 0)) with g3 | g3
            · have g3p := of_dT g3
              exact ⟨[(2, .slot (.bool false)), (6, .slot (.bool false)), (10, .slot (.bool true)), (15, .slot (.int ((i - 1 : Nat) : Int))), (16, .row (rI (nth l (i - 1)))), (20, .slot (.bool ((decide (((nth l i) : Int) < lo)) || ((decide (((nth l i) : Int) > hi)) || ((decide ((((i : Nat) : Int) : Int) > 0)) && (decide (((nth l i) : Int) ≤ (nth l (i - 1)))))))))], _, (a2 (kB g1) (a2 (kB g2) (a2 (kB g3) (a2 (wI (a := ((i : Nat) : Int) - 1) (b := ((i - 1 : Nat) : Int)) (by omega) (by omega) (by omega)) (a2 (ix (f := rI) (l := l) (i := i - 1) (nth_at (l := l) (i := i - 1) (by omega))) (a2 (kB (b := decide (((nth l i) : Int) ≤ (nth l (i - 1)))) (c := ((decide (((nth l i) : Int) < lo)) || ((decide (((nth l i) : Int) > hi)) || ((decide ((((i : Nat) : Int) : Int) > 0)) && (decide (((nth l i) : Int) ≤ (nth l (i - 1)))))))) (by first | (simp only [g1, g2, g3, Bool.true_or, Bool.false_or, Bool.or_false, Bool.or_true, Bool.true_and, Bool.false_and, Bool.and_true, Bool.and_false, Bool.not_true, Bool.not_false, cond_true, cond_false]; done) | (simp [g1, g2, g3]; done))) AllP.nil)))))), by kernel_rfl⟩
            · have g3p := of_dF g3
              exact ⟨[(2, .slot (.bool false)), (6, .slot (.bool false)), (10, .slot (.bool false)), (20, .slot (.bool ((decide (((nth l i) : Int) < lo)) || ((decide (((nth l i) : Int) > hi)) || ((decide ((((i : Nat) : Int) : Int) > 0)) && (decide (((nth l i) : Int) ≤ (nth l (i - 1)))))))))], _, (a2 (kB g1) (a2 (kB g2) (a2 (kB g3) (a2 (kB (b := false) (c := ((decide (((nth l i) : Int) < lo)) || ((decide (((nth l i) : Int) > hi)) || ((decide ((((i : Nat) : Int) : Int) > 0)) && (decide (((nth l i) : Int) ≤ (nth l (i - 1)))))))) (by first | (simp only [g1, g2, g3, Bool.true_or, Bool.false_or, Bool.or_false, Bool.or_true, Bool.true_and, Bool.false_and, Bool.and_true, Bool.and_false, Bool.not_true, Bool.not_false, cond_true, cond_false]; done) | (simp [g1, g2, g3]; done))) AllP.nil)))), by kernel_rfl⟩) ?_
    refine xw_cond ((decide (((nth l i) : Int) < lo)) || ((decide (((nth l i) : Int) > hi)) || ((decide ((((i : Nat) : Int) : Int) > 0)) && (decide (((nth l i) : Int) ≤ (nth l (i - 1))))))) rfl (fun h2 => ?_) (fun h2 => ?_)
    · have h2 := h2
      refine vx c [(12, .bool false)] [] AllP.nil (by kernel_rfl) ?_
      exact xret [.lf (.im true (.bool false))] rfl (by kernel_rfl) (retBF (uptoN (i := i) (by omega) (by simp at h2; unfold rise1; omega)))
    · have h2 := h2
      refine xw_skip ?_
      exact vxe c [(0, .lf (.im true (.sl 1 (l.map rI)))), (2, .int lo), (4, .int hi), (18, .lf (.im true (.sl 1 (l.map rI)))), (20, .int ((l.length : Nat) : Int)), (22, .int ((i + 1 : Nat) : Int))] [(0, .slot (.int ((i + 1 : Nat) : Int)))] (a2 (wI (a := ((i : Nat) : Int) + 1) (b := ((i + 1 : Nat) : Int)) (by omega) (by omega) (by omega)) AllP.nil) (by kernel_rfl) (⟨_, by omega, (i + 1), rfl, rfl, ⟨by omega, uptoS hP1.2 (by simp at h2; unfold rise1; omega)⟩⟩)
  · have h1 := of_dF h1
    refine xw_exit ?_
    refine vx c [(12, .bool true)] [] AllP.nil (by kernel_rfl) ?_
    exact xret [.lf (.im true (.bool true))] rfl (by kernel_rfl) (retBT (uptoE hP1.2 (by omega)))
set_option maxRecDepth 100000 in
theorem spec_l4Rises_v (l : List Int) (ha : l.length ≤ 140737488355328) (lo hi : Int) :
    CallV Tryz.prog 51 [.lf (.im true (.sl 1 (l.map rI))), .lf (.im true (.int .i64 lo)), .lf (.im true (.int .i64 hi))] (· = .bool (B (Rising l lo hi))) := by
  refine CallX (fn := Tryz.f51) TToka mixeda Tryz.func51 rfl rfl rfl rfl rfl fun E c => ?_
  refine vx c [(0, .lf (.im true (.sl 1 (l.map rI)))), (2, .int lo), (4, .int hi)] [] AllP.nil (by kernel_rfl) ?_
  refine xw_seq ?_
  refine vx c [(0, .lf (.im true (.sl 1 (l.map rI)))), (2, .int lo), (4, .int hi), (14, .int 0)] [] AllP.nil (by kernel_rfl) ?_
  refine xw_block ?_
  refine xw_loop (fun n L => ∃ (i : Nat), L = [(0, .lf (.im true (.sl 1 (l.map rI)))), (2, .int lo), (4, .int hi), (14, .int ((i : Nat) : Int))] ∧ n = l.length - i ∧ (i ≤ l.length ∧ Upto (rise1 l lo hi) l i)) _ ⟨0, rfl, rfl, ⟨by omega, upto0⟩⟩ ?_
  rintro n L ⟨i, rfl, rfl, hP1⟩
  refine xw_seq ?_
  refine vx c [(0, .lf (.im true (.sl 1 (l.map rI)))), (2, .int lo), (4, .int hi), (14, .int ((i : Nat) : Int)), (22, .bool (decide ((((i : Nat) : Int) : Int) < ((l.length : Nat) : Int))))] [(2, .slot (.int ((l.length : Nat) : Int)))] (a2 (ln (l := l) (f := rI)) AllP.nil) (by kernel_rfl) ?_
  refine xw_cond (decide ((((i : Nat) : Int) : Int) < ((l.length : Nat) : Int))) rfl (fun h1 => ?_) (fun h1 => ?_)
  · have h1 := of_dT h1
    refine xw_skip ?_
    refine xw_seq ?_
    refine xw_block ?_
    refine vxj c [(0, .lf (.im true (.sl 1 (l.map rI)))), (2, .int lo), (4, .int hi), (14, .int ((i : Nat) : Int)), (74, .bool ((!(inI (nth l i) lo hi)) || ((decide ((((i : Nat) : Int) : Int) > 0)) && (decide (((nth l (i - 1)) : Int) ≥ (nth l i))))))] (by
        rcases Bool.eq_false_or_eq_true (!(inI (nth l i) lo hi)) with g1 | g1
        · have g1p := of_nT g1
          exact ⟨[(2, .row (rI (nth l i))), (6, .ret (.bool (inI (nth l i) lo hi))), (7, .slot (.bool true)), (23, .slot (.bool ((!(inI (nth l i) lo hi)) || ((decide ((((i : Nat) : Int) : Int) > 0)) && (decide (((nth l (i - 1)) : Int) ≥ (nth l i)))))))], _, (a2 (ix (f := rI) (l := l) (i := i) (nth_at (l := l) (i := i) (by omega))) (a2 (cl tx23a (spec_l6In_v (nth l i) lo hi)) (a2 (kB g1) (a2 (kB (b := true) (c := ((!(inI (nth l i) lo hi)) || ((decide ((((i : Nat) : Int) : Int) > 0)) && (decide (((nth l (i - 1)) : Int) ≥ (nth l i)))))) (by first | (simp only [g1, Bool.true_or, Bool.false_or, Bool.or_false, Bool.or_true, Bool.true_and, Bool.false_and, Bool.and_true, Bool.and_false, Bool.not_true, Bool.not_false, cond_true, cond_false]; done) | (simp [g1]; done))) AllP.nil)))), by kernel_rfl⟩
        · have g1p := of_nF g1
          rcases Bool.eq_false_or_eq_true (decide ((((i : Nat) : Int) : Int) > 0)) with g2 | g2
          · have g2p := of_dT g2
            exact ⟨[(2, .row (rI (nth l i))), (6, .ret (.bool (inI (nth l i) lo hi))), (7, .slot (.bool false)), (10, .slot (.bool true)), (14, .slot (.int ((i - 1 : Nat) : Int))), (15, .row (rI (nth l (i - 1)))), (19, .row (rI (nth l i))), (23, .slot (.bool ((!(inI (nth l i) lo hi)) || ((decide ((((i : Nat) : Int) : Int) > 0)) && (decide (((nth l (i - 1)) : Int) ≥ (nth l i)))))))], _, (a2 (ix (f := rI) (l := l) (i := i) (nth_at (l := l) (i := i) (by omega))) (a2 (cl tx23a (spec_l6In_v (nth l i) lo hi)) (a2 (kB g1) (a2 (kB g2) (a2 (wI (a := ((i : Nat) : Int) - 1) (b := ((i - 1 : Nat) : Int)) (by omega) (by omega) (by omega)) (a2 (ix (f := rI) (l := l) (i := i - 1) (nth_at (l := l) (i := i - 1) (by omega))) (a2 (ix (f := rI) (l := l) (i := i) (nth_at (l := l) (i := i) (by omega))) (a2 (kB (b := decide (((nth l (i - 1)) : Int) ≥ (nth l i))) (c := ((!(inI (nth l i) lo hi)) || ((decide ((((i : Nat) : Int) : Int) > 0)) && (decide (((nth l (i - 1)) : Int) ≥ (nth l i)))))) (by first | (simp only [g1, g2, Bool.true_or, Bool.false_or, Bool.or_false, Bool.or_true, Bool.true_and, Bool.false_and, Bool.and_true, Bool.and_false, Bool.not_true, Bool.not_false, cond_true, cond_false]; done) | (simp [g1, g2]; done))) AllP.nil)))))))), by kernel_rfl⟩
          · have g2p := of_dF g2
            exact ⟨[(2, .row (rI (nth l i))), (6, .ret (.bool (inI (nth l i) lo hi))), (7, .slot (.bool false)), (10, .slot (.bool false)), (23, .slot (.bool ((!(inI (nth l i) lo hi)) || ((decide ((((i : Nat) : Int) : Int) > 0)) && (decide (((nth l (i - 1)) : Int) ≥ (nth l i)))))))], _, (a2 (ix (f := rI) (l := l) (i := i) (nth_at (l := l) (i := i) (by omega))) (a2 (cl tx23a (spec_l6In_v (nth l i) lo hi)) (a2 (kB g1) (a2 (kB g2) (a2 (kB (b := false) (c := ((!(inI (nth l i) lo hi)) || ((decide ((((i : Nat) : Int) : Int) > 0)) && (decide (((nth l (i - 1)) : Int) ≥ (nth l i)))))) (by first | (simp only [g1, g2, Bool.true_or, Bool.false_or, Bool.or_false, Bool.or_true, Bool.true_and, Bool.false_and, Bool.and_true, Bool.and_false, Bool.not_true, Bool.not_false, cond_true, cond_false]; done) | (simp [g1, g2]; done))) AllP.nil))))), by kernel_rfl⟩) ?_
    refine xw_cond ((!(inI (nth l i) lo hi)) || ((decide ((((i : Nat) : Int) : Int) > 0)) && (decide (((nth l (i - 1)) : Int) ≥ (nth l i))))) rfl (fun h2 => ?_) (fun h2 => ?_)
    · have h2 := h2
      refine vx c [(12, .bool false)] [] AllP.nil (by kernel_rfl) ?_
      exact xret [.lf (.im true (.bool false))] rfl (by kernel_rfl) (retBF (uptoN (i := i) (by omega) (by simp [inI] at h2; unfold rise1; omega)))
    · have h2 := h2
      refine xw_skip ?_
      exact vxe c [(0, .lf (.im true (.sl 1 (l.map rI)))), (2, .int lo), (4, .int hi), (14, .int ((i + 1 : Nat) : Int))] [(1, .slot (.int ((i + 1 : Nat) : Int)))] (a2 (wI (a := ((i : Nat) : Int) + 1) (b := ((i + 1 : Nat) : Int)) (by omega) (by omega) (by omega)) AllP.nil) (by kernel_rfl) (⟨_, by omega, (i + 1), rfl, rfl, ⟨by omega, uptoS hP1.2 (by simp [inI] at h2; unfold rise1; omega)⟩⟩)
  · have h1 := of_dF h1
    refine xw_exit ?_
    refine vx c [(12, .bool true)] [] AllP.nil (by kernel_rfl) ?_
    exact xret [.lf (.im true (.bool true))] rfl (by kernel_rfl) (retBT (uptoE hP1.2 (by omega)))
set_option maxRecDepth 100000 in
theorem impl_typesFit_v (ks : Kinds) (l : List ByteArray) (ha : l.length ≤ 140737488355328) :
    CallV Tryz.prog 78 [.lf (.im true (.sl 1 (ks.map rRecs))), .lf (.im true (.sl 1 (l.map rS)))] (· = .bool (B (Fit ks l))) := by
  refine CallX (fn := Tryz.f78) TToka mixeda Tryz.func78 rfl rfl rfl rfl rfl fun E c => ?_
  refine vx c [(0, .lf (.im true (.sl 1 (ks.map rRecs)))), (2, .lf (.im true (.sl 1 (l.map rS))))] [] AllP.nil (by kernel_rfl) ?_
  refine xw_seq ?_
  refine vx c [(0, .lf (.im true (.sl 1 (ks.map rRecs)))), (18, .lf (.im true (.sl 1 (l.map rS)))), (20, .int ((l.length : Nat) : Int)), (22, .int 0)] [(1, .slot (.int ((l.length : Nat) : Int)))] (a2 (ln (l := l) (f := rS)) AllP.nil) (by kernel_rfl) ?_
  refine xw_block ?_
  refine xw_loop (fun n L => ∃ (i : Nat), L = [(0, .lf (.im true (.sl 1 (ks.map rRecs)))), (18, .lf (.im true (.sl 1 (l.map rS)))), (20, .int ((l.length : Nat) : Int)), (22, .int ((i : Nat) : Int))] ∧ n = l.length - i ∧ (i ≤ l.length ∧ Upto (fun _ t => plainOk ks (pl t) = true) l i)) _ ⟨0, rfl, rfl, ⟨by omega, upto0⟩⟩ ?_
  rintro n L ⟨i, rfl, rfl, hP1⟩
  refine vx c [(0, .lf (.im true (.sl 1 (ks.map rRecs)))), (18, .lf (.im true (.sl 1 (l.map rS)))), (20, .int ((l.length : Nat) : Int)), (22, .int ((i : Nat) : Int)), (24, .bool (decide ((((i : Nat) : Int) : Int) < ((l.length : Nat) : Int))))] [] AllP.nil (by kernel_rfl) ?_
  refine xw_seq ?_
  refine xw_cond (decide ((((i : Nat) : Int) : Int) < ((l.length : Nat) : Int))) rfl (fun h1 => ?_) (fun h1 => ?_)
  · have h1 := of_dT h1
    refine xw_skip ?_
    refine xw_seq ?_
    refine xw_block ?_
    refine vx c [(0, .lf (.im true (.sl 1 (ks.map rRecs)))), (12, .lf (.im true (.str (nth l i)))), (18, .lf (.im true (.sl 1 (l.map rS)))), (20, .int ((l.length : Nat) : Int)), (22, .int ((i : Nat) : Int))] [(0, .row (rS (nth l i)))] (a2 (ix (f := rS) (l := l) (i := i) (nth_at (l := l) (i := i) (by omega))) AllP.nil) (by kernel_rfl) ?_
    refine vx c [(0, .lf (.im true (.sl 1 (ks.map rRecs)))), (16, .lf (.im true (.str (pl (nth l i))))), (18, .lf (.im true (.sl 1 (l.map rS)))), (20, .int ((l.length : Nat) : Int)), (22, .int ((i : Nat) : Int))] [(1, .ret (.tup [.lf (.im true (.str (sg (nth l i)))), .lf (.im true (.str (pl (nth l i))))]))] (a2 (cl tx73a (impl_signOf_v (nth l i))) AllP.nil) (by kernel_rfl) ?_
    refine vx c [(0, .lf (.im true (.sl 1 (ks.map rRecs)))), (18, .lf (.im true (.sl 1 (l.map rS)))), (20, .int ((l.length : Nat) : Int)), (22, .int ((i : Nat) : Int)), (46, .bool (!(plainOk ks (pl (nth l i)))))] [(2, .ret (.bool (plainOk ks (pl (nth l i)))))] (a2 (cl tx74a (impl_plainOk_v ks (pl (nth l i)))) AllP.nil) (by kernel_rfl) ?_
    refine xw_cond (!(plainOk ks (pl (nth l i)))) rfl (fun h2 => ?_) (fun h2 => ?_)
    · have h2 : (plainOk ks (pl (nth l i))) = false := of_nT h2
      refine vx c [(8, .bool false)] [] AllP.nil (by kernel_rfl) ?_
      exact xret [.lf (.im true (.bool false))] rfl (by kernel_rfl) (retBF (uptoN (i := i) (by omega) (by rw [h2]; exact Bool.false_ne_true)))
    · have h2 : (plainOk ks (pl (nth l i))) = true := of_nF h2
      refine xw_skip ?_
      exact vxe c [(0, .lf (.im true (.sl 1 (ks.map rRecs)))), (18, .lf (.im true (.sl 1 (l.map rS)))), (20, .int ((l.length : Nat) : Int)), (22, .int ((i + 1 : Nat) : Int))] [(0, .slot (.int ((i + 1 : Nat) : Int)))] (a2 (wI (a := ((i : Nat) : Int) + 1) (b := ((i + 1 : Nat) : Int)) (by omega) (by omega) (by omega)) AllP.nil) (by kernel_rfl) (⟨_, by omega, (i + 1), rfl, rfl, ⟨by omega, uptoS hP1.2 h2⟩⟩)
  · have h1 := of_dF h1
    refine xw_exit ?_
    refine vx c [(8, .bool true)] [] AllP.nil (by kernel_rfl) ?_
    exact xret [.lf (.im true (.bool true))] rfl (by kernel_rfl) (retBT (uptoE hP1.2 (by omega)))
set_option maxRecDepth 100000 in
theorem spec_l4Types_v (ks : Kinds) (l : List ByteArray) (ha : l.length ≤ 140737488355328) :
    CallV Tryz.prog 83 [.lf (.im true (.sl 1 (ks.map rRecs))), .lf (.im true (.sl 1 (l.map rS)))] (· = .bool (B (Fit ks l))) := by
  refine CallX (fn := Tryz.f83) TToka mixeda Tryz.func83 rfl rfl rfl rfl rfl fun E c => ?_
  refine vx c [(0, .lf (.im true (.sl 1 (ks.map rRecs)))), (2, .lf (.im true (.sl 1 (l.map rS))))] [] AllP.nil (by kernel_rfl) ?_
  refine xw_seq ?_
  refine vx c [(0, .lf (.im true (.sl 1 (ks.map rRecs)))), (2, .lf (.im true (.sl 1 (l.map rS)))), (10, .int 0)] [] AllP.nil (by kernel_rfl) ?_
  refine xw_block ?_
  refine xw_loop (fun n L => ∃ (i : Nat), L = [(0, .lf (.im true (.sl 1 (ks.map rRecs)))), (2, .lf (.im true (.sl 1 (l.map rS)))), (10, .int ((i : Nat) : Int))] ∧ n = l.length - i ∧ (i ≤ l.length ∧ Upto (fun _ t => plainOk ks (pl t) = true) l i)) _ ⟨0, rfl, rfl, ⟨by omega, upto0⟩⟩ ?_
  rintro n L ⟨i, rfl, rfl, hP1⟩
  refine xw_seq ?_
  refine vx c [(0, .lf (.im true (.sl 1 (ks.map rRecs)))), (2, .lf (.im true (.sl 1 (l.map rS)))), (10, .int ((i : Nat) : Int)), (18, .bool (decide ((((i : Nat) : Int) : Int) < ((l.length : Nat) : Int))))] [(2, .slot (.int ((l.length : Nat) : Int)))] (a2 (ln (l := l) (f := rS)) AllP.nil) (by kernel_rfl) ?_
  refine xw_cond (decide ((((i : Nat) : Int) : Int) < ((l.length : Nat) : Int))) rfl (fun h1 => ?_) (fun h1 => ?_)
  · have h1 := of_dT h1
    refine xw_skip ?_
    refine xw_seq ?_
    refine xw_block ?_
    refine vx c [(0, .lf (.im true (.sl 1 (ks.map rRecs)))), (2, .lf (.im true (.sl 1 (l.map rS)))), (10, .int ((i : Nat) : Int)), (38, .bool (!(plainOk ks (pl (nth l i)))))] [(3, .row (rS (nth l i))), (5, .ret (.lf (.im true (.str (pl (nth l i)))))), (6, .ret (.bool (plainOk ks (pl (nth l i)))))] (a2 (ix (f := rS) (l := l) (i := i) (nth_at (l := l) (i := i) (by omega))) (a2 (cl tx85a (spec_l1Of_v (nth l i))) (a2 (cl tx107a (spec_l1Plain_v ks (pl (nth l i)))) AllP.nil))) (by kernel_rfl) ?_
    refine xw_cond (!(plainOk ks (pl (nth l i)))) rfl (fun h2 => ?_) (fun h2 => ?_)
    · have h2 : (plainOk ks (pl (nth l i))) = false := of_nT h2
      refine vx c [(8, .bool false)] [] AllP.nil (by kernel_rfl) ?_
      exact xret [.lf (.im true (.bool false))] rfl (by kernel_rfl) (retBF (uptoN (i := i) (by omega) (by rw [h2]; exact Bool.false_ne_true)))
    · have h2 : (plainOk ks (pl (nth l i))) = true := of_nF h2
      refine xw_skip ?_
      exact vxe c [(0, .lf (.im true (.sl 1 (ks.map rRecs)))), (2, .lf (.im true (.sl 1 (l.map rS)))), (10, .int ((i + 1 : Nat) : Int))] [(1, .slot (.int ((i + 1 : Nat) : Int)))] (a2 (wI (a := ((i : Nat) : Int) + 1) (b := ((i + 1 : Nat) : Int)) (by omega) (by omega) (by omega)) AllP.nil) (by kernel_rfl) (⟨_, by omega, (i + 1), rfl, rfl, ⟨by omega, uptoS hP1.2 h2⟩⟩)
  · have h1 := of_dF h1
    refine xw_exit ?_
    refine vx c [(8, .bool true)] [] AllP.nil (by kernel_rfl) ?_
    exact xret [.lf (.im true (.bool true))] rfl (by kernel_rfl) (retBT (uptoE hP1.2 (by omega)))
set_option maxRecDepth 100000 in
theorem impl_recordOk_v (ks : Kinds) (m r : Nat) (hm : m < ks.length) (hr : r < (nth ks m).length) (hA : Ahead ks m r) :
    CallV Tryz.prog 101 [.lf (.im true (.sl 1 (ks.map rRecs))), .lf (.im true (.int .i64 ((m : Nat) : Int))), .lf (.im true (.int .i64 ((r : Nat) : Int)))] (· = .bool (B (RecOk ks m r))) := by
  refine CallX (fn := Tryz.f101) TToka mixeda Tryz.func101 rfl rfl rfl rfl rfl fun E c => ?_
  refine vx c [(0, .lf (.im true (.sl 1 (ks.map rRecs)))), (2, .int ((m : Nat) : Int)), (4, .int ((r : Nat) : Int))] [] AllP.nil (by kernel_rfl) ?_
  refine vx c [(0, .lf (.im true (.sl 1 (ks.map rRecs)))), (2, .int ((m : Nat) : Int)), (4, .int ((r : Nat) : Int)), (14, .lf (.ptr 7 0)), (15, .cell 7 [.im true (.int .i64 ((nth (nth ks m) r).able)), .im true (.sl 1 (((nth (nth ks m) r).fields).map rS))])] [(2, .row (rRecs (nth ks m))), (5, .row (rRec (nth (nth ks m) r)))] (a2 (ix (f := rRecs) (l := ks) (i := m) (nth_at (l := ks) (i := m) (by omega))) (a2 (ix (f := rRec) (l := (nth ks m)) (i := r) (nth_at (l := (nth ks m)) (i := r) (by omega))) AllP.nil)) (by kernel_rfl) ?_
  refine xw_seq ?_
  refine vxj c [(0, .lf (.im true (.sl 1 (ks.map rRecs)))), (2, .int ((m : Nat) : Int)), (4, .int ((r : Nat) : Int)), (14, .lf (.ptr 7 0)), (15, .cell 7 [.im true (.int .i64 ((nth (nth ks m) r).able)), .im true (.sl 1 (((nth (nth ks m) r).fields).map rS))]), (68, .bool ((decide (((nth (nth ks m) r).able : Int) < 0)) || ((decide (((nth (nth ks m) r).able : Int) > 15)) || (decide ((((((nth (nth ks m) r).fields).length : Nat) : Int) : Int) > 3)))))] (by
      rcases Bool.eq_false_or_eq_true (decide (((nth (nth ks m) r).able : Int) < 0)) with g1 | g1
      · have g1p := of_dT g1
        exact ⟨[(2, .slot (.bool true)), (13, .slot (.bool ((decide (((nth (nth ks m) r).able : Int) < 0)) || ((decide (((nth (nth ks m) r).able : Int) > 15)) || (decide ((((((nth (nth ks m) r).fields).length : Nat) : Int) : Int) > 3))))))], _, (a2 (kB g1) (a2 (kB (b := true) (c := ((decide (((nth (nth ks m) r).able : Int) < 0)) || ((decide (((nth (nth ks m) r).able : Int) > 15)) || (decide ((((((nth (nth ks m) r).fields).length : Nat) : Int) : Int) > 3))))) (by first | (simp only [g1, Bool.true_or, Bool.false_or, Bool.or_false, Bool.or_true, Bool.true_and, Bool.false_and, Bool.and_true, Bool.and_false, Bool.not_true, Bool.not_false, cond_true, cond_false]; done) | (simp [g1]; done))) AllP.nil)), by kernel_rfl⟩
      · have g1p := of_dF g1
        rcases Bool.eq_false_or_eq_true (decide (((nth (nth ks m) r).able : Int) > 15)) with g2 | g2
        · have g2p := of_dT g2
          exact ⟨[(2, .slot (.bool false)), (6, .slot (.bool true)), (13, .slot (.bool ((decide (((nth (nth ks m) r).able : Int) < 0)) || ((decide (((nth (nth ks m) r).able : Int) > 15)) || (decide ((((((nth (nth ks m) r).fields).length : Nat) : Int) : Int) > 3))))))], _, (a2 (kB g1) (a2 (kB g2) (a2 (kB (b := true) (c := ((decide (((nth (nth ks m) r).able : Int) < 0)) || ((decide (((nth (nth ks m) r).able : Int) > 15)) || (decide ((((((nth (nth ks m) r).fields).length : Nat) : Int) : Int) > 3))))) (by first | (simp only [g1, g2, Bool.true_or, Bool.false_or, Bool.or_false, Bool.or_true, Bool.true_and, Bool.false_and, Bool.and_true, Bool.and_false, Bool.not_true, Bool.not_false, cond_true, cond_false]; done) | (simp [g1, g2]; done))) AllP.nil))), by kernel_rfl⟩
        · have g2p := of_dF g2
          exact ⟨[(2, .slot (.bool false)), (6, .slot (.bool false)), (11, .slot (.int ((((nth (nth ks m) r).fields).length : Nat) : Int))), (13, .slot (.bool ((decide (((nth (nth ks m) r).able : Int) < 0)) || ((decide (((nth (nth ks m) r).able : Int) > 15)) || (decide ((((((nth (nth ks m) r).fields).length : Nat) : Int) : Int) > 3))))))], _, (a2 (kB g1) (a2 (kB g2) (a2 (ln (l := (nth (nth ks m) r).fields) (f := rS)) (a2 (kB (b := decide ((((((nth (nth ks m) r).fields).length : Nat) : Int) : Int) > 3)) (c := ((decide (((nth (nth ks m) r).able : Int) < 0)) || ((decide (((nth (nth ks m) r).able : Int) > 15)) || (decide ((((((nth (nth ks m) r).fields).length : Nat) : Int) : Int) > 3))))) (by first | (simp only [g1, g2, Bool.true_or, Bool.false_or, Bool.or_false, Bool.or_true, Bool.true_and, Bool.false_and, Bool.and_true, Bool.and_false, Bool.not_true, Bool.not_false, cond_true, cond_false]; done) | (simp [g1, g2]; done))) AllP.nil)))), by kernel_rfl⟩) ?_
  refine xw_cond ((decide (((nth (nth ks m) r).able : Int) < 0)) || ((decide (((nth (nth ks m) r).able : Int) > 15)) || (decide ((((((nth (nth ks m) r).fields).length : Nat) : Int) : Int) > 3)))) rfl (fun h1 => ?_) (fun h1 => ?_)
  · have h1 := h1
    refine vx c [(12, .bool false)] [] AllP.nil (by kernel_rfl) ?_
    exact xret [.lf (.im true (.bool false))] rfl (by kernel_rfl) (retBF (fun h => by have := h.lo; have := h.hi; have := h.len; simp at h1; omega))
  · have h1 := h1
    have hx : 0 ≤ (nth (nth ks m) r).able ∧ (nth (nth ks m) r).able ≤ 15 ∧ (nth (nth ks m) r).fields.length ≤ 3 := by simp at h1; omega
    refine xw_skip ?_
    refine xw_seq ?_
    refine vx c [(0, .lf (.im true (.sl 1 (ks.map rRecs)))), (2, .int ((m : Nat) : Int)), (4, .int ((r : Nat) : Int)), (14, .lf (.ptr 7 0)), (15, .cell 7 [.im true (.int .i64 ((nth (nth ks m) r).able)), .im true (.sl 1 (((nth (nth ks m) r).fields).map rS))]), (72, .lf (.im true (.sl 1 (((nth (nth ks m) r).fields).map rS)))), (74, .int ((((nth (nth ks m) r).fields).length : Nat) : Int)), (76, .int 0)] [(2, .slot (.int ((((nth (nth ks m) r).fields).length : Nat) : Int)))] (a2 (ln (l := (nth (nth ks m) r).fields) (f := rS)) AllP.nil) (by kernel_rfl) ?_
    refine xw_block ?_
    refine xw_loop (fun n L => ∃ (i : Nat), L = [(0, .lf (.im true (.sl 1 (ks.map rRecs)))), (2, .int ((m : Nat) : Int)), (4, .int ((r : Nat) : Int)), (14, .lf (.ptr 7 0)), (15, .cell 7 [.im true (.int .i64 ((nth (nth ks m) r).able)), .im true (.sl 1 (((nth (nth ks m) r).fields).map rS))]), (72, .lf (.im true (.sl 1 (((nth (nth ks m) r).fields).map rS)))), (74, .int ((((nth (nth ks m) r).fields).length : Nat) : Int)), (76, .int ((i : Nat) : Int))] ∧ n = (nth (nth ks m) r).fields.length - i ∧ (i ≤ (nth (nth ks m) r).fields.length ∧ Upto (fun _ t => fieldFine ks m r (nth (nth ks m) r).able t) (nth (nth ks m) r).fields i)) _ ⟨0, rfl, rfl, ⟨by omega, upto0⟩⟩ ?_
    rintro n L ⟨i, rfl, rfl, hP1⟩
    refine vx c [(0, .lf (.im true (.sl 1 (ks.map rRecs)))), (2, .int ((m : Nat) : Int)), (4, .int ((r : Nat) : Int)), (14, .lf (.ptr 7 0)), (15, .cell 7 [.im true (.int .i64 ((nth (nth ks m) r).able)), .im true (.sl 1 (((nth (nth ks m) r).fields).map rS))]), (72, .lf (.im true (.sl 1 (((nth (nth ks m) r).fields).map rS)))), (74, .int ((((nth (nth ks m) r).fields).length : Nat) : Int)), (76, .int ((i : Nat) : Int)), (78, .bool (decide ((((i : Nat) : Int) : Int) < ((((nth (nth ks m) r).fields).length : Nat) : Int))))] [] AllP.nil (by kernel_rfl) ?_
    refine xw_seq ?_
    refine xw_cond (decide ((((i : Nat) : Int) : Int) < ((((nth (nth ks m) r).fields).length : Nat) : Int))) rfl (fun h2 => ?_) (fun h2 => ?_)
    · have h2 := of_dT h2
      refine xw_skip ?_
      refine xw_seq ?_
      refine xw_block ?_
      refine vx c [(0, .lf (.im true (.sl 1 (ks.map rRecs)))), (2, .int ((m : Nat) : Int)), (4, .int ((r : Nat) : Int)), (14, .lf (.ptr 7 0)), (15, .cell 7 [.im true (.int .i64 ((nth (nth ks m) r).able)), .im true (.sl 1 (((nth (nth ks m) r).fields).map rS))]), (18, .lf (.im true (.str (nth ((nth (nth ks m) r).fields) i)))), (72, .lf (.im true (.sl 1 (((nth (nth ks m) r).fields).map rS)))), (74, .int ((((nth (nth ks m) r).fields).length : Nat) : Int)), (76, .int ((i : Nat) : Int))] [(0, .row (rS (nth ((nth (nth ks m) r).fields) i)))] (a2 (ix (f := rS) (l := (nth (nth ks m) r).fields) (i := i) (nth_at (l := (nth (nth ks m) r).fields) (i := i) (by omega))) AllP.nil) (by kernel_rfl) ?_
      refine xw_seq ?_
      refine vx c [(0, .lf (.im true (.sl 1 (ks.map rRecs)))), (2, .int ((m : Nat) : Int)), (4, .int ((r : Nat) : Int)), (14, .lf (.ptr 7 0)), (15, .cell 7 [.im true (.int .i64 ((nth (nth ks m) r).able)), .im true (.sl 1 (((nth (nth ks m) r).fields).map rS))]), (18, .lf (.im true (.str (nth ((nth (nth ks m) r).fields) i)))), (20, .int ((kM (nth ((nth (nth ks m) r).fields) i) : Nat) : Int)), (22, .int ((kR (nth ((nth (nth ks m) r).fields) i) : Nat) : Int)), (24, .bool (isKind (nth ((nth (nth ks m) r).fields) i))), (72, .lf (.im true (.sl 1 (((nth (nth ks m) r).fields).map rS)))), (74, .int ((((nth (nth ks m) r).fields).length : Nat) : Int)), (76, .int ((i : Nat) : Int))] [(1, .ret (.tup [.lf (.im true (.int .i64 ((kM (nth ((nth (nth ks m) r).fields) i) : Nat) : Int))), .lf (.im true (.int .i64 ((kR (nth ((nth (nth ks m) r).fields) i) : Nat) : Int))), .lf (.im true (.bool (isKind (nth ((nth (nth ks m) r).fields) i))))]))] (a2 (cl tx69a (impl_kindAt_v (nth ((nth (nth ks m) r).fields) i))) AllP.nil) (by kernel_rfl) ?_
      refine vxj c [(0, .lf (.im true (.sl 1 (ks.map rRecs)))), (2, .int ((m : Nat) : Int)), (4, .int ((r : Nat) : Int)), (14, .lf (.ptr 7 0)), (15, .cell 7 [.im true (.int .i64 ((nth (nth ks m) r).able)), .im true (.sl 1 (((nth (nth ks m) r).fields).map rS))]), (18, .lf (.im true (.str (nth ((nth (nth ks m) r).fields) i)))), (72, .lf (.im true (.sl 1 (((nth (nth ks m) r).fields).map rS)))), (74, .int ((((nth (nth ks m) r).fields).length : Nat) : Int)), (76, .int ((i : Nat) : Int)), (138, .bool (bif isKind (nth ((nth (nth ks m) r).fields) i) then ((decide ((((kM (nth ((nth (nth ks m) r).fields) i) : Nat) : Int) : Int) > ((m : Nat) : Int))) || (bif decide ((((kM (nth ((nth (nth ks m) r).fields) i) : Nat) : Int) : Int) = ((m : Nat) : Int)) then ((decide ((((kR (nth ((nth (nth ks m) r).fields) i) : Nat) : Int) : Int) ≥ ((r : Nat) : Int))) || (!(plainOk ks (nth ((nth (nth ks m) r).fields) i)))) else !(plainOk ks (nth ((nth (nth ks m) r).fields) i)))) else !(plainOk ks (nth ((nth (nth ks m) r).fields) i))))] (by
          rcases Bool.eq_false_or_eq_true (isKind (nth ((nth (nth ks m) r).fields) i)) with g3 | g3
          · rcases Bool.eq_false_or_eq_true (decide ((((kM (nth ((nth (nth ks m) r).fields) i) : Nat) : Int) : Int) > ((m : Nat) : Int))) with g4 | g4
            · have g4p := of_dT g4
              exact ⟨[(0, .slot (.bool true)), (4, .slot (.bool true)), (21, .slot (.bool (bif isKind (nth ((nth (nth ks m) r).fields) i) then ((decide ((((kM (nth ((nth (nth ks m) r).fields) i) : Nat) : Int) : Int) > ((m : Nat) : Int))) || (bif decide ((((kM (nth ((nth (nth ks m) r).fields) i) : Nat) : Int) : Int) = ((m : Nat) : Int)) then ((decide ((((kR (nth ((nth (nth ks m) r).fields) i) : Nat) : Int) : Int) ≥ ((r : Nat) : Int))) || (!(plainOk ks (nth ((nth (nth ks m) r).fields) i)))) else !(plainOk ks (nth ((nth (nth ks m) r).fields) i)))) else !(plainOk ks (nth ((nth (nth ks m) r).fields) i)))))], _, (a2 (kB g3) (a2 (kB g4) (a2 (kB (b := true) (c := (bif isKind (nth ((nth (nth ks m) r).fields) i) then ((decide ((((kM (nth ((nth (nth ks m) r).fields) i) : Nat) : Int) : Int) > ((m : Nat) : Int))) || (bif decide ((((kM (nth ((nth (nth ks m) r).fields) i) : Nat) : Int) : Int) = ((m : Nat) : Int)) then ((decide ((((kR (nth ((nth (nth ks m) r).fields) i) : Nat) : Int) : Int) ≥ ((r : Nat) : Int))) || (!(plainOk ks (nth ((nth (nth ks m) r).fields) i)))) else !(plainOk ks (nth ((nth (nth ks m) r).fields) i)))) else !(plainOk ks (nth ((nth (nth ks m) r).fields) i)))) (by first | (simp only [g3, g4, Bool.true_or, Bool.false_or, Bool.or_false, Bool.or_true, Bool.true_and, Bool.false_and, Bool.and_true, Bool.and_false, Bool.not_true, Bool.not_false, cond_true, cond_false]; done) | (simp [g3, g4]; done))) AllP.nil))), by kernel_rfl⟩
            · have g4p := of_dF g4
              rcases Bool.eq_false_or_eq_true (decide ((((kM (nth ((nth (nth ks m) r).fields) i) : Nat) : Int) : Int) = ((m : Nat) : Int))) with g5 | g5
              · have g5p := of_dT g5
                rcases Bool.eq_false_or_eq_true (decide ((((kR (nth ((nth (nth ks m) r).fields) i) : Nat) : Int) : Int) ≥ ((r : Nat) : Int))) with g6 | g6
                · have g6p := of_dT g6
                  exact ⟨[(0, .slot (.bool true)), (4, .slot (.bool false)), (8, .slot (.bool true)), (12, .slot (.bool true)), (21, .slot (.bool (bif isKind (nth ((nth (nth ks m) r).fields) i) then ((decide ((((kM (nth ((nth (nth ks m) r).fields) i) : Nat) : Int) : Int) > ((m : Nat) : Int))) || (bif decide ((((kM (nth ((nth (nth ks m) r).fields) i) : Nat) : Int) : Int) = ((m : Nat) : Int)) then ((decide ((((kR (nth ((nth (nth ks m) r).fields) i) : Nat) : Int) : Int) ≥ ((r : Nat) : Int))) || (!(plainOk ks (nth ((nth (nth ks m) r).fields) i)))) else !(plainOk ks (nth ((nth (nth ks m) r).fields) i)))) else !(plainOk ks (nth ((nth (nth ks m) r).fields) i)))))], _, (a2 (kB g3) (a2 (kB g4) (a2 (kB g5) (a2 (kB g6) (a2 (kB (b := true) (c := (bif isKind (nth ((nth (nth ks m) r).fields) i) then ((decide ((((kM (nth ((nth (nth ks m) r).fields) i) : Nat) : Int) : Int) > ((m : Nat) : Int))) || (bif decide ((((kM (nth ((nth (nth ks m) r).fields) i) : Nat) : Int) : Int) = ((m : Nat) : Int)) then ((decide ((((kR (nth ((nth (nth ks m) r).fields) i) : Nat) : Int) : Int) ≥ ((r : Nat) : Int))) || (!(plainOk ks (nth ((nth (nth ks m) r).fields) i)))) else !(plainOk ks (nth ((nth (nth ks m) r).fields) i)))) else !(plainOk ks (nth ((nth (nth ks m) r).fields) i)))) (by first | (simp only [g3, g4, g5, g6, Bool.true_or, Bool.false_or, Bool.or_false, Bool.or_true, Bool.true_and, Bool.false_and, Bool.and_true, Bool.and_false, Bool.not_true, Bool.not_false, cond_true, cond_false]; done) | (simp [g3, g4, g5, g6]; done))) AllP.nil))))), by kernel_rfl⟩
                · have g6p := of_dF g6
                  exact ⟨[(0, .slot (.bool true)), (4, .slot (.bool false)), (8, .slot (.bool true)), (12, .slot (.bool false)), (19, .ret (.bool (plainOk ks (nth ((nth (nth ks m) r).fields) i)))), (21, .slot (.bool (bif isKind (nth ((nth (nth ks m) r).fields) i) then ((decide ((((kM (nth ((nth (nth ks m) r).fields) i) : Nat) : Int) : Int) > ((m : Nat) : Int))) || (bif decide ((((kM (nth ((nth (nth ks m) r).fields) i) : Nat) : Int) : Int) = ((m : Nat) : Int)) then ((decide ((((kR (nth ((nth (nth ks m) r).fields) i) : Nat) : Int) : Int) ≥ ((r : Nat) : Int))) || (!(plainOk ks (nth ((nth (nth ks m) r).fields) i)))) else !(plainOk ks (nth ((nth (nth ks m) r).fields) i)))) else !(plainOk ks (nth ((nth (nth ks m) r).fields) i)))))], _, (a2 (kB g3) (a2 (kB g4) (a2 (kB g5) (a2 (kB g6) (a2 (cl tx74a (impl_plainOk_v ks (nth ((nth (nth ks m) r).fields) i))) (a2 (kB (b := !(plainOk ks (nth ((nth (nth ks m) r).fields) i))) (c := (bif isKind (nth ((nth (nth ks m) r).fields) i) then ((decide ((((kM (nth ((nth (nth ks m) r).fields) i) : Nat) : Int) : Int) > ((m : Nat) : Int))) || (bif decide ((((kM (nth ((nth (nth ks m) r).fields) i) : Nat) : Int) : Int) = ((m : Nat) : Int)) then ((decide ((((kR (nth ((nth (nth ks m) r).fields) i) : Nat) : Int) : Int) ≥ ((r : Nat) : Int))) || (!(plainOk ks (nth ((nth (nth ks m) r).fields) i)))) else !(plainOk ks (nth ((nth (nth ks m) r).fields) i)))) else !(plainOk ks (nth ((nth (nth ks m) r).fields) i)))) (by first | (simp only [g3, g4, g5, g6, Bool.true_or, Bool.false_or, Bool.or_false, Bool.or_true, Bool.true_and, Bool.false_and, Bool.and_true, Bool.and_false, Bool.not_true, Bool.not_false, cond_true, cond_false]; done) | (simp [g3, g4, g5, g6]; done))) AllP.nil)))))), by kernel_rfl⟩
              · have g5p := of_dF g5
                exact ⟨[(0, .slot (.bool true)), (4, .slot (.bool false)), (8, .slot (.bool false)), (19, .ret (.bool (plainOk ks (nth ((nth (nth ks m) r).fields) i)))), (21, .slot (.bool (bif isKind (nth ((nth (nth ks m) r).fields) i) then ((decide ((((kM (nth ((nth (nth ks m) r).fields) i) : Nat) : Int) : Int) > ((m : Nat) : Int))) || (bif decide ((((kM (nth ((nth (nth ks m) r).fields) i) : Nat) : Int) : Int) = ((m : Nat) : Int)) then ((decide ((((kR (nth ((nth (nth ks m) r).fields) i) : Nat) : Int) : Int) ≥ ((r : Nat) : Int))) || (!(plainOk ks (nth ((nth (nth ks m) r).fields) i)))) else !(plainOk ks (nth ((nth (nth ks m) r).fields) i)))) else !(plainOk ks (nth ((nth (nth ks m) r).fields) i)))))], _, (a2 (kB g3) (a2 (kB g4) (a2 (kB g5) (a2 (cl tx74a (impl_plainOk_v ks (nth ((nth (nth ks m) r).fields) i))) (a2 (kB (b := !(plainOk ks (nth ((nth (nth ks m) r).fields) i))) (c := (bif isKind (nth ((nth (nth ks m) r).fields) i) then ((decide ((((kM (nth ((nth (nth ks m) r).fields) i) : Nat) : Int) : Int) > ((m : Nat) : Int))) || (bif decide ((((kM (nth ((nth (nth ks m) r).fields) i) : Nat) : Int) : Int) = ((m : Nat) : Int)) then ((decide ((((kR (nth ((nth (nth ks m) r).fields) i) : Nat) : Int) : Int) ≥ ((r : Nat) : Int))) || (!(plainOk ks (nth ((nth (nth ks m) r).fields) i)))) else !(plainOk ks (nth ((nth (nth ks m) r).fields) i)))) else !(plainOk ks (nth ((nth (nth ks m) r).fields) i)))) (by first | (simp only [g3, g4, g5, Bool.true_or, Bool.false_or, Bool.or_false, Bool.or_true, Bool.true_and, Bool.false_and, Bool.and_true, Bool.and_false, Bool.not_true, Bool.not_false, cond_true, cond_false]; done) | (simp [g3, g4, g5]; done))) AllP.nil))))), by kernel_rfl⟩
          · exact ⟨[(0, .slot (.bool false)), (19, .ret (.bool (plainOk ks (nth ((nth (nth ks m) r).fields) i)))), (21, .slot (.bool (bif isKind (nth ((nth (nth ks m) r).fields) i) then ((decide ((((kM (nth ((nth (nth ks m) r).fields) i) : Nat) : Int) : Int) > ((m : Nat) : Int))) || (bif decide ((((kM (nth ((nth (nth ks m) r).fields) i) : Nat) : Int) : Int) = ((m : Nat) : Int)) then ((decide ((((kR (nth ((nth (nth ks m) r).fields) i) : Nat) : Int) : Int) ≥ ((r : Nat) : Int))) || (!(plainOk ks (nth ((nth (nth ks m) r).fields) i)))) else !(plainOk ks (nth ((nth (nth ks m) r).fields) i)))) else !(plainOk ks (nth ((nth (nth ks m) r).fields) i)))))], _, (a2 (kB g3) (a2 (cl tx74a (impl_plainOk_v ks (nth ((nth (nth ks m) r).fields) i))) (a2 (kB (b := !(plainOk ks (nth ((nth (nth ks m) r).fields) i))) (c := (bif isKind (nth ((nth (nth ks m) r).fields) i) then ((decide ((((kM (nth ((nth (nth ks m) r).fields) i) : Nat) : Int) : Int) > ((m : Nat) : Int))) || (bif decide ((((kM (nth ((nth (nth ks m) r).fields) i) : Nat) : Int) : Int) = ((m : Nat) : Int)) then ((decide ((((kR (nth ((nth (nth ks m) r).fields) i) : Nat) : Int) : Int) ≥ ((r : Nat) : Int))) || (!(plainOk ks (nth ((nth (nth ks m) r).fields) i)))) else !(plainOk ks (nth ((nth (nth ks m) r).fields) i)))) else !(plainOk ks (nth ((nth (nth ks m) r).fields) i)))) (by first | (simp only [g3, Bool.true_or, Bool.false_or, Bool.or_false, Bool.or_true, Bool.true_and, Bool.false_and, Bool.and_true, Bool.and_false, Bool.not_true, Bool.not_false, cond_true, cond_false]; done) | (simp [g3]; done))) AllP.nil))), by kernel_rfl⟩) ?_
      refine xw_cond (bif isKind (nth ((nth (nth ks m) r).fields) i) then ((decide ((((kM (nth ((nth (nth ks m) r).fields) i) : Nat) : Int) : Int) > ((m : Nat) : Int))) || (bif decide ((((kM (nth ((nth (nth ks m) r).fields) i) : Nat) : Int) : Int) = ((m : Nat) : Int)) then ((decide ((((kR (nth ((nth (nth ks m) r).fields) i) : Nat) : Int) : Int) ≥ ((r : Nat) : Int))) || (!(plainOk ks (nth ((nth (nth ks m) r).fields) i)))) else !(plainOk ks (nth ((nth (nth ks m) r).fields) i)))) else !(plainOk ks (nth ((nth (nth ks m) r).fields) i))) rfl (fun h3 => ?_) (fun h3 => ?_)
      · have h3 := h3
        have hf : fieldOk ks m r (nth (nth (nth ks m) r).fields i) = false := by rw [fieldBad] at h3; simpa using h3
        refine vx c [(12, .bool false)] [] AllP.nil (by kernel_rfl) ?_
        exact xret [.lf (.im true (.bool false))] rfl (by kernel_rfl) (retBF (fun h => uptoN (i := i) (by omega) (fun hq => Bool.false_ne_true (hf.symm.trans hq.1)) h.fields))
      · have h3 := h3
        have hf : fieldOk ks m r (nth (nth (nth ks m) r).fields i) = true := by rw [fieldBad] at h3; simpa using h3
        refine xw_skip ?_
        refine vx c [(0, .lf (.im true (.sl 1 (ks.map rRecs)))), (2, .int ((m : Nat) : Int)), (4, .int ((r : Nat) : Int)), (14, .lf (.ptr 7 0)), (15, .cell 7 [.im true (.int .i64 ((nth (nth ks m) r).able)), .im true (.sl 1 (((nth (nth ks m) r).fields).map rS))]), (26, .int (ableOf ks (nth ((nth (nth ks m) r).fields) i))), (72, .lf (.im true (.sl 1 (((nth (nth ks m) r).fields).map rS)))), (74, .int ((((nth (nth ks m) r).fields).length : Nat) : Int)), (76, .int ((i : Nat) : Int))] [(2, .ret (.int (ableOf ks (nth ((nth (nth ks m) r).fields) i))))] (a2 (cl tx41a (impl_ableOf_v ks (nth ((nth (nth ks m) r).fields) i))) AllP.nil) (by kernel_rfl) ?_
        refine vxj c [(0, .lf (.im true (.sl 1 (ks.map rRecs)))), (2, .int ((m : Nat) : Int)), (4, .int ((r : Nat) : Int)), (14, .lf (.ptr 7 0)), (15, .cell 7 [.im true (.int .i64 ((nth (nth ks m) r).able)), .im true (.sl 1 (((nth (nth ks m) r).fields).map rS))]), (72, .lf (.im true (.sl 1 (((nth (nth ks m) r).fields).map rS)))), (74, .int ((((nth (nth ks m) r).fields).length : Nat) : Int)), (76, .int ((i : Nat) : Int)), (178, .bool ((decide ((andNotI (andI ((nth (nth ks m) r).able) 7) (ableOf ks (nth ((nth (nth ks m) r).fields) i)) : Int) ≠ 0)) || ((decide ((andI ((nth (nth ks m) r).able) 8 : Int) ≠ 0)) && (decide ((andI (ableOf ks (nth ((nth (nth ks m) r).fields) i)) 4 : Int) = 0)))))] (by
            rcases Bool.eq_false_or_eq_true (decide ((andNotI (andI ((nth (nth ks m) r).able) 7) (ableOf ks (nth ((nth (nth ks m) r).fields) i)) : Int) ≠ 0)) with g7 | g7
            · have g7p := of_dT g7
              exact ⟨[(2, .num (andI ((nth (nth ks m) r).able) 7)), (4, .num (andNotI (andI ((nth (nth ks m) r).able) 7) (ableOf ks (nth ((nth (nth ks m) r).fields) i)))), (5, .slot (.bool true)), (16, .slot (.bool ((decide ((andNotI (andI ((nth (nth ks m) r).able) 7) (ableOf ks (nth ((nth (nth ks m) r).fields) i)) : Int) ≠ 0)) || ((decide ((andI ((nth (nth ks m) r).able) 8 : Int) ≠ 0)) && (decide ((andI (ableOf ks (nth ((nth (nth ks m) r).fields) i)) 4 : Int) = 0))))))], _, (a2 (andI_n ((nth (nth ks m) r).able) 7) (a2 (andNotI_n (andI ((nth (nth ks m) r).able) 7) (ableOf ks (nth ((nth (nth ks m) r).fields) i))) (a2 (kB g7) (a2 (kB (b := true) (c := ((decide ((andNotI (andI ((nth (nth ks m) r).able) 7) (ableOf ks (nth ((nth (nth ks m) r).fields) i)) : Int) ≠ 0)) || ((decide ((andI ((nth (nth ks m) r).able) 8 : Int) ≠ 0)) && (decide ((andI (ableOf ks (nth ((nth (nth ks m) r).fields) i)) 4 : Int) = 0))))) (by first | (simp only [g7, Bool.true_or, Bool.false_or, Bool.or_false, Bool.or_true, Bool.true_and, Bool.false_and, Bool.and_true, Bool.and_false, Bool.not_true, Bool.not_false, cond_true, cond_false]; done) | (simp [g7]; done))) AllP.nil)))), by kernel_rfl⟩
            · have g7p := of_dF g7
              rcases Bool.eq_false_or_eq_true (decide ((andI ((nth (nth ks m) r).able) 8 : Int) ≠ 0)) with g8 | g8
              · have g8p := of_dT g8
                exact ⟨[(2, .num (andI ((nth (nth ks m) r).able) 7)), (4, .num (andNotI (andI ((nth (nth ks m) r).able) 7) (ableOf ks (nth ((nth (nth ks m) r).fields) i)))), (5, .slot (.bool false)), (9, .num (andI ((nth (nth ks m) r).able) 8)), (10, .slot (.bool true)), (13, .num (andI (ableOf ks (nth ((nth (nth ks m) r).fields) i)) 4)), (16, .slot (.bool ((decide ((andNotI (andI ((nth (nth ks m) r).able) 7) (ableOf ks (nth ((nth (nth ks m) r).fields) i)) : Int) ≠ 0)) || ((decide ((andI ((nth (nth ks m) r).able) 8 : Int) ≠ 0)) && (decide ((andI (ableOf ks (nth ((nth (nth ks m) r).fields) i)) 4 : Int) = 0))))))], _, (a2 (andI_n ((nth (nth ks m) r).able) 7) (a2 (andNotI_n (andI ((nth (nth ks m) r).able) 7) (ableOf ks (nth ((nth (nth ks m) r).fields) i))) (a2 (kB g7) (a2 (andI_n ((nth (nth ks m) r).able) 8) (a2 (kB g8) (a2 (andI_n (ableOf ks (nth ((nth (nth ks m) r).fields) i)) 4) (a2 (kB (b := decide ((andI (ableOf ks (nth ((nth (nth ks m) r).fields) i)) 4 : Int) = 0)) (c := ((decide ((andNotI (andI ((nth (nth ks m) r).able) 7) (ableOf ks (nth ((nth (nth ks m) r).fields) i)) : Int) ≠ 0)) || ((decide ((andI ((nth (nth ks m) r).able) 8 : Int) ≠ 0)) && (decide ((andI (ableOf ks (nth ((nth (nth ks m) r).fields) i)) 4 : Int) = 0))))) (by first | (simp only [g7, g8, Bool.true_or, Bool.false_or, Bool.or_false, Bool.or_true, Bool.true_and, Bool.false_and, Bool.and_true, Bool.and_false, Bool.not_true, Bool.not_false, cond_true, cond_false]; done) | (simp [g7, g8]; done))) AllP.nil))))))), by kernel_rfl⟩
              · have g8p := of_dF g8
                exact ⟨[(2, .num (andI ((nth (nth ks m) r).able) 7)), (4, .num (andNotI (andI ((nth (nth ks m) r).able) 7) (ableOf ks (nth ((nth (nth ks m) r).fields) i)))), (5, .slot (.bool false)), (9, .num (andI ((nth (nth ks m) r).able) 8)), (10, .slot (.bool false)), (16, .slot (.bool ((decide ((andNotI (andI ((nth (nth ks m) r).able) 7) (ableOf ks (nth ((nth (nth ks m) r).fields) i)) : Int) ≠ 0)) || ((decide ((andI ((nth (nth ks m) r).able) 8 : Int) ≠ 0)) && (decide ((andI (ableOf ks (nth ((nth (nth ks m) r).fields) i)) 4 : Int) = 0))))))], _, (a2 (andI_n ((nth (nth ks m) r).able) 7) (a2 (andNotI_n (andI ((nth (nth ks m) r).able) 7) (ableOf ks (nth ((nth (nth ks m) r).fields) i))) (a2 (kB g7) (a2 (andI_n ((nth (nth ks m) r).able) 8) (a2 (kB g8) (a2 (kB (b := false) (c := ((decide ((andNotI (andI ((nth (nth ks m) r).able) 7) (ableOf ks (nth ((nth (nth ks m) r).fields) i)) : Int) ≠ 0)) || ((decide ((andI ((nth (nth ks m) r).able) 8 : Int) ≠ 0)) && (decide ((andI (ableOf ks (nth ((nth (nth ks m) r).fields) i)) 4 : Int) = 0))))) (by first | (simp only [g7, g8, Bool.true_or, Bool.false_or, Bool.or_false, Bool.or_true, Bool.true_and, Bool.false_and, Bool.and_true, Bool.and_false, Bool.not_true, Bool.not_false, cond_true, cond_false]; done) | (simp [g7, g8]; done))) AllP.nil)))))), by kernel_rfl⟩) ?_
        refine xw_cond ((decide ((andNotI (andI ((nth (nth ks m) r).able) 7) (ableOf ks (nth ((nth (nth ks m) r).fields) i)) : Int) ≠ 0)) || ((decide ((andI ((nth (nth ks m) r).able) 8 : Int) ≠ 0)) && (decide ((andI (ableOf ks (nth ((nth (nth ks m) r).fields) i)) 4 : Int) = 0)))) rfl (fun h4 => ?_) (fun h4 => ?_)
        · have h4 := h4
          have hfit : fits (nth (nth ks m) r).able (ableOf ks (nth (nth (nth ks m) r).fields i)) = false := fits_not h4
          refine vx c [(12, .bool false)] [] AllP.nil (by kernel_rfl) ?_
          exact xret [.lf (.im true (.bool false))] rfl (by kernel_rfl) (retBF (fun h => uptoN (i := i) (by omega) (fun hq => Bool.false_ne_true (hfit.symm.trans hq.2)) h.fields))
        · have h4 := h4
          have hfit : fits (nth (nth ks m) r).able (ableOf ks (nth (nth (nth ks m) r).fields i)) = true := fits_yes h4
          refine xw_skip ?_
          exact vxe c [(0, .lf (.im true (.sl 1 (ks.map rRecs)))), (2, .int ((m : Nat) : Int)), (4, .int ((r : Nat) : Int)), (14, .lf (.ptr 7 0)), (15, .cell 7 [.im true (.int .i64 ((nth (nth ks m) r).able)), .im true (.sl 1 (((nth (nth ks m) r).fields).map rS))]), (72, .lf (.im true (.sl 1 (((nth (nth ks m) r).fields).map rS)))), (74, .int ((((nth (nth ks m) r).fields).length : Nat) : Int)), (76, .int ((i + 1 : Nat) : Int))] [(0, .slot (.int ((i + 1 : Nat) : Int)))] (a2 (wI (a := ((i : Nat) : Int) + 1) (b := ((i + 1 : Nat) : Int)) (by omega) (by omega) (by omega)) AllP.nil) (by kernel_rfl) (⟨_, by omega, (i + 1), rfl, rfl, ⟨by omega, uptoS hP1.2 ⟨hf, hfit⟩⟩⟩)
    · have h2 := of_dF h2
      refine xw_exit ?_
      refine vx c [(12, .bool true)] [] AllP.nil (by kernel_rfl) ?_
      exact xret [.lf (.im true (.bool true))] rfl (by kernel_rfl) (retBT (⟨hx.1, hx.2.1, hx.2.2, uptoE hP1.2 (by omega)⟩ : RecOk ks m r))
set_option maxRecDepth 100000 in
theorem spec_l1Record_v (ks : Kinds) (m r : Nat) (hm : m < ks.length) (hr : r < (nth ks m).length) (hA : Ahead ks m r) :
    CallV Tryz.prog 106 [.lf (.im true (.sl 1 (ks.map rRecs))), .lf (.im true (.int .i64 ((m : Nat) : Int))), .lf (.im true (.int .i64 ((r : Nat) : Int)))] (· = .bool (B (RecOk ks m r))) := by
  refine CallX (fn := Tryz.f106) TToka mixeda Tryz.func106 rfl rfl rfl rfl rfl fun E c => ?_
  refine vx c [(0, .lf (.im true (.sl 1 (ks.map rRecs)))), (2, .int ((m : Nat) : Int)), (4, .int ((r : Nat) : Int))] [] AllP.nil (by kernel_rfl) ?_
  refine vx c [(0, .lf (.im true (.sl 1 (ks.map rRecs)))), (2, .int ((m : Nat) : Int)), (4, .int ((r : Nat) : Int)), (14, .lf (.ptr 7 0)), (15, .cell 7 [.im true (.int .i64 ((nth (nth ks m) r).able)), .im true (.sl 1 (((nth (nth ks m) r).fields).map rS))])] [(2, .row (rRecs (nth ks m))), (5, .row (rRec (nth (nth ks m) r)))] (a2 (ix (f := rRecs) (l := ks) (i := m) (nth_at (l := ks) (i := m) (by omega))) (a2 (ix (f := rRec) (l := (nth ks m)) (i := r) (nth_at (l := (nth ks m)) (i := r) (by omega))) AllP.nil)) (by kernel_rfl) ?_
  refine xw_seq ?_
  refine vxj c [(0, .lf (.im true (.sl 1 (ks.map rRecs)))), (2, .int ((m : Nat) : Int)), (4, .int ((r : Nat) : Int)), (14, .lf (.ptr 7 0)), (15, .cell 7 [.im true (.int .i64 ((nth (nth ks m) r).able)), .im true (.sl 1 (((nth (nth ks m) r).fields).map rS))]), (52, .bool ((!(inI ((nth (nth ks m) r).able) 0 15)) || (decide ((((((nth (nth ks m) r).fields).length : Nat) : Int) : Int) > 3))))] (by
      rcases Bool.eq_false_or_eq_true (!(inI ((nth (nth ks m) r).able) 0 15)) with g1 | g1
      · have g1p := of_nT g1
        exact ⟨[(2, .ret (.bool (inI ((nth (nth ks m) r).able) 0 15))), (3, .slot (.bool true)), (9, .slot (.bool ((!(inI ((nth (nth ks m) r).able) 0 15)) || (decide ((((((nth (nth ks m) r).fields).length : Nat) : Int) : Int) > 3)))))], _, (a2 (cl tx23a (spec_l6In_v ((nth (nth ks m) r).able) 0 15)) (a2 (kB g1) (a2 (kB (b := true) (c := ((!(inI ((nth (nth ks m) r).able) 0 15)) || (decide ((((((nth (nth ks m) r).fields).length : Nat) : Int) : Int) > 3)))) (by first | (simp only [g1, Bool.true_or, Bool.false_or, Bool.or_false, Bool.or_true, Bool.true_and, Bool.false_and, Bool.and_true, Bool.and_false, Bool.not_true, Bool.not_false, cond_true, cond_false]; done) | (simp [g1]; done))) AllP.nil))), by kernel_rfl⟩
      · have g1p := of_nF g1
        exact ⟨[(2, .ret (.bool (inI ((nth (nth ks m) r).able) 0 15))), (3, .slot (.bool false)), (7, .slot (.int ((((nth (nth ks m) r).fields).length : Nat) : Int))), (9, .slot (.bool ((!(inI ((nth (nth ks m) r).able) 0 15)) || (decide ((((((nth (nth ks m) r).fields).length : Nat) : Int) : Int) > 3)))))], _, (a2 (cl tx23a (spec_l6In_v ((nth (nth ks m) r).able) 0 15)) (a2 (kB g1) (a2 (ln (l := (nth (nth ks m) r).fields) (f := rS)) (a2 (kB (b := decide ((((((nth (nth ks m) r).fields).length : Nat) : Int) : Int) > 3)) (c := ((!(inI ((nth (nth ks m) r).able) 0 15)) || (decide ((((((nth (nth ks m) r).fields).length : Nat) : Int) : Int) > 3)))) (by first | (simp only [g1, Bool.true_or, Bool.false_or, Bool.or_false, Bool.or_true, Bool.true_and, Bool.false_and, Bool.and_true, Bool.and_false, Bool.not_true, Bool.not_false, cond_true, cond_false]; done) | (simp [g1]; done))) AllP.nil)))), by kernel_rfl⟩) ?_
  refine xw_cond ((!(inI ((nth (nth ks m) r).able) 0 15)) || (decide ((((((nth (nth ks m) r).fields).length : Nat) : Int) : Int) > 3))) rfl (fun h1 => ?_) (fun h1 => ?_)
  · have h1 := h1
    refine vx c [(12, .bool false)] [] AllP.nil (by kernel_rfl) ?_
    exact xret [.lf (.im true (.bool false))] rfl (by kernel_rfl) (retBF (fun h => by have := h.lo; have := h.hi; have := h.len; simp [inI] at h1; omega))
  · have h1 := h1
    have hx : 0 ≤ (nth (nth ks m) r).able ∧ (nth (nth ks m) r).able ≤ 15 ∧ (nth (nth ks m) r).fields.length ≤ 3 := by simp [inI] at h1; omega
    refine xw_skip ?_
    refine xw_seq ?_
    refine vx c [(0, .lf (.im true (.sl 1 (ks.map rRecs)))), (2, .int ((m : Nat) : Int)), (4, .int ((r : Nat) : Int)), (14, .lf (.ptr 7 0)), (15, .cell 7 [.im true (.int .i64 ((nth (nth ks m) r).able)), .im true (.sl 1 (((nth (nth ks m) r).fields).map rS))]), (16, .int 0)] [] AllP.nil (by kernel_rfl) ?_
    refine xw_block ?_
    refine xw_loop (fun n L => ∃ (i : Nat), L = [(0, .lf (.im true (.sl 1 (ks.map rRecs)))), (2, .int ((m : Nat) : Int)), (4, .int ((r : Nat) : Int)), (14, .lf (.ptr 7 0)), (15, .cell 7 [.im true (.int .i64 ((nth (nth ks m) r).able)), .im true (.sl 1 (((nth (nth ks m) r).fields).map rS))]), (16, .int ((i : Nat) : Int))] ∧ n = (nth (nth ks m) r).fields.length - i ∧ (i ≤ (nth (nth ks m) r).fields.length ∧ Upto (fun _ t => fieldFine ks m r (nth (nth ks m) r).able t) (nth (nth ks m) r).fields i)) _ ⟨0, rfl, rfl, ⟨by omega, upto0⟩⟩ ?_
    rintro n L ⟨i, rfl, rfl, hP1⟩
    refine xw_seq ?_
    refine vx c [(0, .lf (.im true (.sl 1 (ks.map rRecs)))), (2, .int ((m : Nat) : Int)), (4, .int ((r : Nat) : Int)), (14, .lf (.ptr 7 0)), (15, .cell 7 [.im true (.int .i64 ((nth (nth ks m) r).able)), .im true (.sl 1 (((nth (nth ks m) r).fields).map rS))]), (16, .int ((i : Nat) : Int)), (62, .bool (decide ((((i : Nat) : Int) : Int) < ((((nth (nth ks m) r).fields).length : Nat) : Int))))] [(3, .slot (.int ((((nth (nth ks m) r).fields).length : Nat) : Int)))] (a2 (ln (l := (nth (nth ks m) r).fields) (f := rS)) AllP.nil) (by kernel_rfl) ?_
    refine xw_cond (decide ((((i : Nat) : Int) : Int) < ((((nth (nth ks m) r).fields).length : Nat) : Int))) rfl (fun h2 => ?_) (fun h2 => ?_)
    · have h2 := of_dT h2
      refine xw_skip ?_
      refine xw_seq ?_
      refine xw_block ?_
      refine xw_seq ?_
      refine vx c [(0, .lf (.im true (.sl 1 (ks.map rRecs)))), (2, .int ((m : Nat) : Int)), (4, .int ((r : Nat) : Int)), (14, .lf (.ptr 7 0)), (15, .cell 7 [.im true (.int .i64 ((nth (nth ks m) r).able)), .im true (.sl 1 (((nth (nth ks m) r).fields).map rS))]), (16, .int ((i : Nat) : Int)), (86, .bool (!(fieldOk ks m r (nth ((nth (nth ks m) r).fields) i))))] [(6, .row (rS (nth ((nth (nth ks m) r).fields) i))), (8, .ret (.bool (fieldOk ks m r (nth ((nth (nth ks m) r).fields) i))))] (a2 (ix (f := rS) (l := (nth (nth ks m) r).fields) (i := i) (nth_at (l := (nth (nth ks m) r).fields) (i := i) (by omega))) (a2 (cl tx119a (spec_l1Field_v ks m r (nth ((nth (nth ks m) r).fields) i))) AllP.nil)) (by kernel_rfl) ?_
      refine xw_cond (!(fieldOk ks m r (nth ((nth (nth ks m) r).fields) i))) rfl (fun h3 => ?_) (fun h3 => ?_)
      · have h3 : (fieldOk ks m r (nth ((nth (nth ks m) r).fields) i)) = false := of_nT h3
        have hf : fieldOk ks m r (nth (nth (nth ks m) r).fields i) = false := h3
        refine vx c [(12, .bool false)] [] AllP.nil (by kernel_rfl) ?_
        exact xret [.lf (.im true (.bool false))] rfl (by kernel_rfl) (retBF (fun h => uptoN (i := i) (by omega) (fun hq => Bool.false_ne_true (hf.symm.trans hq.1)) h.fields))
      · have h3 : (fieldOk ks m r (nth ((nth (nth ks m) r).fields) i)) = true := of_nF h3
        have hf : fieldOk ks m r (nth (nth (nth ks m) r).fields i) = true := h3
        have hk := field_kind hf
        have hs := fits_spec (a := (nth (nth ks m) r).able) (b := ableOf ks (nth (nth (nth ks m) r).fields i)) hx.1 hx.2.1 (able_range hA hf).1 (able_range hA hf).2
        refine xw_skip ?_
        refine vx c [(0, .lf (.im true (.sl 1 (ks.map rRecs)))), (2, .int ((m : Nat) : Int)), (4, .int ((r : Nat) : Int)), (14, .lf (.ptr 7 0)), (15, .cell 7 [.im true (.int .i64 ((nth (nth ks m) r).able)), .im true (.sl 1 (((nth (nth ks m) r).fields).map rS))]), (16, .int ((i : Nat) : Int)), (18, .int (ableOf ks (nth ((nth (nth ks m) r).fields) i)))] [(4, .row (rS (nth ((nth (nth ks m) r).fields) i))), (6, .ret (.int (ableOf ks (nth ((nth (nth ks m) r).fields) i))))] (a2 (ix (f := rS) (l := (nth (nth ks m) r).fields) (i := i) (nth_at (l := (nth (nth ks m) r).fields) (i := i) (by omega))) (a2 (cl tx38a (spec_l1Able_v ks (nth ((nth (nth ks m) r).fields) i) (by assumption))) AllP.nil)) (by kernel_rfl) ?_
        refine xw_seq ?_
        refine vxj c [(0, .lf (.im true (.sl 1 (ks.map rRecs)))), (2, .int ((m : Nat) : Int)), (4, .int ((r : Nat) : Int)), (14, .lf (.ptr 7 0)), (15, .cell 7 [.im true (.int .i64 ((nth (nth ks m) r).able)), .im true (.sl 1 (((nth (nth ks m) r).fields).map rS))]), (16, .int ((i : Nat) : Int)), (18, .int (ableOf ks (nth ((nth (nth ks m) r).fields) i))), (136, .bool (bif canB ((nth (nth ks m) r).able) 1 then ((!(canB (ableOf ks (nth ((nth (nth ks m) r).fields) i)) 1)) || ((canB ((nth (nth ks m) r).able) 2) && (!(canB (ableOf ks (nth ((nth (nth ks m) r).fields) i)) 2)))) else ((canB ((nth (nth ks m) r).able) 2) && (!(canB (ableOf ks (nth ((nth (nth ks m) r).fields) i)) 2)))))] (by
            rcases Bool.eq_false_or_eq_true (canB ((nth (nth ks m) r).able) 1) with g2 | g2
            · rcases Bool.eq_false_or_eq_true (!(canB (ableOf ks (nth ((nth (nth ks m) r).fields) i)) 1)) with g3 | g3
              · have g3p := of_nT g3
                exact ⟨[(2, .ret (.bool (canB ((nth (nth ks m) r).able) 1))), (3, .slot (.bool true)), (5, .ret (.bool (canB (ableOf ks (nth ((nth (nth ks m) r).fields) i)) 1))), (6, .slot (.bool true)), (17, .slot (.bool (bif canB ((nth (nth ks m) r).able) 1 then ((!(canB (ableOf ks (nth ((nth (nth ks m) r).fields) i)) 1)) || ((canB ((nth (nth ks m) r).able) 2) && (!(canB (ableOf ks (nth ((nth (nth ks m) r).fields) i)) 2)))) else ((canB ((nth (nth ks m) r).able) 2) && (!(canB (ableOf ks (nth ((nth (nth ks m) r).fields) i)) 2))))))], _, (a2 (cl tx39a (spec_l1Can_v ((nth (nth ks m) r).able) 1 (by decide))) (a2 (kB g2) (a2 (cl tx39a (spec_l1Can_v (ableOf ks (nth ((nth (nth ks m) r).fields) i)) 1 (by decide))) (a2 (kB g3) (a2 (kB (b := true) (c := (bif canB ((nth (nth ks m) r).able) 1 then ((!(canB (ableOf ks (nth ((nth (nth ks m) r).fields) i)) 1)) || ((canB ((nth (nth ks m) r).able) 2) && (!(canB (ableOf ks (nth ((nth (nth ks m) r).fields) i)) 2)))) else ((canB ((nth (nth ks m) r).able) 2) && (!(canB (ableOf ks (nth ((nth (nth ks m) r).fields) i)) 2))))) (by first | (simp only [g2, g3, Bool.true_or, Bool.false_or, Bool.or_false, Bool.or_true, Bool.true_and, Bool.false_and, Bool.and_true, Bool.and_false, Bool.not_true, Bool.not_false, cond_true, cond_false]; done) | (simp [g2, g3]; done))) AllP.nil))))), by kernel_rfl⟩
              · have g3p := of_nF g3
                rcases Bool.eq_false_or_eq_true (canB ((nth (nth ks m) r).able) 2) with g4 | g4
                · exact ⟨[(2, .ret (.bool (canB ((nth (nth ks m) r).able) 1))), (3, .slot (.bool true)), (5, .ret (.bool (canB (ableOf ks (nth ((nth (nth ks m) r).fields) i)) 1))), (6, .slot (.bool false)), (11, .ret (.bool (canB ((nth (nth ks m) r).able) 2))), (12, .slot (.bool true)), (14, .ret (.bool (canB (ableOf ks (nth ((nth (nth ks m) r).fields) i)) 2))), (17, .slot (.bool (bif canB ((nth (nth ks m) r).able) 1 then ((!(canB (ableOf ks (nth ((nth (nth ks m) r).fields) i)) 1)) || ((canB ((nth (nth ks m) r).able) 2) && (!(canB (ableOf ks (nth ((nth (nth ks m) r).fields) i)) 2)))) else ((canB ((nth (nth ks m) r).able) 2) && (!(canB (ableOf ks (nth ((nth (nth ks m) r).fields) i)) 2))))))], _, (a2 (cl tx39a (spec_l1Can_v ((nth (nth ks m) r).able) 1 (by decide))) (a2 (kB g2) (a2 (cl tx39a (spec_l1Can_v (ableOf ks (nth ((nth (nth ks m) r).fields) i)) 1 (by decide))) (a2 (kB g3) (a2 (cl tx39a (spec_l1Can_v ((nth (nth ks m) r).able) 2 (by decide))) (a2 (kB g4) (a2 (cl tx39a (spec_l1Can_v (ableOf ks (nth ((nth (nth ks m) r).fields) i)) 2 (by decide))) (a2 (kB (b := !(canB (ableOf ks (nth ((nth (nth ks m) r).fields) i)) 2)) (c := (bif canB ((nth (nth ks m) r).able) 1 then ((!(canB (ableOf ks (nth ((nth (nth ks m) r).fields) i)) 1)) || ((canB ((nth (nth ks m) r).able) 2) && (!(canB (ableOf ks (nth ((nth (nth ks m) r).fields) i)) 2)))) else ((canB ((nth (nth ks m) r).able) 2) && (!(canB (ableOf ks (nth ((nth (nth ks m) r).fields) i)) 2))))) (by first | (simp only [g2, g3, g4, Bool.true_or, Bool.false_or, Bool.or_false, Bool.or_true, Bool.true_and, Bool.false_and, Bool.and_true, Bool.and_false, Bool.not_true, Bool.not_false, cond_true, cond_false]; done) | (simp [g2, g3, g4]; done))) AllP.nil)))))))), by kernel_rfl⟩
                · exact ⟨[(2, .ret (.bool (canB ((nth (nth ks m) r).able) 1))), (3, .slot (.bool true)), (5, .ret (.bool (canB (ableOf ks (nth ((nth (nth ks m) r).fields) i)) 1))), (6, .slot (.bool false)), (11, .ret (.bool (canB ((nth (nth ks m) r).able) 2))), (12, .slot (.bool false)), (17, .slot (.bool (bif canB ((nth (nth ks m) r).able) 1 then ((!(canB (ableOf ks (nth ((nth (nth ks m) r).fields) i)) 1)) || ((canB ((nth (nth ks m) r).able) 2) && (!(canB (ableOf ks (nth ((nth (nth ks m) r).fields) i)) 2)))) else ((canB ((nth (nth ks m) r).able) 2) && (!(canB (ableOf ks (nth ((nth (nth ks m) r).fields) i)) 2))))))], _, (a2 (cl tx39a (spec_l1Can_v ((nth (nth ks m) r).able) 1 (by decide))) (a2 (kB g2) (a2 (cl tx39a (spec_l1Can_v (ableOf ks (nth ((nth (nth ks m) r).fields) i)) 1 (by decide))) (a2 (kB g3) (a2 (cl tx39a (spec_l1Can_v ((nth (nth ks m) r).able) 2 (by decide))) (a2 (kB g4) (a2 (kB (b := false) (c := (bif canB ((nth (nth ks m) r).able) 1 then ((!(canB (ableOf ks (nth ((nth (nth ks m) r).fields) i)) 1)) || ((canB ((nth (nth ks m) r).able) 2) && (!(canB (ableOf ks (nth ((nth (nth ks m) r).fields) i)) 2)))) else ((canB ((nth (nth ks m) r).able) 2) && (!(canB (ableOf ks (nth ((nth (nth ks m) r).fields) i)) 2))))) (by first | (simp only [g2, g3, g4, Bool.true_or, Bool.false_or, Bool.or_false, Bool.or_true, Bool.true_and, Bool.false_and, Bool.and_true, Bool.and_false, Bool.not_true, Bool.not_false, cond_true, cond_false]; done) | (simp [g2, g3, g4]; done))) AllP.nil))))))), by kernel_rfl⟩
            · rcases Bool.eq_false_or_eq_true (canB ((nth (nth ks m) r).able) 2) with g3 | g3
              · exact ⟨[(2, .ret (.bool (canB ((nth (nth ks m) r).able) 1))), (3, .slot (.bool false)), (11, .ret (.bool (canB ((nth (nth ks m) r).able) 2))), (12, .slot (.bool true)), (14, .ret (.bool (canB (ableOf ks (nth ((nth (nth ks m) r).fields) i)) 2))), (17, .slot (.bool (bif canB ((nth (nth ks m) r).able) 1 then ((!(canB (ableOf ks (nth ((nth (nth ks m) r).fields) i)) 1)) || ((canB ((nth (nth ks m) r).able) 2) && (!(canB (ableOf ks (nth ((nth (nth ks m) r).fields) i)) 2)))) else ((canB ((nth (nth ks m) r).able) 2) && (!(canB (ableOf ks (nth ((nth (nth ks m) r).fields) i)) 2))))))], _, (a2 (cl tx39a (spec_l1Can_v ((nth (nth ks m) r).able) 1 (by decide))) (a2 (kB g2) (a2 (cl tx39a (spec_l1Can_v ((nth (nth ks m) r).able) 2 (by decide))) (a2 (kB g3) (a2 (cl tx39a (spec_l1Can_v (ableOf ks (nth ((nth (nth ks m) r).fields) i)) 2 (by decide))) (a2 (kB (b := !(canB (ableOf ks (nth ((nth (nth ks m) r).fields) i)) 2)) (c := (bif canB ((nth (nth ks m) r).able) 1 then ((!(canB (ableOf ks (nth ((nth (nth ks m) r).fields) i)) 1)) || ((canB ((nth (nth ks m) r).able) 2) && (!(canB (ableOf ks (nth ((nth (nth ks m) r).fields) i)) 2)))) else ((canB ((nth (nth ks m) r).able) 2) && (!(canB (ableOf ks (nth ((nth (nth ks m) r).fields) i)) 2))))) (by first | (simp only [g2, g3, Bool.true_or, Bool.false_or, Bool.or_false, Bool.or_true, Bool.true_and, Bool.false_and, Bool.and_true, Bool.and_false, Bool.not_true, Bool.not_false, cond_true, cond_false]; done) | (simp [g2, g3]; done))) AllP.nil)))))), by kernel_rfl⟩
              · exact ⟨[(2, .ret (.bool (canB ((nth (nth ks m) r).able) 1))), (3, .slot (.bool false)), (11, .ret (.bool (canB ((nth (nth ks m) r).able) 2))), (12, .slot (.bool false)), (17, .slot (.bool (bif canB ((nth (nth ks m) r).able) 1 then ((!(canB (ableOf ks (nth ((nth (nth ks m) r).fields) i)) 1)) || ((canB ((nth (nth ks m) r).able) 2) && (!(canB (ableOf ks (nth ((nth (nth ks m) r).fields) i)) 2)))) else ((canB ((nth (nth ks m) r).able) 2) && (!(canB (ableOf ks (nth ((nth (nth ks m) r).fields) i)) 2))))))], _, (a2 (cl tx39a (spec_l1Can_v ((nth (nth ks m) r).able) 1 (by decide))) (a2 (kB g2) (a2 (cl tx39a (spec_l1Can_v ((nth (nth ks m) r).able) 2 (by decide))) (a2 (kB g3) (a2 (kB (b := false) (c := (bif canB ((nth (nth ks m) r).able) 1 then ((!(canB (ableOf ks (nth ((nth (nth ks m) r).fields) i)) 1)) || ((canB ((nth (nth ks m) r).able) 2) && (!(canB (ableOf ks (nth ((nth (nth ks m) r).fields) i)) 2)))) else ((canB ((nth (nth ks m) r).able) 2) && (!(canB (ableOf ks (nth ((nth (nth ks m) r).fields) i)) 2))))) (by first | (simp only [g2, g3, Bool.true_or, Bool.false_or, Bool.or_false, Bool.or_true, Bool.true_and, Bool.false_and, Bool.and_true, Bool.and_false, Bool.not_true, Bool.not_false, cond_true, cond_false]; done) | (simp [g2, g3]; done))) AllP.nil))))), by kernel_rfl⟩) ?_
        refine xw_cond (bif canB ((nth (nth ks m) r).able) 1 then ((!(canB (ableOf ks (nth ((nth (nth ks m) r).fields) i)) 1)) || ((canB ((nth (nth ks m) r).able) 2) && (!(canB (ableOf ks (nth ((nth (nth ks m) r).fields) i)) 2)))) else ((canB ((nth (nth ks m) r).able) 2) && (!(canB (ableOf ks (nth ((nth (nth ks m) r).fields) i)) 2)))) rfl (fun h4 => ?_) (fun h4 => ?_)
        · have h4 := h4
          refine vx c [(12, .bool false)] [] AllP.nil (by kernel_rfl) ?_
          exact xret [.lf (.im true (.bool false))] rfl (by kernel_rfl) (retBF (fun h => uptoN (i := i) (by omega) (fun hq => by have := hs.symm.trans hq.2; rw [h4] at this; simp at this) h.fields))
        · have h4 := h4
          refine xw_skip ?_
          refine vxj c [(0, .lf (.im true (.sl 1 (ks.map rRecs)))), (2, .int ((m : Nat) : Int)), (4, .int ((r : Nat) : Int)), (14, .lf (.ptr 7 0)), (15, .cell 7 [.im true (.int .i64 ((nth (nth ks m) r).able)), .im true (.sl 1 (((nth (nth ks m) r).fields).map rS))]), (16, .int ((i : Nat) : Int)), (152, .bool ((decide (((nth (nth ks m) r).able : Int) ≥ 4)) && (!(canB (ableOf ks (nth ((nth (nth ks m) r).fields) i)) 4))))] (by
              rcases Bool.eq_false_or_eq_true (decide (((nth (nth ks m) r).able : Int) ≥ 4)) with g5 | g5
              · have g5p := of_dT g5
                exact ⟨[(2, .slot (.bool true)), (5, .ret (.bool (canB (ableOf ks (nth ((nth (nth ks m) r).fields) i)) 4))), (7, .slot (.bool ((decide (((nth (nth ks m) r).able : Int) ≥ 4)) && (!(canB (ableOf ks (nth ((nth (nth ks m) r).fields) i)) 4)))))], _, (a2 (kB g5) (a2 (cl tx39a (spec_l1Can_v (ableOf ks (nth ((nth (nth ks m) r).fields) i)) 4 (by decide))) (a2 (kB (b := !(canB (ableOf ks (nth ((nth (nth ks m) r).fields) i)) 4)) (c := ((decide (((nth (nth ks m) r).able : Int) ≥ 4)) && (!(canB (ableOf ks (nth ((nth (nth ks m) r).fields) i)) 4)))) (by first | (simp only [g5, Bool.true_or, Bool.false_or, Bool.or_false, Bool.or_true, Bool.true_and, Bool.false_and, Bool.and_true, Bool.and_false, Bool.not_true, Bool.not_false, cond_true, cond_false]; done) | (simp [g5]; done))) AllP.nil))), by kernel_rfl⟩
              · have g5p := of_dF g5
                exact ⟨[(2, .slot (.bool false)), (7, .slot (.bool ((decide (((nth (nth ks m) r).able : Int) ≥ 4)) && (!(canB (ableOf ks (nth ((nth (nth ks m) r).fields) i)) 4)))))], _, (a2 (kB g5) (a2 (kB (b := false) (c := ((decide (((nth (nth ks m) r).able : Int) ≥ 4)) && (!(canB (ableOf ks (nth ((nth (nth ks m) r).fields) i)) 4)))) (by first | (simp only [g5, Bool.true_or, Bool.false_or, Bool.or_false, Bool.or_true, Bool.true_and, Bool.false_and, Bool.and_true, Bool.and_false, Bool.not_true, Bool.not_false, cond_true, cond_false]; done) | (simp [g5]; done))) AllP.nil)), by kernel_rfl⟩) ?_
          refine xw_cond ((decide (((nth (nth ks m) r).able : Int) ≥ 4)) && (!(canB (ableOf ks (nth ((nth (nth ks m) r).fields) i)) 4))) rfl (fun h5 => ?_) (fun h5 => ?_)
          · have h5 := h5
            refine vx c [(12, .bool false)] [] AllP.nil (by kernel_rfl) ?_
            exact xret [.lf (.im true (.bool false))] rfl (by kernel_rfl) (retBF (fun h => uptoN (i := i) (by omega) (fun hq => by have := hs.symm.trans hq.2; rw [h5] at this; simp at this) h.fields))
          · have h5 := h5
            refine xw_skip ?_
            exact vxe c [(0, .lf (.im true (.sl 1 (ks.map rRecs)))), (2, .int ((m : Nat) : Int)), (4, .int ((r : Nat) : Int)), (14, .lf (.ptr 7 0)), (15, .cell 7 [.im true (.int .i64 ((nth (nth ks m) r).able)), .im true (.sl 1 (((nth (nth ks m) r).fields).map rS))]), (16, .int ((i + 1 : Nat) : Int))] [(1, .slot (.int ((i + 1 : Nat) : Int)))] (a2 (wI (a := ((i : Nat) : Int) + 1) (b := ((i + 1 : Nat) : Int)) (by omega) (by omega) (by omega)) AllP.nil) (by kernel_rfl) (⟨_, by omega, (i + 1), rfl, rfl, ⟨by omega, uptoS hP1.2 ⟨hf, by rw [hs, h4, h5]; rfl⟩⟩⟩)
    · have h2 := of_dF h2
      refine xw_exit ?_
      refine vx c [(12, .bool true)] [] AllP.nil (by kernel_rfl) ?_
      exact xret [.lf (.im true (.bool true))] rfl (by kernel_rfl) (retBT (⟨hx.1, hx.2.1, hx.2.2, uptoE hP1.2 (by omega)⟩ : RecOk ks m r))
set_option maxRecDepth 100000 in
theorem impl_KindsBad_v (ks : Kinds) :
    CallV Tryz.prog 77 [.lf (.im true (.sl 1 (ks.map rRecs)))] (· = .tup [.lf (.im true (.int .i64 (badM ks))), .lf (.im true (.int .i64 (badR ks)))]) := by
  refine CallX (fn := Tryz.f77) TToka mixeda Tryz.func77 rfl rfl rfl rfl rfl fun E c => ?_
  refine vx c [(0, .lf (.im true (.sl 1 (ks.map rRecs))))] [] AllP.nil (by kernel_rfl) ?_
  refine xw_seq ?_
  refine vx c [(0, .lf (.im true (.sl 1 (ks.map rRecs)))), (18, .bool (decide ((((ks.length : Nat) : Int) : Int) > 3)))] [(1, .slot (.int ((ks.length : Nat) : Int)))] (a2 (ln (l := ks) (f := rRecs)) AllP.nil) (by kernel_rfl) ?_
  refine xw_cond (decide ((((ks.length : Nat) : Int) : Int) > 3)) rfl (fun h1 => ?_) (fun h1 => ?_)
  · have h1 := of_dT h1
    refine vx c [(4, .int 3), (6, .int 0)] [] AllP.nil (by kernel_rfl) ?_
    exact xret [.lf (.im true (.int .i64 3)), .lf (.im true (.int .i64 0))] rfl (by kernel_rfl) (retII (bad_big (by omega)))
  · have h1 := of_dF h1
    refine xw_skip ?_
    refine xw_seq ?_
    refine vx c [(0, .lf (.im true (.sl 1 (ks.map rRecs)))), (20, .lf (.im true (.sl 1 (ks.map rRecs)))), (22, .int ((ks.length : Nat) : Int)), (24, .int 0)] [(1, .slot (.int ((ks.length : Nat) : Int)))] (a2 (ln (l := ks) (f := rRecs)) AllP.nil) (by kernel_rfl) ?_
    refine xw_block ?_
    refine xw_loop (fun n L => ∃ (i : Nat), L = [(0, .lf (.im true (.sl 1 (ks.map rRecs)))), (20, .lf (.im true (.sl 1 (ks.map rRecs)))), (22, .int ((ks.length : Nat) : Int)), (24, .int ((i : Nat) : Int))] ∧ n = ks.length - i ∧ (i ≤ ks.length ∧ ∀ j, j < i → ModOk ks j)) _ ⟨0, rfl, rfl, ⟨by omega, fun j hj => by omega⟩⟩ ?_
    rintro n L ⟨i, rfl, rfl, hP1⟩
    refine vx c [(0, .lf (.im true (.sl 1 (ks.map rRecs)))), (20, .lf (.im true (.sl 1 (ks.map rRecs)))), (22, .int ((ks.length : Nat) : Int)), (24, .int ((i : Nat) : Int)), (26, .bool (decide ((((i : Nat) : Int) : Int) < ((ks.length : Nat) : Int))))] [] AllP.nil (by kernel_rfl) ?_
    refine xw_seq ?_
    refine xw_cond (decide ((((i : Nat) : Int) : Int) < ((ks.length : Nat) : Int))) rfl (fun h2 => ?_) (fun h2 => ?_)
    · have h2 := of_dT h2
      refine xw_skip ?_
      refine xw_seq ?_
      refine xw_block ?_
      refine vx c [(0, .lf (.im true (.sl 1 (ks.map rRecs)))), (8, .int ((i : Nat) : Int)), (10, .lf (.im true (.sl 2 ((nth ks i).map rRec)))), (20, .lf (.im true (.sl 1 (ks.map rRecs)))), (22, .int ((ks.length : Nat) : Int)), (24, .int ((i : Nat) : Int))] [(1, .row (rRecs (nth ks i)))] (a2 (ix (f := rRecs) (l := ks) (i := i) (nth_at (l := ks) (i := i) (by omega))) AllP.nil) (by kernel_rfl) ?_
      refine xw_seq ?_
      refine vx c [(0, .lf (.im true (.sl 1 (ks.map rRecs)))), (8, .int ((i : Nat) : Int)), (10, .lf (.im true (.sl 2 ((nth ks i).map rRec)))), (20, .lf (.im true (.sl 1 (ks.map rRecs)))), (22, .int ((ks.length : Nat) : Int)), (24, .int ((i : Nat) : Int)), (38, .bool (decide (((((nth ks i).length : Nat) : Int) : Int) > 3)))] [(1, .slot (.int (((nth ks i).length : Nat) : Int)))] (a2 (ln (l := (nth ks i)) (f := rRec)) AllP.nil) (by kernel_rfl) ?_
      refine xw_cond (decide (((((nth ks i).length : Nat) : Int) : Int) > 3)) rfl (fun h3 => ?_) (fun h3 => ?_)
      · have h3 := of_dT h3
        refine vx c [(4, .int ((i : Nat) : Int)), (6, .int 3)] [] AllP.nil (by kernel_rfl) ?_
        exact xret [.lf (.im true (.int .i64 ((i : Nat) : Int))), .lf (.im true (.int .i64 3))] rfl (by kernel_rfl) (retII (bad_len (by omega) (by omega) hP1.2 (by omega)))
      · have h3 := of_dF h3
        refine xw_skip ?_
        refine vx c [(0, .lf (.im true (.sl 1 (ks.map rRecs)))), (8, .int ((i : Nat) : Int)), (20, .lf (.im true (.sl 1 (ks.map rRecs)))), (22, .int ((ks.length : Nat) : Int)), (24, .int ((i : Nat) : Int)), (44, .int (((nth ks i).length : Nat) : Int)), (46, .int 0)] [(1, .slot (.int (((nth ks i).length : Nat) : Int)))] (a2 (ln (l := (nth ks i)) (f := rRec)) AllP.nil) (by kernel_rfl) ?_
        refine xw_block ?_
        refine xw_loop (fun n L => ∃ (r : Nat), L = [(0, .lf (.im true (.sl 1 (ks.map rRecs)))), (8, .int ((i : Nat) : Int)), (20, .lf (.im true (.sl 1 (ks.map rRecs)))), (22, .int ((ks.length : Nat) : Int)), (24, .int ((i : Nat) : Int)), (44, .int (((nth ks i).length : Nat) : Int)), (46, .int ((r : Nat) : Int))] ∧ n = (nth ks i).length - r ∧ (r ≤ (nth ks i).length ∧ ∀ j, j < r → RecOk ks i j)) _ ⟨0, rfl, rfl, ⟨by omega, fun j hj => by omega⟩⟩ ?_
        rintro n L ⟨r, rfl, rfl, hP2⟩
        refine vx c [(0, .lf (.im true (.sl 1 (ks.map rRecs)))), (8, .int ((i : Nat) : Int)), (20, .lf (.im true (.sl 1 (ks.map rRecs)))), (22, .int ((ks.length : Nat) : Int)), (24, .int ((i : Nat) : Int)), (44, .int (((nth ks i).length : Nat) : Int)), (46, .int ((r : Nat) : Int)), (48, .bool (decide ((((r : Nat) : Int) : Int) < (((nth ks i).length : Nat) : Int))))] [] AllP.nil (by kernel_rfl) ?_
        refine xw_seq ?_
        refine xw_cond (decide ((((r : Nat) : Int) : Int) < (((nth ks i).length : Nat) : Int))) rfl (fun h4 => ?_) (fun h4 => ?_)
        · have h4 := of_dT h4
          refine xw_skip ?_
          refine xw_seq ?_
          refine xw_block ?_
          refine vx c [(0, .lf (.im true (.sl 1 (ks.map rRecs)))), (8, .int ((i : Nat) : Int)), (12, .int ((r : Nat) : Int)), (20, .lf (.im true (.sl 1 (ks.map rRecs)))), (22, .int ((ks.length : Nat) : Int)), (24, .int ((i : Nat) : Int)), (44, .int (((nth ks i).length : Nat) : Int)), (46, .int ((r : Nat) : Int))] [] AllP.nil (by kernel_rfl) ?_
          refine vx c [(0, .lf (.im true (.sl 1 (ks.map rRecs)))), (8, .int ((i : Nat) : Int)), (12, .int ((r : Nat) : Int)), (20, .lf (.im true (.sl 1 (ks.map rRecs)))), (22, .int ((ks.length : Nat) : Int)), (24, .int ((i : Nat) : Int)), (44, .int (((nth ks i).length : Nat) : Int)), (46, .int ((r : Nat) : Int)), (60, .bool (!(B (RecOk ks i r))))] [(3, .ret (.bool (B (RecOk ks i r))))] (a2 (cl tx101a (impl_recordOk_v ks i r (by omega) (by omega) (ahead_of hP1.2 hP2.2))) AllP.nil) (by kernel_rfl) ?_
          refine xw_cond (!(B (RecOk ks i r))) rfl (fun h5 => ?_) (fun h5 => ?_)
          · have h5 : (B (RecOk ks i r)) = false := of_nT h5
            refine vx c [(4, .int ((i : Nat) : Int)), (6, .int ((r : Nat) : Int))] [] AllP.nil (by kernel_rfl) ?_
            exact xret [.lf (.im true (.int .i64 ((i : Nat) : Int))), .lf (.im true (.int .i64 ((r : Nat) : Int)))] rfl (by kernel_rfl) (retII (bad_rec (by omega) (by omega) hP1.2 (by omega) (by omega) hP2.2 (fun hr => by rw [B_true hr] at h5; cases h5)))
          · have h5 : (B (RecOk ks i r)) = true := of_nF h5
            refine xw_skip ?_
            exact vxe c [(0, .lf (.im true (.sl 1 (ks.map rRecs)))), (8, .int ((i : Nat) : Int)), (20, .lf (.im true (.sl 1 (ks.map rRecs)))), (22, .int ((ks.length : Nat) : Int)), (24, .int ((i : Nat) : Int)), (44, .int (((nth ks i).length : Nat) : Int)), (46, .int ((r + 1 : Nat) : Int))] [(0, .slot (.int ((r + 1 : Nat) : Int)))] (a2 (wI (a := ((r : Nat) : Int) + 1) (b := ((r + 1 : Nat) : Int)) (by omega) (by omega) (by omega)) AllP.nil) (by kernel_rfl) (⟨_, by omega, (r + 1), rfl, rfl, ⟨by omega, mods_succ hP2.2 (B_iff.1 h5)⟩⟩)
        · have h4 := of_dF h4
          refine xw_exit ?_
          exact vxe c [(0, .lf (.im true (.sl 1 (ks.map rRecs)))), (20, .lf (.im true (.sl 1 (ks.map rRecs)))), (22, .int ((ks.length : Nat) : Int)), (24, .int ((i + 1 : Nat) : Int))] [(0, .slot (.int ((i + 1 : Nat) : Int)))] (a2 (wI (a := ((i : Nat) : Int) + 1) (b := ((i + 1 : Nat) : Int)) (by omega) (by omega) (by omega)) AllP.nil) (by kernel_rfl) (⟨_, by omega, (i + 1), rfl, rfl, ⟨by omega, mods_succ hP1.2 ⟨by omega, fun q hq => hP2.2 q (by omega)⟩⟩⟩)
    · have h2 := of_dF h2
      refine xw_exit ?_
      refine vx c [(4, .int (-1)), (6, .int (-1))] [] AllP.nil (by kernel_rfl) ?_
      exact xret [.lf (.im true (.int .i64 (-1))), .lf (.im true (.int .i64 (-1)))] rfl (by kernel_rfl) (retII (bad_no (by omega) fun j hj => hP1.2 j (by omega)))
set_option maxRecDepth 100000 in
theorem spec_KindsBad_v (ks : Kinds) :
    CallV Tryz.prog 82 [.lf (.im true (.sl 1 (ks.map rRecs)))] (· = .tup [.lf (.im true (.int .i64 (badM ks))), .lf (.im true (.int .i64 (badR ks)))]) := by
  refine CallX (fn := Tryz.f82) TToka mixeda Tryz.func82 rfl rfl rfl rfl rfl fun E c => ?_
  refine vx c [(0, .lf (.im true (.sl 1 (ks.map rRecs))))] [] AllP.nil (by kernel_rfl) ?_
  refine xw_seq ?_
  refine vx c [(0, .lf (.im true (.sl 1 (ks.map rRecs)))), (16, .bool (decide ((((ks.length : Nat) : Int) : Int) > 3)))] [(1, .slot (.int ((ks.length : Nat) : Int)))] (a2 (ln (l := ks) (f := rRecs)) AllP.nil) (by kernel_rfl) ?_
  refine xw_cond (decide ((((ks.length : Nat) : Int) : Int) > 3)) rfl (fun h1 => ?_) (fun h1 => ?_)
  · have h1 := of_dT h1
    refine vx c [(4, .int 3), (6, .int 0)] [] AllP.nil (by kernel_rfl) ?_
    exact xret [.lf (.im true (.int .i64 3)), .lf (.im true (.int .i64 0))] rfl (by kernel_rfl) (retII (bad_big (by omega)))
  · have h1 := of_dF h1
    refine xw_skip ?_
    refine xw_seq ?_
    refine vx c [(0, .lf (.im true (.sl 1 (ks.map rRecs)))), (8, .int 0)] [] AllP.nil (by kernel_rfl) ?_
    refine xw_block ?_
    refine xw_loop (fun n L => ∃ (i : Nat), L = [(0, .lf (.im true (.sl 1 (ks.map rRecs)))), (8, .int ((i : Nat) : Int))] ∧ n = ks.length - i ∧ (i ≤ ks.length ∧ ∀ j, j < i → ModOk ks j)) _ ⟨0, rfl, rfl, ⟨by omega, fun j hj => by omega⟩⟩ ?_
    rintro n L ⟨i, rfl, rfl, hP1⟩
    refine xw_seq ?_
    refine vx c [(0, .lf (.im true (.sl 1 (ks.map rRecs)))), (8, .int ((i : Nat) : Int)), (24, .bool (decide ((((i : Nat) : Int) : Int) < ((ks.length : Nat) : Int))))] [(2, .slot (.int ((ks.length : Nat) : Int)))] (a2 (ln (l := ks) (f := rRecs)) AllP.nil) (by kernel_rfl) ?_
    refine xw_cond (decide ((((i : Nat) : Int) : Int) < ((ks.length : Nat) : Int))) rfl (fun h2 => ?_) (fun h2 => ?_)
    · have h2 := of_dT h2
      refine xw_skip ?_
      refine xw_seq ?_
      refine xw_block ?_
      refine xw_seq ?_
      refine vx c [(0, .lf (.im true (.sl 1 (ks.map rRecs)))), (8, .int ((i : Nat) : Int)), (40, .bool (decide (((((nth ks i).length : Nat) : Int) : Int) > 3)))] [(2, .row (rRecs (nth ks i))), (4, .slot (.int (((nth ks i).length : Nat) : Int)))] (a2 (ix (f := rRecs) (l := ks) (i := i) (nth_at (l := ks) (i := i) (by omega))) (a2 (ln (l := (nth ks i)) (f := rRec)) AllP.nil)) (by kernel_rfl) ?_
      refine xw_cond (decide (((((nth ks i).length : Nat) : Int) : Int) > 3)) rfl (fun h3 => ?_) (fun h3 => ?_)
      · have h3 := of_dT h3
        refine vx c [(4, .int ((i : Nat) : Int)), (6, .int 3)] [] AllP.nil (by kernel_rfl) ?_
        exact xret [.lf (.im true (.int .i64 ((i : Nat) : Int))), .lf (.im true (.int .i64 3))] rfl (by kernel_rfl) (retII (bad_len (by omega) (by omega) hP1.2 (by omega)))
      · have h3 := of_dF h3
        refine xw_skip ?_
        refine vx c [(0, .lf (.im true (.sl 1 (ks.map rRecs)))), (8, .int ((i : Nat) : Int)), (10, .int 0)] [] AllP.nil (by kernel_rfl) ?_
        refine xw_block ?_
        refine xw_loop (fun n L => ∃ (r : Nat), L = [(0, .lf (.im true (.sl 1 (ks.map rRecs)))), (8, .int ((i : Nat) : Int)), (10, .int ((r : Nat) : Int))] ∧ n = (nth ks i).length - r ∧ (r ≤ (nth ks i).length ∧ ∀ j, j < r → RecOk ks i j)) _ ⟨0, rfl, rfl, ⟨by omega, fun j hj => by omega⟩⟩ ?_
        rintro n L ⟨r, rfl, rfl, hP2⟩
        refine xw_seq ?_
        refine vx c [(0, .lf (.im true (.sl 1 (ks.map rRecs)))), (8, .int ((i : Nat) : Int)), (10, .int ((r : Nat) : Int)), (56, .bool (decide ((((r : Nat) : Int) : Int) < (((nth ks i).length : Nat) : Int))))] [(3, .row (rRecs (nth ks i))), (5, .slot (.int (((nth ks i).length : Nat) : Int)))] (a2 (ix (f := rRecs) (l := ks) (i := i) (nth_at (l := ks) (i := i) (by omega))) (a2 (ln (l := (nth ks i)) (f := rRec)) AllP.nil)) (by kernel_rfl) ?_
        refine xw_cond (decide ((((r : Nat) : Int) : Int) < (((nth ks i).length : Nat) : Int))) rfl (fun h4 => ?_) (fun h4 => ?_)
        · have h4 := of_dT h4
          refine xw_skip ?_
          refine xw_seq ?_
          refine xw_block ?_
          refine vx c [(0, .lf (.im true (.sl 1 (ks.map rRecs)))), (8, .int ((i : Nat) : Int)), (10, .int ((r : Nat) : Int)), (70, .bool (!(B (RecOk ks i r))))] [(3, .ret (.bool (B (RecOk ks i r))))] (a2 (cl tx106a (spec_l1Record_v ks i r (by omega) (by omega) (ahead_of hP1.2 hP2.2))) AllP.nil) (by kernel_rfl) ?_
          refine xw_cond (!(B (RecOk ks i r))) rfl (fun h5 => ?_) (fun h5 => ?_)
          · have h5 : (B (RecOk ks i r)) = false := of_nT h5
            refine vx c [(4, .int ((i : Nat) : Int)), (6, .int ((r : Nat) : Int))] [] AllP.nil (by kernel_rfl) ?_
            exact xret [.lf (.im true (.int .i64 ((i : Nat) : Int))), .lf (.im true (.int .i64 ((r : Nat) : Int)))] rfl (by kernel_rfl) (retII (bad_rec (by omega) (by omega) hP1.2 (by omega) (by omega) hP2.2 (fun hr => by rw [B_true hr] at h5; cases h5)))
          · have h5 : (B (RecOk ks i r)) = true := of_nF h5
            refine xw_skip ?_
            exact vxe c [(0, .lf (.im true (.sl 1 (ks.map rRecs)))), (8, .int ((i : Nat) : Int)), (10, .int ((r + 1 : Nat) : Int))] [(1, .slot (.int ((r + 1 : Nat) : Int)))] (a2 (wI (a := ((r : Nat) : Int) + 1) (b := ((r + 1 : Nat) : Int)) (by omega) (by omega) (by omega)) AllP.nil) (by kernel_rfl) (⟨_, by omega, (r + 1), rfl, rfl, ⟨by omega, mods_succ hP2.2 (B_iff.1 h5)⟩⟩)
        · have h4 := of_dF h4
          refine xw_exit ?_
          exact vxe c [(0, .lf (.im true (.sl 1 (ks.map rRecs)))), (8, .int ((i + 1 : Nat) : Int))] [(1, .slot (.int ((i + 1 : Nat) : Int)))] (a2 (wI (a := ((i : Nat) : Int) + 1) (b := ((i + 1 : Nat) : Int)) (by omega) (by omega) (by omega)) AllP.nil) (by kernel_rfl) (⟨_, by omega, (i + 1), rfl, rfl, ⟨by omega, mods_succ hP1.2 ⟨by omega, fun q hq => hP2.2 q (by omega)⟩⟩⟩)
    · have h2 := of_dF h2
      refine xw_exit ?_
      refine vx c [(4, .int (-1)), (6, .int (-1))] [] AllP.nil (by kernel_rfl) ?_
      exact xret [.lf (.im true (.int .i64 (-1))), .lf (.im true (.int .i64 (-1)))] rfl (by kernel_rfl) (retII (bad_no (by omega) fun j hj => hP1.2 j (by omega)))
set_option maxRecDepth 100000 in
theorem impl_KindsOk_v (ks : Kinds) :
    CallV Tryz.prog 44 [.lf (.im true (.sl 1 (ks.map rRecs)))] (· = .bool (B (KOk ks))) := by
  refine CallX (fn := Tryz.f44) TToka mixeda Tryz.func44 rfl rfl rfl rfl rfl fun E c => ?_
  refine vx c [(0, .lf (.im true (.sl 1 (ks.map rRecs))))] [] AllP.nil (by kernel_rfl) ?_
  refine vx c [(6, .int (badM ks))] [(1, .ret (.tup [.lf (.im true (.int .i64 (badM ks))), .lf (.im true (.int .i64 (badR ks)))]))] (a2 (cl tx77a (impl_KindsBad_v ks)) AllP.nil) (by kernel_rfl) ?_
  refine vx c [(4, .bool (decide ((badM ks : Int) = (-1))))] [] AllP.nil (by kernel_rfl) ?_
  exact xret [.lf (.im true (.bool (decide ((badM ks : Int) = (-1)))))] rfl (by kernel_rfl) (retBB (by simp [badM_eq]))
set_option maxRecDepth 100000 in
theorem spec_KindsOk_v (ks : Kinds) :
    CallV Tryz.prog 50 [.lf (.im true (.sl 1 (ks.map rRecs)))] (· = .bool (B (KOk ks))) := by
  refine CallX (fn := Tryz.f50) TToka mixeda Tryz.func50 rfl rfl rfl rfl rfl fun E c => ?_
  refine vx c [(0, .lf (.im true (.sl 1 (ks.map rRecs))))] [] AllP.nil (by kernel_rfl) ?_
  refine vx c [(6, .int (badM ks))] [(1, .ret (.tup [.lf (.im true (.int .i64 (badM ks))), .lf (.im true (.int .i64 (badR ks)))]))] (a2 (cl tx82a (spec_KindsBad_v ks)) AllP.nil) (by kernel_rfl) ?_
  refine vx c [(4, .bool (decide ((badM ks : Int) < 0)))] [] AllP.nil (by kernel_rfl) ?_
  exact xret [.lf (.im true (.bool (decide ((badM ks : Int) < 0))))] rfl (by kernel_rfl) (retBB (by simp [badM_iff]))
set_option maxRecDepth 100000 in
theorem impl_rising_vL (l : List Int) (ha : l.length ≤ 140737488355328) (lo hi : Int) :
    CallV Tryz.prog 45 [.lf (.im false (.sl 1 (l.map rI))), .lf (.im true (.int .i64 lo)), .lf (.im true (.int .i64 hi))] (· = .bool (B (Rising l lo hi))) := by
  refine CallX (fn := Tryz.f45) TToka mixeda Tryz.func45 rfl rfl rfl rfl rfl fun E c => ?_
  refine vx c [(0, .lf (.im false (.sl 1 (l.map rI)))), (2, .int lo), (4, .int hi)] [] AllP.nil (by kernel_rfl) ?_
  refine xw_seq ?_
  refine vx c [(0, .lf (.im false (.sl 1 (l.map rI)))), (2, .int lo), (4, .int hi), (18, .lf (.im false (.sl 1 (l.map rI)))), (20, .int ((l.length : Nat) : Int)), (22, .int 0)] [(1, .slot (.int ((l.length : Nat) : Int)))] (a2 (ln (l := l) (f := rI)) AllP.nil) (by kernel_rfl) ?_
  refine xw_block ?_
  refine xw_loop (fun n L => ∃ (i : Nat), L = [(0, .lf (.im false (.sl 1 (l.map rI)))), (2, .int lo), (4, .int hi), (18, .lf (.im false (.sl 1 (l.map rI)))), (20, .int ((l.length : Nat) : Int)), (22, .int ((i : Nat) : Int))] ∧ n = l.length - i ∧ (i ≤ l.length ∧ Upto (rise1 l lo hi) l i)) _ ⟨0, rfl, rfl, ⟨by omega, upto0⟩⟩ ?_
  rintro n L ⟨i, rfl, rfl, hP1⟩
  refine vx c [(0, .lf (.im false (.sl 1 (l.map rI)))), (2, .int lo), (4, .int hi), (18, .lf (.im false (.sl 1 (l.map rI)))), (20, .int ((l.length : Nat) : Int)), (22, .int ((i : Nat) : Int)), (24, .bool (decide ((((i : Nat) : Int) : Int) < ((l.length : Nat) : Int))))] [] AllP.nil (by kernel_rfl) ?_
  refine xw_seq ?_
  refine xw_cond (decide ((((i : Nat) : Int) : Int) < ((l.length : Nat) : Int))) rfl (fun h1 => ?_) (fun h1 => ?_)
  · have h1 := of_dT h1
    refine xw_skip ?_
    refine xw_seq ?_
    refine xw_block ?_
    refine vx c [(0, .lf (.im false (.sl 1 (l.map rI)))), (2, .int lo), (4, .int hi), (14, .int ((i : Nat) : Int)), (16, .int (nth l i)), (18, .lf (.im false (.sl 1 (l.map rI)))), (20, .int ((l.length : Nat) : Int)), (22, .int ((i : Nat) : Int))] [(1, .row (rI (nth l i)))] (a2 (ix (f := rI) (l := l) (i := i) (nth_at (l := l) (i := i) (by omega))) AllP.nil) (by kernel_rfl) ?_
    refine vxj c [(0, .lf (.im false (.sl 1 (l.map rI)))), (2, .int lo), (4, .int hi), (18, .lf (.im false (.sl 1 (l.map rI)))), (20, .int ((l.length : Nat) : Int)), (22, .int ((i : Nat) : Int)), (72, .bool ((decide (((nth l i) : Int) < lo)) || ((decide (((nth l i) : Int) > hi)) || ((decide ((((i : Nat) : Int) : Int) > 0)) && (decide (((nth l i) : Int) ≤ (nth l (i - 1))))))))] (by
        rcases Bool.eq_false_or_eq_true (decide (((nth l i) : Int) < lo)) with g1 | g1
        · have g1p := of_dT g1
          exact ⟨[(2, .slot (.bool true)), (20, .slot (.bool ((decide (((nth l i) : Int) < lo)) || ((decide (((nth l i) : Int) > hi)) || ((decide ((((i : Nat) : Int) : Int) > 0)) && (decide (((nth l i) : Int) ≤ (nth l (i - 1)))))))))], _, (a2 (kB g1) (a2 (kB (b := true) (c := ((decide (((nth l i) : Int) < lo)) || ((decide (((nth l i) : Int) > hi)) || ((decide ((((i : Nat) : Int) : Int) > 0)) && (decide (((nth l i) : Int) ≤ (nth l (i - 1)))))))) (by first | (simp only [g1, Bool.true_or, Bool.false_or, Bool.or_false, Bool.or_true, Bool.true_and, Bool.false_and, Bool.and_true, Bool.and_false, Bool.not_true, Bool.not_false, cond_true, cond_false]; done) | (simp [g1]; done))) AllP.nil)), by kernel_rfl⟩
        · have g1p := of_dF g1
          rcases Bool.eq_false_or_eq_true (decide (((nth l i) : Int) > hi)) with g2 | g2
          · have g2p := of_dT g2
            exact ⟨[(2, .slot (.bool false)), (6, .slot (.bool true)), (20, .slot (.bool ((decide (((nth l i) : Int) < lo)) || ((decide (((nth l i) : Int) > hi)) || ((decide ((((i : Nat) : Int) : Int) > 0)) && (decide (((nth l i) : Int) ≤ (nth l (i - 1)))))))))], _, (a2 (kB g1) (a2 (kB g2) (a2 (kB (b := true) (c := ((decide (((nth l i) : Int) < lo)) || ((decide (((nth l i) : Int) > hi)) || ((decide ((((i : Nat) : Int) : Int) > 0)) && (decide (((nth l i) : Int) ≤ (nth l (i - 1)))))))) (by first | (simp only [g1, g2, Bool.true_or, Bool.false_or, Bool.or_false, Bool.or_true, Bool.true_and, Bool.false_and, Bool.and_true, Bool.and_false, Bool.not_true, Bool.not_false, cond_true, cond_false]; done) | (simp [g1, g2]; done))) AllP.nil))), by kernel_rfl⟩
          · have g2p := of_dF g2
            rcases Bool.eq_false_or_eq_true (decide ((((i : Nat) : Int) : Int) > 0)) with g3 | g3
            · have g3p := of_dT g3
              exact ⟨[(2, .slot (.bool false)), (6, .slot (.bool false)), (10, .slot (.bool true)), (15, .slot (.int ((i - 1 : Nat) : Int))), (16, .row (rI (nth l (i - 1)))), (20, .slot (.bool ((decide (((nth l i) : Int) < lo)) || ((decide (((nth l i) : Int) > hi)) || ((decide ((((i : Nat) : Int) : Int) > 0)) && (decide (((nth l i) : Int) ≤ (nth l (i - 1)))))))))], _, (a2 (kB g1) (a2 (kB g2) (a2 (kB g3) (a2 (wI (a := ((i : Nat) : Int) - 1) (b := ((i - 1 : Nat) : Int)) (by omega) (by omega) (by omega)) (a2 (ix (f := rI) (l := l) (i := i - 1) (nth_at (l := l) (i := i - 1) (by omega))) (a2 (kB (b := decide (((nth l i) : Int) ≤ (nth l (i - 1)))) (c := ((decide (((nth l i) : Int) < lo)) || ((decide (((nth l i) : Int) > hi)) || ((decide ((((i : Nat) : Int) : Int) > 0)) && (decide (((nth l i) : Int) ≤ (nth l (i - 1)))))))) (by first | (simp only [g1, g2, g3, Bool.true_or, Bool.false_or, Bool.or_false, Bool.or_true, Bool.true_and, Bool.false_and, Bool.and_true, Bool.and_false, Bool.not_true, Bool.not_false, cond_true, cond_false]; done) | (simp [g1, g2, g3]; done))) AllP.nil)))))), by kernel_rfl⟩
            · have g3p := of_dF g3
              exact ⟨[(2, .slot (.bool false)), (6, .slot (.bool false)), (10, .slot (.bool false)), (20, .slot (.bool ((decide (((nth l i) : Int) < lo)) || ((decide (((nth l i) : Int) > hi)) || ((decide ((((i : Nat) : Int) : Int) > 0)) && (decide (((nth l i) : Int) ≤ (nth l (i - 1)))))))))], _, (a2 (kB g1) (a2 (kB g2) (a2 (kB g3) (a2 (kB (b := false) (c := ((decide (((nth l i) : Int) < lo)) || ((decide (((nth l i) : Int) > hi)) || ((decide ((((i : Nat) : Int) : Int) > 0)) && (decide (((nth l i) : Int) ≤ (nth l (i - 1)))))))) (by first | (simp only [g1, g2, g3, Bool.true_or, Bool.false_or, Bool.or_false, Bool.or_true, Bool.true_and, Bool.false_and, Bool.and_true, Bool.and_false, Bool.not_true, Bool.not_false, cond_true, cond_false]; done) | (simp [g1, g2, g3]; done))) AllP.nil)))), by kernel_rfl⟩) ?_
    refine xw_cond ((decide (((nth l i) : Int) < lo)) || ((decide (((nth l i) : Int) > hi)) || ((decide ((((i : Nat) : Int) : Int) > 0)) && (decide (((nth l i) : Int) ≤ (nth l (i - 1))))))) rfl (fun h2 => ?_) (fun h2 => ?_)
    · have h2 := h2
      refine vx c [(12, .bool false)] [] AllP.nil (by kernel_rfl) ?_
      exact xret [.lf (.im true (.bool false))] rfl (by kernel_rfl) (retBF (uptoN (i := i) (by omega) (by simp at h2; unfold rise1; omega)))
    · have h2 := h2
      refine xw_skip ?_
      exact vxe c [(0, .lf (.im false (.sl 1 (l.map rI)))), (2, .int lo), (4, .int hi), (18, .lf (.im false (.sl 1 (l.map rI)))), (20, .int ((l.length : Nat) : Int)), (22, .int ((i + 1 : Nat) : Int))] [(0, .slot (.int ((i + 1 : Nat) : Int)))] (a2 (wI (a := ((i : Nat) : Int) + 1) (b := ((i + 1 : Nat) : Int)) (by omega) (by omega) (by omega)) AllP.nil) (by kernel_rfl) (⟨_, by omega, (i + 1), rfl, rfl, ⟨by omega, uptoS hP1.2 (by simp at h2; unfold rise1; omega)⟩⟩)
  · have h1 := of_dF h1
    refine xw_exit ?_
    refine vx c [(12, .bool true)] [] AllP.nil (by kernel_rfl) ?_
    exact xret [.lf (.im true (.bool true))] rfl (by kernel_rfl) (retBT (uptoE hP1.2 (by omega)))
set_option maxRecDepth 100000 in
theorem impl_typesFit_vL (ks : Kinds) (l : List ByteArray) (ha : l.length ≤ 140737488355328) :
    CallV Tryz.prog 78 [.lf (.im true (.sl 1 (ks.map rRecs))), .lf (.im false (.sl 1 (l.map rS)))] (· = .bool (B (Fit ks l))) := by
  refine CallX (fn := Tryz.f78) TToka mixeda Tryz.func78 rfl rfl rfl rfl rfl fun E c => ?_
  refine vx c [(0, .lf (.im true (.sl 1 (ks.map rRecs)))), (2, .lf (.im false (.sl 1 (l.map rS))))] [] AllP.nil (by kernel_rfl) ?_
  refine xw_seq ?_
  refine vx c [(0, .lf (.im true (.sl 1 (ks.map rRecs)))), (18, .lf (.im false (.sl 1 (l.map rS)))), (20, .int ((l.length : Nat) : Int)), (22, .int 0)] [(1, .slot (.int ((l.length : Nat) : Int)))] (a2 (ln (l := l) (f := rS)) AllP.nil) (by kernel_rfl) ?_
  refine xw_block ?_
  refine xw_loop (fun n L => ∃ (i : Nat), L = [(0, .lf (.im true (.sl 1 (ks.map rRecs)))), (18, .lf (.im false (.sl 1 (l.map rS)))), (20, .int ((l.length : Nat) : Int)), (22, .int ((i : Nat) : Int))] ∧ n = l.length - i ∧ (i ≤ l.length ∧ Upto (fun _ t => plainOk ks (pl t) = true) l i)) _ ⟨0, rfl, rfl, ⟨by omega, upto0⟩⟩ ?_
  rintro n L ⟨i, rfl, rfl, hP1⟩
  refine vx c [(0, .lf (.im true (.sl 1 (ks.map rRecs)))), (18, .lf (.im false (.sl 1 (l.map rS)))), (20, .int ((l.length : Nat) : Int)), (22, .int ((i : Nat) : Int)), (24, .bool (decide ((((i : Nat) : Int) : Int) < ((l.length : Nat) : Int))))] [] AllP.nil (by kernel_rfl) ?_
  refine xw_seq ?_
  refine xw_cond (decide ((((i : Nat) : Int) : Int) < ((l.length : Nat) : Int))) rfl (fun h1 => ?_) (fun h1 => ?_)
  · have h1 := of_dT h1
    refine xw_skip ?_
    refine xw_seq ?_
    refine xw_block ?_
    refine vx c [(0, .lf (.im true (.sl 1 (ks.map rRecs)))), (12, .lf (.im true (.str (nth l i)))), (18, .lf (.im false (.sl 1 (l.map rS)))), (20, .int ((l.length : Nat) : Int)), (22, .int ((i : Nat) : Int))] [(0, .row (rS (nth l i)))] (a2 (ix (f := rS) (l := l) (i := i) (nth_at (l := l) (i := i) (by omega))) AllP.nil) (by kernel_rfl) ?_
    refine vx c [(0, .lf (.im true (.sl 1 (ks.map rRecs)))), (16, .lf (.im true (.str (pl (nth l i))))), (18, .lf (.im false (.sl 1 (l.map rS)))), (20, .int ((l.length : Nat) : Int)), (22, .int ((i : Nat) : Int))] [(1, .ret (.tup [.lf (.im true (.str (sg (nth l i)))), .lf (.im true (.str (pl (nth l i))))]))] (a2 (cl tx73a (impl_signOf_v (nth l i))) AllP.nil) (by kernel_rfl) ?_
    refine vx c [(0, .lf (.im true (.sl 1 (ks.map rRecs)))), (18, .lf (.im false (.sl 1 (l.map rS)))), (20, .int ((l.length : Nat) : Int)), (22, .int ((i : Nat) : Int)), (46, .bool (!(plainOk ks (pl (nth l i)))))] [(2, .ret (.bool (plainOk ks (pl (nth l i)))))] (a2 (cl tx74a (impl_plainOk_v ks (pl (nth l i)))) AllP.nil) (by kernel_rfl) ?_
    refine xw_cond (!(plainOk ks (pl (nth l i)))) rfl (fun h2 => ?_) (fun h2 => ?_)
    · have h2 : (plainOk ks (pl (nth l i))) = false := of_nT h2
      refine vx c [(8, .bool false)] [] AllP.nil (by kernel_rfl) ?_
      exact xret [.lf (.im true (.bool false))] rfl (by kernel_rfl) (retBF (uptoN (i := i) (by omega) (by rw [h2]; exact Bool.false_ne_true)))
    · have h2 : (plainOk ks (pl (nth l i))) = true := of_nF h2
      refine xw_skip ?_
      exact vxe c [(0, .lf (.im true (.sl 1 (ks.map rRecs)))), (18, .lf (.im false (.sl 1 (l.map rS)))), (20, .int ((l.length : Nat) : Int)), (22, .int ((i + 1 : Nat) : Int))] [(0, .slot (.int ((i + 1 : Nat) : Int)))] (a2 (wI (a := ((i : Nat) : Int) + 1) (b := ((i + 1 : Nat) : Int)) (by omega) (by omega) (by omega)) AllP.nil) (by kernel_rfl) (⟨_, by omega, (i + 1), rfl, rfl, ⟨by omega, uptoS hP1.2 h2⟩⟩)
  · have h1 := of_dF h1
    refine xw_exit ?_
    refine vx c [(8, .bool true)] [] AllP.nil (by kernel_rfl) ?_
    exact xret [.lf (.im true (.bool true))] rfl (by kernel_rfl) (retBT (uptoE hP1.2 (by omega)))
end Go.Proofs.YtahciphhopiipaaGreatDoor
